import Derived.Test.YgctalWs
import Derived.Test.YgctalWeq
import Derived.Deep.RegionHeld3
namespace Go.Proofs.Ygctal
open Go.RowKit
set_option maxHeartbeats 4000000
set_option linter.unusedVariables false

theorem FR.below {w w' : World} {b off B : Nat} {fs : List Nat} (h : FR w b off fs) (hb : Below B w w') (hB : b < B) : FR w' b off fs := by
  intro i hi
  rw [hb.cell (p := ⟨b, off + i, none⟩) hB]
  exact h i hi
theorem Own.slice {w : World} {base : Nat} {v : Value} {ps : List Nat} (h : Own w base v ps) : ∃ a c, v = .slice a ps.length c := by
  rcases h.shape with ⟨rfl, rfl⟩ | ⟨g, c, rfl, _, _⟩
  · exact ⟨none, 0, rfl⟩
  · exact ⟨_, c, rfl⟩
theorem Own.grown {w w' : World} {base : Nat} {v : Value} {ps : List Nat} {g : Nat} (h : Own w base v ps) (hg : w.grownBy w' (some g)) (hb : g < base) : Own w' base v ps := by
  refine World.ownsRow.kept h hg ?_
  rcases h.shape with ⟨rfl, rfl⟩ | ⟨g', c, rfl, h1, _⟩
  · left; rfl
  · right; simp [Value.ownBlock]; omega

theorem load_acc {w : World} {g : Nat} {ws : List Nat} (h : AccB w g 31 ws) (hl : ws.length = 68) : (Instr.loadAt 31 (.pointer (some ⟨g, 0, none⟩))).run Talg.prog w = .ok (.agg (accArr ws)) w := by
  simp only [Instr.loadAt, Instr.sureAddr, Sem.run_bind, Sem.run_pure, Result.andThen_ok, run_loadVar_row w g 31 31 (accArr ws) (0, 0) _ h.heap Talg.underlying31 rfl (by rw [accArr_size, hl]; exact acc_info)]
theorem eqGuard31 : Talg.prog.eqGuardType Talg.prog.depth 31 = false := by kernel_rfl

def accL (ws : List Nat) : List Value := ws.map fun n : Nat => Value.int .u64 (n : Int)
theorem accArr_L (ws : List Nat) : accArr ws = (accL ws).toArray := rfl
theorem AccB.range {w : World} {g T : Nat} {ws : List Nat} (h : AccB w g T ws) : w.rangeAt g 0 (accL ws) := by
  intro j v hv
  rw [Nat.zero_add, Blk.cell h j]
  exact hv
theorem accL_one (ws : List Nat) : ∀ v ∈ accL ws, v.oneCell' = true := by
  intro v hv
  unfold accL at hv
  rw [List.mem_map] at hv
  obtain ⟨n, _, rfl⟩ := hv
  rfl
/-- What the region's worlds keep. -/
def GkS (B : Nat) (w : World) (G base : Nat) (a : Option Addr) (n c : Nat) (ps ws : List Nat) (w' : World) : Prop :=
  w'.rangeAt G 0 (accL ws) ∧ Own w' base (.slice a n c) ps ∧ AccB w' G 31 ws ∧ Below B w w'
theorem GkS.next {B : Nat} {w : World} {G base : Nat} {a : Option Addr} {n c : Nat} {ps ws : List Nat} {w1 w2 : World} (h : GkS B w G base a n c ps ws w1) (hb : Below w1.heap.size w1 w2) (hB : B ≤ w1.heap.size) : GkS B w G base a n c ps ws w2 := by
  obtain ⟨h1, h2, h3, h4⟩ := h
  have h3' : AccB w2 G 31 ws := Blk.below h3 hb (Blk.lt h3)
  exact ⟨h3'.range, h2.below hb (Nat.le_refl _), h3', h4.trans (hb.mono hB)⟩

set_option maxRecDepth 1000000 in
theorem gk_r12 {Q : Exit → Act → World → Prop} (w : World) (G m n c base : Nat) (a : Option Addr) (ps ws : List Nat) (z : Int) (HN : Hid (n = ps.length)) (hm : n ≤ m + 1) (hmb : m ≤ 2000) (hnb : n ≤ 1025)
    (HO : Hid (Own w base (.slice a n c) ps)) (HA : Hid (AccB w G 31 ws)) (HZ : Hid (AccOf ws z)) (HS : Hid (Fl.vSum ps * (sc : Int) = z)) (HFin : Hid (∀ p ∈ ps, Fl.Fin p)) (HAp : Hid (Fl.Apart ps))
    (u0 u1 u2 u3 u6 u8 u9 u10 u11 u12 u13 u14 u15 u16 u17 u18 u19 u20 u21 u22 u23 u24 u25 u26 u27 u28 u29 u30 u31 u32 u33 u34 u35 u36 u37 u38 u39 u40 u41 u42 u43 u44 u45 u46 u47 : Value)
    (hQ : ∀ (v32 v33 v34 v35 v36 v37 v38 v39 v40 v41 v42 v43 v44 v45 v46 : Value) (w' : World), Below w.heap.size w w' → Q .normal ⟨#[u0, u1, u2, u3, .slice a n c, .pointer (some ⟨G, 0, none⟩), u6, .int .i64 (m : Int), u8, u9, u10, u11, u12, u13, u14, u15, u16, u17, u18, u19, u20, u21, u22, u23, u24, u25, u26, u27, u28, u29, u30, u31, v32, v33, v34, v35, v36, v37, v38, v39, v40, v41, v42, v43, v44, v45, v46, .bool false], []⟩ w') :
    Code.wp Talg.prog ((Talg.f5.body.bind (regionOf 12)).getD .skip) Q ⟨#[u0, u1, u2, u3, .slice a n c, .pointer (some ⟨G, 0, none⟩), u6, .int .i64 (m : Int), u8, u9, u10, u11, u12, u13, u14, u15, u16, u17, u18, u19, u20, u21, u22, u23, u24, u25, u26, u27, u28, u29, u30, u31, u32, u33, u34, u35, u36, u37, u38, u39, u40, u41, u42, u43, u44, u45, u46, u47], []⟩ w := by
  have hd : decide ((m : Int) + 1 < (n : Int)) = false := by simp; omega
  have hg := eqGuard31
  have hj : IntKind.i64.wrap ((m : Int) + 1) = (m : Int) + 1 := by rw [IntKind.wrap_i64]; omega
  have hnn : ps.length ≤ 1025 := by rw [← HN.out]; exact hnb
  have HNN := hide hnn
  clear hnn
  have hu31 := Talg.underlying31
  have hll : (accL ws).length = 68 := by unfold accL; rw [List.length_map]; exact HZ.out.1
  have hi31 : (Talg.prog.info? 31).map (·.size) = some (accL ws).length := by rw [hll]; exact acc_info
  have hone := accL_one ws
  have harr := accArr_L ws
  have heq := fun wx => eq_acc ws ws HZ.out.1 HZ.out.1 wx
  rw [decide_eq_true rfl, accArr_L] at heq
  have HK := hide (show GkS w.heap.size w G base a n c ps ws w.drew from ⟨HA.out.range, HO.out, HA.out, (Below.refl _ _).drew⟩)
  have HApart := hide (apart_own base _ ps w.drew HO.out HNN.out HFin.out HAp.out)
  have HTot := hide (accTotal_own base _ ps w.drew HO.out HNN.out HFin.out)
  conv => arg 2; whnf
  refine wp_region_noPanic ?_
  go_region_held3 (fun w' => w'.rangeAt G 0 (accL ws) ∧ Hid (GkS w.heap.size w G base a n c ps ws w')) (first | exact ⟨HK.out.1, HK⟩ | exact ⟨HK5.out.1, HK5⟩)
    (first | (go_at_call 27; refine (Hid.out HApart).mono ?_; rintro e w' ⟨rfl, rfl⟩) | (go_at_call 28; refine (Hid.out HTot).mono ?_; rintro e w5 ⟨ws1, rfl, hz1, hb5⟩; rw [HS.out] at hz1; obtain rfl := AccOf.inj hz1 HZ.out; have HK5 := hide (HK.out.next hb5 (by simp))))
  refine NoPanic.normal ?_
  exact hQ _ _ _ _ _ _ _ _ _ _ _ _ _ _ _ _ HK5.out.2.2.2

set_option maxRecDepth 1000000 in
theorem growKeeps_walk (a0 : Option Addr) (len0 cap0 : Nat) (z0 : List Int) (w : World) (w0 : IsRow .u64 w a0 len0 cap0 z0) :
    Calls Talg.prog 5 #[.slice a0 len0 cap0] w fun e w' => e = .returned (.bool true) ∧ Below w.heap.size w w' := by
  have hlen := w0.len 1024
  have hwds := words_wds (k := min len0 1024) w0.wf
  have hfl := floats_any a0 len0 cap0 1024 z0 w w0 (by omega) (by omega)
  have hmn : min len0 1024 ≤ 1024 := Nat.min_le_right _ _
  generalize wordsOf z0 (min len0 1024) = fs at *
  generalize min len0 1024 = n at *
  subst hlen
  have HF := hide hfl
  clear hfl
  cases had : fs.all atMostB
  · go_enter Talg.func5, Talg.ntmps5
    go_wp2_with fail
    refine (Hid.out HF).mono ?_
    rintro e w1 ⟨rfl, hB, hbel⟩
    have hfr := hB.fr
    have HBel := hide hbel
    clear hB hbel
    have ha := admitted_short _ _ fs.length fs w1 hmn hfr hwds
    rw [had] at ha
    have HA := hide ha
    clear ha
    go_wp2_with (go_at_call 24; refine (Hid.out HA).mono ?_; rintro e w' ⟨rfl, rfl⟩)
    go_ret
    exact ⟨rfl, HBel.out⟩
  · have hA := (admitted_iff hwds).1 had
    go_enter Talg.func5, Talg.ntmps5
    go_wp2_with fail
    refine (Hid.out HF).mono ?_
    rintro e w1 ⟨rfl, hB, hbel⟩
    have hlt := hB.lt
    have hfr := hB.fr
    have HBel := hide hbel
    clear hB hbel
    have ha := admitted_short _ _ fs.length fs w1 hmn hfr hwds
    rw [had] at ha
    have HA := hide ha
    clear ha had
    go_wp2_with (go_at_call 24; refine (Hid.out HA).mono ?_; rintro e w' ⟨rfl, rfl⟩)
    have HFr := hide hfr
    clear hfr HA
    have HT := hide (AccB.new w')
    have HO := hide (show Own (w'.alloc (.cells Talg.zeroCells31 31)) (w'.heap.size + 1) (.slice none 0 0) [] from World.ownsRow_nil _ _ _ _)
    have HB1 := hide ((Below.refl w'.heap.size w').alloc (Nat.le_refl _) (.cells Talg.zeroCells31 31))
    have hs1 : w'.heap.size + 1 ≤ (w'.alloc (.cells Talg.zeroCells31 31)).heap.size := by simp
    generalize w'.alloc (.cells Talg.zeroCells31 31) = w2 at HT HO HB1 hs1 ⊢
    go_loopw [4, 6] (fun v i wr => ∃ (k : Nat) (a : Option Addr) (c : Nat), k ≤ fs.length ∧ i = .int .i64 k ∧ v = .slice a (Fl.growAll [] (fs.take k)).length c ∧ Hid (∃ ws, Own wr (w'.heap.size + 1) (.slice a (Fl.growAll [] (fs.take k)).length c) (Fl.growAll [] (fs.take k)) ∧ AccB wr w'.heap.size 31 ws ∧ AccOf ws (Fl.vTo fs k * (sc : Int)) ∧ Below w'.heap.size w' wr ∧ w'.heap.size + 1 ≤ wr.heap.size)) (fun _ i _ => fs.length - (intOf i).toNat)
    case atStart => exact ⟨0, none, 0, by omega, rfl, rfl, zeros68, HO.out, HT.out, by simpa [Fl.vTo] using AccOf.zero, HB1.out, hs1⟩
    case round =>
      clear HT HO HB1 hs1
      obtain ⟨k, a, c, hk, rfl, rfl, HG⟩ := hrel
      by_cases hltk : k < fs.length
      · obtain ⟨ws, g1, g2, g3, g4, g5⟩ := HG.out
        have hinv := Fl.growAll_inv hA (by omega) k hk
        have hinv2 := Fl.growAll_inv hA (by omega) (k + 1) (by omega)
        rw [Fl.growAll_succ fs k hltk] at hinv2
        have hcell := (g4.cell (p := ⟨w.heap.size, 0 + k, none⟩) hlt).trans (HFr.out k hltk)
        rw [Nat.zero_add] at hcell
        have hx := hA k hltk
        have HGrow := hide (grow_any (w'.heap.size + 1) _ _ (fs.getD k 0) wr g1 g5 (by have := hinv.len; omega) (hinv.room (by omega) hx))
        have HLen := hide (Fl.growL_length (Fl.growAll [] (fs.take k)) (fs.getD k 0))
        have HS := hide (Fl.growAll_succ fs k hltk)
        have HV := hide (show Fl.vTo fs (k + 1) * (sc : Int) = Fl.vTo fs k * (sc : Int) + Fl.V (fs.getD k 0) * (sc : Int) by rw [← Int.add_mul]; rfl)
        have HInv2 := hide hinv2
        have hpl : (Fl.growAll [] (fs.take k)).length ≤ 1024 := by have := hinv.len; omega
        have HX := hide hx
        have H2 := hide g2
        have H3 := hide g3
        have H4 := hide g4
        clear HG g1 g2 g3 g4 hinv hinv2 hx
        generalize fs.getD k 0 = x at *
        generalize Fl.growAll [] (fs.take k) = ps at *
        generalize ps.length = pl at *
        go_wp2_with fail
        refine (Hid.out HGrow).mono ?_
        rintro e w3 ⟨v', rfl, ho3, hb3⟩
        obtain ⟨a', c', hv'⟩ := ho3.slice
        subst hv'
        have hcell3 := (hb3.cell (p := ⟨w.heap.size, k, none⟩) (by show w.heap.size < w'.heap.size + 1; omega)).trans hcell
        have hs3 := hb3.size
        have HAdd := hide (addFloat_any w'.heap.size 31 x ws w3 HX.out.1 (Blk.below H2.out hb3 (by omega)) H3.out.1 H3.out.2.1)
        have HB3 := hide (H4.out.trans (hb3.mono (by omega)))
        have HO3 := hide ho3
        clear hb3 ho3 hcell
        go_wp2_with fail
        refine (Hid.out HAdd).mono ?_
        rintro e w4 ⟨rfl, hp⟩
        obtain ⟨ws', p1, p2, p3⟩ := H3.out.placed hp
        clear hp
        have HO4 := hide (HO3.out.grown p3 (by omega))
        have hs4 := p3.size
        have HB4 := hide (HB3.out.grown p3 (by omega) (fun q hq => by simp at hq; omega))
        have HA4 := hide p1
        have HZ4 := hide p2
        rw [← HV.out] at HZ4
        clear p1 p2 p3 hcell3
        go_wp2_with fail
        refine gk_r12 w4 w'.heap.size pl _ c' (w'.heap.size + 1) a' _ ws' _ (hide rfl) HLen.out (by omega) (by have := HLen.out; omega) HO4 HA4 HZ4 (hide (by rw [HInv2.out.sum])) (hide HInv2.out.fin) (hide HInv2.out.apart) _ _ _ _ _ _ _ _ _ _ _ _ _ _ _ _ _ _ _ _ _ _ _ _ _ _ _ _ _ _ _ _ _ _ _ _ _ _ _ _ _ _ _ _ _ ?_
        intro v32 v33 v34 v35 v36 v37 v38 v39 v40 v41 v42 v43 v44 v45 v46 w5 hb5
        have HG5 := hide (show ∃ ws, Own w5 (w'.heap.size + 1) (.slice a' (Fl.growL ps x).length c') (Fl.growL ps x) ∧ AccB w5 w'.heap.size 31 ws ∧ AccOf ws (Fl.vTo fs (k + 1) * (sc : Int)) ∧ Below w'.heap.size w' w5 ∧ w'.heap.size + 1 ≤ w5.heap.size from
          ⟨ws', HO4.out.below hb5 (Nat.le_refl _), Blk.below HA4.out hb5 (by omega), HZ4.out, HB4.out.trans (hb5.mono (by omega)), by have := hb5.size; omega⟩)
        clear hb5
        go_wp2_with fail
        go_roundw
        case rel => exact ⟨k + 1, a', c', by omega, by go_num, by rw [HS.out], by rw [HS.out]; exact HG5.out⟩
        case measure => simp [intOf]; omega
      · obtain ⟨ws, g1, g2, g3, g4, g5⟩ := HG.out
        have HB := hide (HBel.out.trans (g4.mono (by omega)))
        clear HG g1 g2 g3 g4
        go_wp2
        go_ret
        exact ⟨rfl, HB.out⟩
end Go.Proofs.Ygctal
