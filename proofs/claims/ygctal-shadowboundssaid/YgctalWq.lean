import Derived.Test.YgctalWp
import Derived.Test.YgctalWm
import Derived.Laws.Rows
import Derived.Laws.Tables
namespace Go.Proofs.Ygctal
open Go.RowKit
set_option maxHeartbeats 2000000
set_option linter.unusedVariables false

/-! accTotal: the exact sum, modulo 2^4352. -/
def accArr (ws : List Nat) : Array Value := (ws.map fun n : Nat => Value.int .u64 (n : Int)).toArray
def zeros68 : List Nat := List.replicate 68 0
theorem zero_cells : Talg.zeroCells31.toList = zeros68.map fun n : Nat => Value.int .u64 (n : Int) := by kernel_rfl
theorem acc_info : (Talg.prog.info? 31).map (·.size) = some 68 := by kernel_rfl
theorem zeros_wd : Ac.Wd zeros68 := by unfold zeros68; intro x hx; rw [List.eq_of_mem_replicate hx]; decide
theorem zeros_V : Ac.accV zeros68 = 0 := by decide
theorem AccB.new (w : World) : AccB (w.alloc (.cells Talg.zeroCells31 31)) w.heap.size 31 zeros68 := by
  have := Blk.new w Talg.zeroCells31 31
  rwa [zero_cells] at this
theorem AccB.alloc {w : World} {g T : Nat} {ws : List Nat} (h : AccB w g T ws) (o : Obj) : AccB (w.alloc o) g T ws := Blk.alloc h o
theorem AccB.grown {w w' : World} {g T : Nat} {ws : List Nat} (h : AccB w g T ws) {row : Option Nat} (hg : w.grownBy w' row) (hr : row ≠ some g) : AccB w' g T ws := Blk.grown h hg hr
theorem AccB.heap {w : World} {g T : Nat} {ws : List Nat} (h : AccB w g T ws) : w.heap[g]? = some (.cells (accArr ws) T (0, 0)) := h
theorem AccB.setRow {w : World} {g T : Nat} {ws : List Nat} (h : AccB w g T ws) (ws' : List Nat) : AccB (w.setRow g (accArr ws')) g T ws' := by
  have hlt := Blk.lt h
  unfold AccB Blk at *
  have h' : w.heap[g] = .cells (ws.map fun n : Nat => Value.int .u64 (n : Int)).toArray T (0, 0) := by simpa [Array.getElem?_eq_getElem hlt] using h
  show (w.heap.modify g _)[g]? = _
  rw [Array.getElem?_eq_getElem (by simpa using hlt), Array.getElem_modify_self, h']
  rfl
theorem setRow_size (w : World) (g : Nat) (cs : Array Value) : (w.setRow g cs).heap.size = w.heap.size := by simp [World.setRow]
theorem gb_setRow (w : World) (g : Nat) (cs : Array Value) : w.grownBy (w.setRow g cs) (some g) :=
  ⟨rfl, rfl, rfl, by rw [setRow_size]; exact Nat.le_refl _, fun k _ hk => by
    show (w.heap.modify g _)[k]? = _
    rw [Array.getElem?_modify, if_neg (fun h => hk (by rw [h]))]⟩
theorem accArr_size (ws : List Nat) : (accArr ws).size = ws.length := by simp [accArr]
theorem accArr_one (ws : List Nat) : (accArr ws).all (·.oneCell') = true := by
  unfold accArr
  rw [Array.all_eq_true_iff_forall_mem]
  intro v hv
  simp at hv
  obtain ⟨n, _, rfl⟩ := hv
  rfl
/-- The accumulator of an integer. -/
def AccOf (ws : List Nat) (z : Int) : Prop := ws.length = 68 ∧ Ac.Wd ws ∧ (Ac.accV ws : Int) = z % ((Ac.W ^ 68 : Nat) : Int)
theorem AccOf.zero : AccOf zeros68 0 := ⟨by decide, zeros_wd, by rw [zeros_V]; simp⟩
theorem AccOf.placed {w w' : World} {g T : Nat} {ws : List Nat} {z N : Int} (h : AccOf ws z) (hp : Placed w w' g T ws N) : ∃ ws', AccB w' g T ws' ∧ AccOf ws' (z + N) ∧ w.grownBy w' (some g) := by
  obtain ⟨ws', h1, h2, h3, h4, h5⟩ := hp
  refine ⟨ws', h1, ⟨h2, h3, ?_⟩, h5⟩
  rw [h4, h.2.2, Int.emod_add_emod]
theorem AccOf.inj {a b : List Nat} {z : Int} (ha : AccOf a z) (hb : AccOf b z) : a = b :=
  Ac.accV_inj a b ha.2.1 hb.2.1 (ha.1.trans hb.1.symm) (by have h1 := ha.2.2; have h2 := hb.2.2; omega)

set_option maxRecDepth 100000 in
theorem accTotal_some (b off c : Nat) (fs : List Nat) (w : World) (hn : fs.length ≤ 1025) (hr : FR w b off fs) (hbw : b < w.heap.size) (hfin : ∀ i, i < fs.length → Fl.Fin (fs.getD i 0)) :
    Calls Talg.prog 28 #[.slice (some ⟨b, off, none⟩) fs.length c] w fun e w' => ∃ ws, e = .returned (.agg (accArr ws)) ∧ AccOf ws (Fl.vTo fs fs.length * (sc : Int)) ∧ Below w.heap.size w w' := by
  have HFin := hide hfin
  clear hfin
  have HB0 := hide ((AccB.new w).alloc (.cells Talg.zeroCells31 31))
  have hB1 := AccB.new (w.alloc (.cells Talg.zeroCells31 31))
  rw [show (w.alloc (.cells Talg.zeroCells31 31)).heap.size = w.heap.size + 1 from by simp] at hB1
  have HB1 := hide hB1
  clear hB1
  have HBel := hide (((Below.refl w.heap.size w).alloc (Nat.le_refl _) (.cells Talg.zeroCells31 31)).alloc (by simp) (.cells Talg.zeroCells31 31))
  go_enter Talg.func28, Talg.ntmps28
  go_wp2
  generalize (w.alloc (.cells Talg.zeroCells31 31)).alloc (.cells Talg.zeroCells31 31) = w1 at HB0 HB1 HBel ⊢
  go_loopw [4] (fun i wr => ∃ (k : Nat), k ≤ fs.length ∧ i = .int .i64 k ∧ Hid (∃ ws, AccB wr w.heap.size 31 zeros68 ∧ AccB wr (w.heap.size + 1) 31 ws ∧ AccOf ws (Fl.vTo fs k * (sc : Int)) ∧ Below w.heap.size w wr)) (fun i _ => fs.length - (intOf i).toNat)
  case atStart => exact ⟨0, by omega, rfl, zeros68, HB0.out, HB1.out, by simpa [Fl.vTo] using AccOf.zero, HBel.out⟩
  case round =>
    clear HB0 HB1 HBel
    obtain ⟨k, hk, rfl, HG⟩ := hrel
    obtain ⟨ws, g1, g2, g3, g4⟩ := HG.out
    have H1 := hide g1
    have H2 := hide g2
    have H3 := hide g3
    have H4 := hide g4
    clear HG g1 g2 g3 g4
    by_cases hlt : k < fs.length
    · have hcell := (H4.out.cell (p := ⟨b, off + k, none⟩) hbw).trans (hr k hlt)
      have HAdd := hide (addFloat_any (w.heap.size + 1) 31 (fs.getD k 0) ws wr (HFin.out k hlt) H2.out H3.out.1 H3.out.2.1)
      have HV := hide (show Fl.vTo fs (k + 1) * (sc : Int) = Fl.vTo fs k * (sc : Int) + Fl.V (fs.getD k 0) * (sc : Int) by rw [← Int.add_mul]; rfl)
      generalize fs.getD k 0 = x at *
      go_wp2_with (go_at_call 26; refine (Hid.out HAdd).mono ?_; rintro e w2 ⟨rfl, hp⟩)
      go_roundw
      case rel =>
        obtain ⟨ws', p1, p2, p3⟩ := H3.out.placed hp
        refine ⟨k + 1, by omega, by go_num, ws', H1.out.grown p3 (by simp), p1, ?_, H4.out.grown p3 H4.out.size (fun q hq => by simp at hq; omega)⟩
        rw [HV.out]; exact p2
      case measure => simp [intOf]; omega
    · obtain rfl : k = fs.length := by omega
      go_wp2_with (first | (refine wpList_load_row rfl 31 _ rfl (w.heap.size + 1) rfl 31 (accArr ws) (0, 0) _ H2.out.heap Talg.underlying31 rfl (by rw [accArr_size, H3.out.1]; exact acc_info) ?_) | (refine wpList_store_row rfl 31 _ _ rfl w.heap.size (accArr ws) rfl rfl 31 (accArr zeros68) H1.out.heap (by rw [accArr_size, H3.out.1]; exact acc_info) (by rw [accArr_size, accArr_size, H3.out.1]; decide) (accArr_one _) ?_))
      have HBn := hide (H4.out.grown (gb_setRow wr w.heap.size (accArr ws)) H4.out.size (fun q hq => by simp at hq; omega))
      exact bodyPost_ret (v := .agg (accArr ws)) (results_cell_row Talg.results28 _ _ w.heap.size 31 (accArr ws) (0, 0) _ rfl (H1.out.setRow ws).heap Talg.underlying31 rfl (by rw [accArr_size, H3.out.1]; exact acc_info)) rfl ⟨ws, rfl, H3.out, HBn.out⟩
theorem accTotal_nil (w : World) (a : Option Addr) (c : Nat) :
    Calls Talg.prog 28 #[.slice a 0 c] w fun e w' => ∃ ws, e = .returned (.agg (accArr ws)) ∧ AccOf ws 0 ∧ Below w.heap.size w w' := by
  have HB0 := hide ((AccB.new w).alloc (.cells Talg.zeroCells31 31))
  have hB1 := AccB.new (w.alloc (.cells Talg.zeroCells31 31))
  rw [show (w.alloc (.cells Talg.zeroCells31 31)).heap.size = w.heap.size + 1 from by simp] at hB1
  have HB1 := hide hB1
  clear hB1
  have HBel := hide (((Below.refl w.heap.size w).alloc (Nat.le_refl _) (.cells Talg.zeroCells31 31)).alloc (by simp) (.cells Talg.zeroCells31 31))
  go_enter Talg.func28, Talg.ntmps28
  go_wp2
  generalize (w.alloc (.cells Talg.zeroCells31 31)).alloc (.cells Talg.zeroCells31 31) = w1 at HB0 HB1 HBel ⊢
  refine wp_loop_rounds 1 ?_
  rw [rounds_succ]
  go_wp2_with (first | (refine wpList_load_row rfl 31 _ rfl (w.heap.size + 1) rfl 31 (accArr zeros68) (0, 0) _ HB1.out.heap Talg.underlying31 rfl (by rw [accArr_size]; exact acc_info) ?_) | (refine wpList_store_row rfl 31 _ _ rfl w.heap.size (accArr zeros68) rfl rfl 31 (accArr zeros68) HB0.out.heap (by rw [accArr_size]; exact acc_info) rfl (accArr_one _) ?_))
  have HBn := hide (HBel.out.grown (gb_setRow w1 w.heap.size (accArr zeros68)) HBel.out.size (fun q hq => by simp at hq; omega))
  exact bodyPost_ret (v := .agg (accArr zeros68)) (results_cell_row Talg.results28 _ _ w.heap.size 31 (accArr zeros68) (0, 0) _ rfl (HB0.out.setRow zeros68).heap Talg.underlying31 rfl (by rw [accArr_size]; exact acc_info)) rfl ⟨zeros68, rfl, AccOf.zero, HBn.out⟩
theorem vTo_take (fs : List Nat) : ∀ k, k ≤ fs.length → Fl.vTo fs k = Fl.vSum (fs.take k) := by
  intro k
  induction k with
  | zero => intro _; rfl
  | succ k ih =>
    intro hk
    rw [List.take_succ_eq_append_getElem (by omega), Fl.vSum_append]
    show Fl.vTo fs k + _ = _
    rw [ih (by omega)]
    simp [Fl.vSum, List.getD_eq_getElem?_getD, List.getElem?_eq_getElem (show k < fs.length by omega)]
theorem vTo_sum (fs : List Nat) : Fl.vTo fs fs.length = Fl.vSum fs := by rw [vTo_take fs _ (Nat.le_refl _), List.take_length]
/-- accTotal of an owned list. -/
theorem accTotal_own (base : Nat) (v : Value) (ps : List Nat) (w : World) (ho : Own w base v ps) (hn : ps.length ≤ 1025) (hfin : ∀ p ∈ ps, Fl.Fin p) :
    Calls Talg.prog 28 #[v] w fun e w' => ∃ ws, e = .returned (.agg (accArr ws)) ∧ AccOf ws (Fl.vSum ps * (sc : Int)) ∧ Below w.heap.size w w' := by
  rcases ho.shape with ⟨rfl, rfl⟩ | ⟨g, c, rfl, _, hg⟩
  · have := accTotal_nil w none 0
    simpa [Fl.vSum] using this
  · have := accTotal_some g 0 c ps w hn ho.fr.2 hg (fun i hi => hfin _ (Fl.getD_mem hi))
    rwa [vTo_sum] at this
end Go.Proofs.Ygctal
