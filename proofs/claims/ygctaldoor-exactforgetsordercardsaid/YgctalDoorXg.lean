import Derived.Test.YgctalDoorXf
namespace Go.Proofs.YgctalDoor
open Go.RowKit Go.Shelf
set_option maxHeartbeats 4000000
set_option linter.unusedVariables false
set_option linter.unusedSimpArgs false

/-! Exact, isNaN. -/
theorem sum_bound (fs : List Nat) (P : Nat) (h : ∀ i, i < fs.length → (Fl.V (fs.getD i 0)).natAbs ≤ P) : ∀ k, k ≤ fs.length → (Fl.vTo fs k).natAbs ≤ k * P := by
  intro k
  induction k with
  | zero => intro _; simp [Fl.vTo]
  | succ k ih =>
    intro hk
    have h1 := ih (by omega)
    have h2 := h k (by omega)
    show (Fl.vTo fs k + Fl.V (fs.getD k 0)).natAbs ≤ _
    have h3 := Int.natAbs_add_le (Fl.vTo fs k) (Fl.V (fs.getD k 0))
    rw [Nat.add_mul]
    omega
set_option exponentiation.threshold 5000 in
theorem unit_rbd : 1025 * (1 * 2 ^ 2074) < rbd := by unfold rbd; decide +kernel
theorem adm_rbd {fs : List Nat} (had : Fl.Adm fs) (hn : fs.length ≤ 1025) : (Fl.vTo fs fs.length).natAbs < rbd :=
  Nat.lt_of_le_of_lt (sum_bound fs _ (fun i hi => (had i hi).2) fs.length (Nat.le_refl _)) (Nat.lt_of_le_of_lt (Nat.mul_le_mul_right _ hn) unit_rbd)
set_option maxRecDepth 100000 in
theorem exact_some (b off c : Nat) (fs : List Nat) (w : World) (hn : fs.length ≤ 1024) (hr : FR w b off fs) (hbw : b < w.heap.size) (hw : Wds fs) (had : Fl.Adm fs) (hT : Tab w) :
    Calls Talg.prog 13 #[.slice (some ⟨b, off, none⟩) fs.length c] w fun e w' => e = .returned (.float .f64 (Fl.enc false (Fl.vSum fs))) ∧ Below w.heap.size w w' := by
  have h1 := refused_sum_short b off c fs w hn hr
  rw [(refused_iff hw).2 had] at h1
  have H1 := hide h1
  have HFin := hide (fun i (hi : i < fs.length) => (had i hi).1)
  have HRb := hide (adm_rbd had (by omega))
  rw [vTo_sum] at HRb
  have HT := hide hT
  clear h1 had hT
  have HB0 := hide (AccB.new w)
  have HBel := hide ((Below.refl w.heap.size w).alloc (Nat.le_refl _) (.cells Talg.zeroCells28 28))
  go_enter Talg.func13, Talg.ntmps13
  go_wp2_with (go_at_call 34; refine (Hid.out H1).mono ?_; rintro e wq ⟨rfl, hww⟩; subst wq)
  generalize w.alloc (.cells Talg.zeroCells28 28) = w1 at HB0 HBel ⊢
  go_loopw [4] (fun i wr => ∃ (k : Nat), k ≤ fs.length ∧ i = .int .i64 k ∧ Hid (∃ ws, AccB wr w.heap.size 28 ws ∧ AccOf ws (Fl.vTo fs k * (sc : Int)) ∧ Below w.heap.size w wr)) (fun i _ => fs.length - (intOf i).toNat)
  case atStart => exact ⟨0, by omega, rfl, zeros68, HB0.out, by simpa [Fl.vTo] using AccOf.zero, HBel.out⟩
  case round =>
    clear HB0 HBel
    obtain ⟨k, hk, rfl, HG⟩ := hrel
    obtain ⟨ws, g2, g3, g4⟩ := HG.out
    have H2 := hide g2
    have H3 := hide g3
    have H4 := hide g4
    clear HG g2 g3 g4
    by_cases hlt : k < fs.length
    · have hcell := (H4.out.cell (p := ⟨b, off + k, none⟩) hbw).trans (hr k hlt)
      have HAdd := hide (addFloat_any w.heap.size 28 (fs.getD k 0) ws wr (HFin.out k hlt) H2.out H3.out.1 H3.out.2.1)
      have HV := hide (show Fl.vTo fs (k + 1) * (sc : Int) = Fl.vTo fs k * (sc : Int) + Fl.V (fs.getD k 0) * (sc : Int) by rw [← Int.add_mul]; rfl)
      generalize fs.getD k 0 = x at *
      go_wp2_with (go_at_call 20; refine (Hid.out HAdd).mono ?_; rintro e w2 ⟨rfl, hp⟩)
      go_roundw
      case rel =>
        obtain ⟨ws', p1, p2, p3⟩ := H3.out.placed hp
        refine ⟨k + 1, by omega, by go_num, ws', p1, ?_, H4.out.grown p3 H4.out.size (fun q hq => by simp at hq; omega)⟩
        rw [HV.out]; exact p2
      case measure => simp [intOf]; omega
    · obtain rfl : k = fs.length := by omega
      rw [vTo_sum] at H3
      go_wp2_with fail
      refine (round_any w.heap.size ws (Fl.vSum fs) wr H2.out H3.out HRb.out (HT.out.below H4.out)).mono ?_
      rintro e w2 ⟨rfl, hb2⟩
      have HL := hide (H4.out.trans (hb2.mono H4.out.size))
      clear hb2
      go_wp2
      go_ret
      exact ⟨rfl, HL.out⟩
/-- A refused list: no number. -/
theorem exact_bad (a : Option Addr) (n c : Nat) (w : World) (h : Calls Talg.prog 34 #[.slice a n c] w fun e w' => e = .returned (.bool true) ∧ w' = w) :
    Calls Talg.prog 13 #[.slice a n c] w fun e w' => ∃ x, NaNw x ∧ e = .returned (.float .f64 x) ∧ w' = w.drew := by
  have H1 := hide h
  clear h
  go_enter Talg.func13, Talg.ntmps13
  go_wp2_with (first | (go_at_call 34; refine (Hid.out H1).mono ?_; rintro e w' ⟨rfl, rfl⟩) | (go_at_call 35; refine (nan_sum_any _).mono ?_; rintro e w2 ⟨x, hx, rfl, rfl⟩))
  go_ret
  exact ⟨x, hx, rfl, rfl⟩
theorem isNaN_any (x : Nat) (hx : x < 18446744073709551616) (w : World) : Calls Talg.prog 14 #[.float .f64 x] w fun e w' => e = .returned (.bool (decide (clsOf x = 3))) ∧ w' = w := by
  have HS := hide (fun wx => split_any x hx wx)
  generalize negOf x = s at *
  generalize manOf x = m at *
  generalize expOf x = ex at *
  have hc : (clsOf x == 3) = decide (clsOf x = 3) := rfl
  generalize clsOf x = c at *
  go_enter Talg.func14, Talg.ntmps14
  go_wp2_with (go_at_call 36; refine (Hid.out HS _).mono ?_; rintro e w1 ⟨rfl, rfl⟩)
  go_ret
  exact ⟨rfl, rfl⟩
end Go.Proofs.YgctalDoor
