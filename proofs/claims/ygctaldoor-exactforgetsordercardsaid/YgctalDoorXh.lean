import Derived.Test.YgctalDoorXg
import Derived.Test.YgctalDoorFla
namespace Go.Proofs.YgctalDoor
open Go.RowKit
set_option maxHeartbeats 2000000
set_option linter.unusedVariables false

/-! Fsum is the exact sum, rounded. -/
theorem fsum_right {fs : List Nat} (had : Fl.Adm fs) (hn : fs.length ≤ 1025) : fsumB fs = Fl.enc false (Fl.vSum fs) := by
  have hinv := Fl.growAll_inv had hn fs.length (Nat.le_refl _)
  have hb := adm_rbd had hn
  rw [List.take_length] at hinv
  rw [vTo_sum] at hinv hb
  unfold fsumB
  generalize Fl.growAll [] fs = ps at *
  rw [← hinv.sum] at hb ⊢
  unfold Fl.finB
  by_cases h0 : ps.length = 0
  · rw [if_pos h0, List.eq_nil_of_length_eq_zero h0]
    exact enc_zero.symm
  · rw [if_neg h0]
    have hlast : ps.length - 1 < ps.length := by omega
    have hhd : Fl.hd ps (ps.length - 1) = Fl.V (ps.getD (ps.length - 1) 0) := by
      rw [Fl.hd_step hlast, show ps.length - 1 + 1 = ps.length from by omega, Fl.hd_end, Int.add_zero]
    have hst : Fl.FinAt ps (ps.length - 1) (ps.getD (ps.length - 1) 0) 0 :=
      ⟨hlast, Fl.froom_start hinv hn h0, Fl.bd_zero _, by rw [hhd, Fl.V_zero, Int.add_zero], by rw [hhd, Fl.rnd_of_F (Fl.V_F _)]⟩
    obtain ⟨e1, e2⟩ := Fl.finLoop_at hinv.apart _ _ _ hst
    obtain ⟨f1, f2⟩ := Fl.finEnd_at hinv.apart e1 e2
    have hne : Fl.vSum ps ≠ 0 := Fl.hd_ne hinv.apart (n := 0) (by omega)
    show Fl.finEnd _ _ _ _ = _
    refine Fl.V_inj f1 (Fl.enc_fin false (rbd_lt hb)) ?_ ?_
    · rw [f2]; exact fun h => hne (Fl.rnd_eq_zero h)
    · rw [f2, Fl.V_enc false (rbd_lt hb)]
end Go.Proofs.YgctalDoor
