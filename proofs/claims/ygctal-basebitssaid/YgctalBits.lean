import Derived.Test.YgctalRows
import Derived.WalkKit
import Derived.WalkLawsBesides
import Derived.WalkSpells
import Derived.ProofKit
import Derived.Laws.Externs
namespace Go.Proofs.Ygctal
open Go.RowKit
set_option maxHeartbeats 400000
theorem run_f64bits (x : Nat) (w : World) : (callFunc 52 #[.float .f64 x]).run Talg.prog w = .ok (.value (.int .u64 x)) w := by
  rw [run_callFunc_extern (e := Extern.MathFloatBits.float64bits) Talg.func52 (by kernel_rfl) (by kernel_rfl) (by kernel_rfl) (by kernel_rfl)]
  rfl
theorem b64_any (x : Nat) (w : World) : Calls Talg.prog 18 #[.float .f64 x] w fun e w' => e = .returned (.int .u64 x) ∧ w' = w := by
  have hb := run_f64bits
  go_enter Talg.func18, Talg.ntmps18
  go_wp2
  go_ret
  exact ⟨rfl, rfl⟩
theorem bitsC_same (re im : Nat) (w : World) : Calls Talg.prog 17 #[.complex .f64 re im, .int .u64 re, .int .u64 im] w fun e w' => e = .returned (.bool true) ∧ w' = w := by
  go_enter Talg.func17, Talg.ntmps17
  go_wp2_with (go_at_call 18; refine (b64_any _ _).mono ?_; rintro e w' ⟨rfl, rfl⟩)
  go_ret
  exact ⟨rfl, rfl⟩
theorem bitsC_zero (w : World) : Calls Talg.prog 17 #[.complex .f64 0 0, .int .u64 0, .int .u64 0] w fun e w' => e = .returned (.bool true) ∧ w' = w := bitsC_same 0 0 w

/-- The roots' parts, by their bits, as the text's literals give them. -/
def baseTab : List (Nat × Nat) := [(4607182418800017408, 0), (13830554455654793216, 0), (0, 13830554455654793216), (4604544271217802189, 13827916308072577997),
  (4606496786581982534, 13823937468626282851), (4607009347991985328, 13819568926757594635), (4607139046673687846, 13815099336824566828), (4607171569234046334, 13810604255004710932),
  (4607179706000002317, 13806102785791583870), (4607181740574479067, 13801599718827935620), (4607182249242036882, 13797096252370255985), (4607182376410422530, 13792592686035543226)]
def baseOf (t : Nat) : Nat × Nat := baseTab.getD t (0, 0)
theorem baseOf_big (t : Nat) (h : 12 ≤ t) : baseOf t = (0, 0) := by
  unfold baseOf; rw [List.getD_eq_getElem?_getD, List.getElem?_eq_none (by simpa [baseTab] using h)]; rfl

theorem base_any (t : Nat) (w : World) : Calls Talg.prog 41 #[.int .u8 t] w fun e w' => e = .returned (.complex .f64 (baseOf t).1 (baseOf t).2) ∧ w' = w := by
  by_cases h : 12 ≤ t
  · rw [baseOf_big t h]
    have e0 : ((t : Int) == 0) = false := by simp; omega
    have e1 : ((t : Int) == 1) = false := by simp; omega
    have e2 : ((t : Int) == 2) = false := by simp; omega
    have e3 : ((t : Int) == 3) = false := by simp; omega
    have e4 : ((t : Int) == 4) = false := by simp; omega
    have e5 : ((t : Int) == 5) = false := by simp; omega
    have e6 : ((t : Int) == 6) = false := by simp; omega
    have e7 : ((t : Int) == 7) = false := by simp; omega
    have e8 : ((t : Int) == 8) = false := by simp; omega
    have e9 : ((t : Int) == 9) = false := by simp; omega
    have e10 : ((t : Int) == 10) = false := by simp; omega
    have e11 : ((t : Int) == 11) = false := by simp; omega
    go_enter Talg.func41, Talg.ntmps41
    go_wp2
    go_ret
    exact ⟨rfl, rfl⟩
  · match t, h with
    | 0, _ | 1, _ | 2, _ | 3, _ | 4, _ | 5, _ | 6, _ | 7, _ | 8, _ | 9, _ | 10, _ | 11, _ =>
      go_enter Talg.func41, Talg.ntmps41
      go_wp2
      go_ret
      exact ⟨rfl, rfl⟩
    | n + 12, h => exact absurd (Nat.le_add_left 12 n) h
theorem base_big (t : Nat) (h : 12 ≤ t) (w : World) : Calls Talg.prog 41 #[.int .u8 t] w fun e w' => e = .returned (.complex .f64 0 0) ∧ w' = w := by
  have := base_any t w
  rwa [baseOf_big t h] at this
end Go.Proofs.Ygctal
