import Derived.Test.YgctalTb
import Derived.Test.YgctalTc
namespace Fl

/-! Every entry of every table: small, and plain only at 1 and -i. -/
theorem tab_ok (k i : Nat) (h1 : 1 ≤ k) (h2 : k ≤ 11) (hi : i < 2 ^ (k - 1)) : testZ k i ((tabL k (k - 1)).getD i (0, 0)) = true := by
  refine tab_test k ?_ i hi
  match k, h1, h2 with
  | 1, _, _ => exact good_1
  | 2, _, _ => exact good_2
  | 3, _, _ => exact good_3
  | 4, _, _ => exact good_4
  | 5, _, _ => exact good_5
  | 6, _, _ => exact good_6
  | 7, _, _ => exact good_7
  | 8, _, _ => exact good_8
  | 9, _, _ => exact good_9
  | 10, _, _ => exact good_10
  | 11, _, _ => exact good_11
  | n + 12, _, h => exact absurd h (by omega)
/-- The root at place i of the table of 2^k points. -/
def rt (k i : Nat) : Nat × Nat := (tabL k (k - 1)).getD i (0, 0)
theorem smB_sm {x : Nat} (h : smB x = true) : Sm 1024 x := by
  unfold smB at h
  simp only [Bool.and_eq_true, decide_eq_true_eq] at h
  exact h
theorem rt_ok (k i : Nat) (h1 : 1 ≤ k) (h2 : k ≤ 11) (hi : i < 2 ^ (k - 1)) : Sm 1024 (rt k i).1 ∧ Sm 1024 (rt k i).2 ∧ plainB (rt k i) = (i == 0 || 4 * i == 2 ^ k) := by
  have h := tab_ok k i h1 h2 hi
  unfold testZ at h
  simp only [Bool.and_eq_true] at h
  exact ⟨smB_sm h.1.1, smB_sm h.1.2, eq_of_beq h.2⟩
end Fl
