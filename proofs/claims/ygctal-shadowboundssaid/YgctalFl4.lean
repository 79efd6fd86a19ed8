import Derived.Test.YgctalFl3
namespace Fl
open Ieee

/-- The error of a sum is at most either term. -/
theorem tsE_bd {a b x y : Nat} (hx : Bd a x) (hy : Bd b y) (hc : 10 * (a + b) ≤ 4194304) : Bd b (tsE x y) := by
  obtain ⟨_, h2, _, _, _, _, h7, h8⟩ := two_words hx hy hc
  refine ⟨h7, ?_⟩
  have h1 := hy.2
  have hn := rnd_near (z := V x + V y) (V_F x)
  rw [h8, h2]
  generalize b * 2 ^ 2074 = B at *
  omega

/-! Neumaier's compensation. -/
def neuC : List Nat → Nat → Nat
  | _, 0 => 0
  | fs, k + 1 => fadd (neuC fs k) (tsE (foldB (fs.take k)) (fs.getD k 0))
theorem neuC_bd {fs : List Nat} (h : Adm fs) (hn : fs.length ≤ 1025) (k : Nat) (hk : k ≤ fs.length) : Bd k (neuC fs k) := by
  induction k with
  | zero => exact bd_zero 0
  | succ k ih =>
    show Bd (k + 1) (fadd _ _)
    exact (bd_add (ih (by omega)) (tsE_bd (foldB_bd h hn k (by omega)) (h k (by omega)) (by omega)) (by omega)).1
def neuB (fs : List Nat) : Nat := fadd (foldB fs) (neuC fs fs.length)
end Fl
