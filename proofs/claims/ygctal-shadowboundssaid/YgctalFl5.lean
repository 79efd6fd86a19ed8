import Derived.Test.YgctalFl4
namespace Fl
open Ieee

/-! The sum by halves. -/
def pairB : Nat → List Nat → Nat
  | 0, fs => foldB fs
  | l + 1, fs => if fs.length ≤ 8 then foldB fs else fadd (pairB l (fs.take (fs.length / 2))) (pairB l (fs.drop (fs.length / 2)))
theorem foldB_bd' {fs : List Nat} (h : Adm fs) (hn : fs.length ≤ 1025) : Bd fs.length (foldB fs) := by
  have := foldB_bd h hn fs.length (Nat.le_refl _)
  rwa [List.take_length] at this
theorem pairB_bd (l : Nat) : ∀ fs : List Nat, Adm fs → fs.length ≤ 1025 → Bd fs.length (pairB l fs) := by
  induction l with
  | zero => intro fs h hn; exact foldB_bd' h hn
  | succ l ih =>
    intro fs h hn
    unfold pairB
    split
    · exact foldB_bd' h hn
    · have h1 := ih _ (h.take (fs.length / 2)) (by simp; omega)
      have h2 := ih _ (h.drop (fs.length / 2)) (by simp; omega)
      rw [List.length_take, Nat.min_eq_left (by omega)] at h1
      rw [List.length_drop] at h2
      have := (bd_add h1 h2 (by omega)).1
      rwa [show fs.length / 2 + (fs.length - fs.length / 2) = fs.length from by omega] at this
theorem pairB_more (l : Nat) : ∀ fs : List Nat, fs.length ≤ 8 * 2 ^ l → pairB (l + 1) fs = pairB l fs := by
  induction l with
  | zero => intro fs h; show (if fs.length ≤ 8 then _ else _) = foldB fs; rw [if_pos (by simpa using h)]
  | succ l ih =>
    intro fs h
    rw [Nat.pow_succ] at h
    have e1 : pairB (l + 1 + 1) fs = if fs.length ≤ 8 then foldB fs else fadd (pairB (l + 1) (fs.take (fs.length / 2))) (pairB (l + 1) (fs.drop (fs.length / 2))) := rfl
    have e2 : pairB (l + 1) fs = if fs.length ≤ 8 then foldB fs else fadd (pairB l (fs.take (fs.length / 2))) (pairB l (fs.drop (fs.length / 2))) := rfl
    rw [e1, e2]
    split
    · rfl
    · rw [ih (fs.take (fs.length / 2)) (by simp; omega), ih (fs.drop (fs.length / 2)) (by simp; omega)]
theorem pairB_tree (fs : List Nat) (h8 : ¬ fs.length ≤ 8) (hn : fs.length ≤ 1024) : fadd (pairB 7 (fs.take (fs.length / 2))) (pairB 7 (fs.drop (fs.length / 2))) = pairB 7 fs := by
  have e2 : pairB (6 + 1) fs = if fs.length ≤ 8 then foldB fs else fadd (pairB 6 (fs.take (fs.length / 2))) (pairB 6 (fs.drop (fs.length / 2))) := rfl
  rw [show pairB 7 fs = pairB (6 + 1) fs from rfl, e2, if_neg h8, ← pairB_more 6 _ (by simp; omega), ← pairB_more 6 _ (by simp; omega)]
theorem pairB_small (l : Nat) (fs : List Nat) (h8 : fs.length ≤ 8) : pairB l fs = foldB fs := by
  cases l with
  | zero => rfl
  | succ l => show (if fs.length ≤ 8 then _ else _) = _; rw [if_pos h8]
end Fl
