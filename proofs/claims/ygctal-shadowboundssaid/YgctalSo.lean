import Derived.Test.YgctalSn
namespace Go.Proofs.Ygctal
open Go.RowKit
set_option maxHeartbeats 2000000
set_option linter.unusedVariables false

/-! Which points a stage has done. -/
def Hf (h : Nat) : Prop := h = 1 ∨ h = 2 ∨ h = 4 ∨ h = 8 ∨ h = 16 ∨ h = 32 ∨ h = 64 ∨ h = 128 ∨ h = 256 ∨ h = 512 ∨ h = 1024
theorem hf_p2 (t : Nat) (h : t ≤ 10) : Hf (p2 t) := by
  unfold Hf
  match t, h with
  | 0, _ | 1, _ | 2, _ | 3, _ | 4, _ | 5, _ | 6, _ | 7, _ | 8, _ | 9, _ | 10, _ => decide
  | n + 11, h => exact absurd h (by omega)
/-- The first point of i's pair. -/
def pb (h i : Nat) : Nat := i / (2 * h) * (2 * h) + i % h
def Pr (h j s i : Nat) : Bool := decide (i % h < j ∨ (i % h = j ∧ pb h i < s))
def Pf (h s j i : Nat) : Bool := decide (i / (2 * h) * (2 * h) < s ∨ (i / (2 * h) * (2 * h) = s ∧ i % h < j))
theorem pr_iff (h j s i : Nat) : (Pr h j s i = true) ↔ (i % h < j ∨ (i % h = j ∧ pb h i < s)) := by unfold Pr; exact decide_eq_true_iff
theorem pf_iff (h s j i : Nat) : (Pf h s j i = true) ↔ (i / (2 * h) * (2 * h) < s ∨ (i / (2 * h) * (2 * h) = s ∧ i % h < j)) := by unfold Pf; exact decide_eq_true_iff
theorem pb_lo {h s : Nat} (H : Hf h) (hs : s % (2 * h) < h) : pb h s = s ∧ pb h (s + h) = s ∧ (s + h) % h = s % h ∧ s % h = s % (2 * h) := by
  unfold pb
  rcases H with rfl | rfl | rfl | rfl | rfl | rfl | rfl | rfl | rfl | rfl | rfl <;> omega
theorem pair_lt {h s n : Nat} (H : Hf h) (hs : s % (2 * h) < h) (hn : n % (2 * h) = 0) (hsn : s < n) : s + h < n := by
  rcases H with rfl | rfl | rfl | rfl | rfl | rfl | rfl | rfl | rfl | rfl | rfl <;> omega
theorem pr_zero {h : Nat} (i : Nat) (H : Hf h) : ¬ Pr h 0 0 i := by simp only [pr_iff]; omega
theorem pr_full {h : Nat} (s i : Nat) (H : Hf h) : Pr h h s i := by
  simp only [pr_iff]
  rcases H with rfl | rfl | rfl | rfl | rfl | rfl | rfl | rfl | rfl | rfl | rfl <;> omega
theorem pr_step {h j s : Nat} (i : Nat) (H : Hf h) (hs : s % (2 * h) = j) (hj : j < h) : Pr h j (s + 2 * h) i ↔ Pr h j s i ∨ i = s ∨ i = s + h := by
  simp only [pr_iff, pb]
  rcases H with rfl | rfl | rfl | rfl | rfl | rfl | rfl | rfl | rfl | rfl | rfl <;> omega
theorem pr_not {h j s : Nat} (H : Hf h) (hs : s % (2 * h) = j) (hj : j < h) : ¬ Pr h j s s ∧ ¬ Pr h j s (s + h) := by
  simp only [pr_iff, pb]
  rcases H with rfl | rfl | rfl | rfl | rfl | rfl | rfl | rfl | rfl | rfl | rfl <;> omega
theorem pr_end {h j s n : Nat} (i : Nat) (H : Hf h) (hs : s % (2 * h) = j) (hj : j < h) (hn : n % (2 * h) = 0) (hsn : n ≤ s) (hi : i < n) : Pr h j s i ↔ Pr h (j + 1) (j + 1) i := by
  simp only [pr_iff, pb]
  rcases H with rfl | rfl | rfl | rfl | rfl | rfl | rfl | rfl | rfl | rfl | rfl <;> omega
theorem pf_step {h s j : Nat} (i : Nat) (H : Hf h) (hs : s % (2 * h) = 0) (hj : j < h) : Pf h s (j + 1) i ↔ Pf h s j i ∨ i = s + j ∨ i = s + j + h := by
  simp only [pf_iff]
  rcases H with rfl | rfl | rfl | rfl | rfl | rfl | rfl | rfl | rfl | rfl | rfl <;> omega
theorem pf_not {h s j : Nat} (H : Hf h) (hs : s % (2 * h) = 0) (hj : j < h) : ¬ Pf h s j (s + j) ∧ ¬ Pf h s j (s + j + h) := by
  simp only [pf_iff]
  rcases H with rfl | rfl | rfl | rfl | rfl | rfl | rfl | rfl | rfl | rfl | rfl <;> omega
theorem pf_next {h s : Nat} (i : Nat) (H : Hf h) (hs : s % (2 * h) = 0) : Pf h s h i ↔ Pf h (s + 2 * h) 0 i := by
  simp only [pf_iff]
  rcases H with rfl | rfl | rfl | rfl | rfl | rfl | rfl | rfl | rfl | rfl | rfl <;> omega
theorem pf_end {h s n : Nat} (i : Nat) (H : Hf h) (hs : s % (2 * h) = 0) (hn : n % (2 * h) = 0) (hsn : n ≤ s) (hi : i < n) : Pf h s 0 i := by
  simp only [pf_iff]
  rcases H with rfl | rfl | rfl | rfl | rfl | rfl | rfl | rfl | rfl | rfl | rfl <;> omega
/-- What the stage leaves of a point and of its bound. -/
def cadd (x y : Nat × Nat) : Nat × Nat := (Fl.fa x.1 y.1, Fl.fa x.2 y.2)
def csub (x y : Nat × Nat) : Nat × Nat := (Fl.fs x.1 y.1, Fl.fs x.2 y.2)
def FZ (k h st : Nat) (Z : Nat → Nat × Nat) (i : Nat) : Nat × Nat :=
  if i = pb h i then cadd (Z (pb h i)) (Fl.cmul (Z (pb h i + h)) (Fl.rt k (i % h * st))) else csub (Z (pb h i)) (Fl.cmul (Z (pb h i + h)) (Fl.rt k (i % h * st)))
def FE (k h st o : Nat) (E : Nat → Nat) (i : Nat) : Nat := jnd (E (pb h i)) (E (pb h i + h)) o (Fl.plainB (Fl.rt k (i % h * st)))
/-- Done or not. -/
def mx {α : Type} (P : Nat → Bool) (f g : Nat → α) (i : Nat) : α := if P i then f i else g i
theorem mx_step {α : Type} {P P' : Nat → Bool} {f g : Nat → α} {p q n : Nat} (h : ∀ i, P' i ↔ P i ∨ i = p ∨ i = q) (i : Nat) :
    (if i = q then f q else if i = p then f p else mx P f g i) = mx P' f g i := by
  unfold mx
  by_cases e1 : i = q
  · subst e1; rw [if_pos rfl, if_pos ((h i).2 (.inr (.inr rfl)))]
  · rw [if_neg e1]
    by_cases e2 : i = p
    · subst e2; rw [if_pos rfl, if_pos ((h i).2 (.inr (.inl rfl)))]
    · rw [if_neg e2]
      by_cases e3 : P i
      · rw [if_pos e3, if_pos ((h i).2 (.inl e3))]
      · rw [if_neg e3, if_neg (fun hh => by rcases (h i).1 hh with h1 | h1 | h1 <;> contradiction)]
theorem mx_same {α : Type} {P P' : Nat → Bool} {f g : Nat → α} {i : Nat} (h : P i ↔ P' i) : mx P f g i = mx P' f g i := by
  unfold mx
  by_cases e : P i
  · rw [if_pos e, if_pos (h.1 e)]
  · rw [if_neg e, if_neg (fun hh => e (h.2 hh))]
theorem mx_no {α : Type} {P : Nat → Bool} {f g : Nat → α} {i : Nat} (h : ¬ P i) : mx P f g i = g i := if_neg h
theorem mx_yes {α : Type} {P : Nat → Bool} {f g : Nat → α} {i : Nat} (h : P i) : mx P f g i = f i := if_pos h
theorem FZ_p {k h st s : Nat} {Z : Nat → Nat × Nat} (H : Hf h) (hs : s % (2 * h) < h) : FZ k h st Z s = cadd (Z s) (Fl.cmul (Z (s + h)) (Fl.rt k (s % (2 * h) * st))) := by
  obtain ⟨h1, h2, h3, h4⟩ := pb_lo H hs
  unfold FZ
  rw [h1, if_pos rfl, h4]
theorem FZ_q {k h st s : Nat} {Z : Nat → Nat × Nat} (H : Hf h) (hs : s % (2 * h) < h) : FZ k h st Z (s + h) = csub (Z s) (Fl.cmul (Z (s + h)) (Fl.rt k (s % (2 * h) * st))) := by
  obtain ⟨h1, h2, h3, h4⟩ := pb_lo H hs
  have h0 : 0 < h := by unfold Hf at H; omega
  unfold FZ
  rw [h2, if_neg (by omega), h3, h4]
theorem FE_p {k h st o s : Nat} {E : Nat → Nat} (H : Hf h) (hs : s % (2 * h) < h) : FE k h st o E s = jnd (E s) (E (s + h)) o (Fl.plainB (Fl.rt k (s % (2 * h) * st))) := by
  obtain ⟨h1, h2, h3, h4⟩ := pb_lo H hs
  unfold FE
  rw [h1, h4]
theorem FE_q {k h st o s : Nat} {E : Nat → Nat} (H : Hf h) (hs : s % (2 * h) < h) : FE k h st o E (s + h) = jnd (E s) (E (s + h)) o (Fl.plainB (Fl.rt k (s % (2 * h) * st))) := by
  obtain ⟨h1, h2, h3, h4⟩ := pb_lo H hs
  unfold FE
  rw [h2, h3, h4]
end Go.Proofs.Ygctal
