import Derived.Test.YgctalFl5
namespace Fl
open Ieee

/-! Shewchuk's list of partials: bounds, the sum, no overlap. -/
/-- What a rounding may err by, below 2^2086. -/
def eps : Nat := 2 ^ 2033
def lid : Nat := 2 ^ 2086
def unit : Nat := 2 ^ 2074
theorem pow_rel (a b c m : Nat) (hm : 2 ^ a = m) (h : c = a + b) : 2 ^ c = m * 2 ^ b := by rw [h, Nat.pow_add, hm]
theorem lid_eps : lid = 9007199254740992 * eps := by unfold lid eps; exact pow_rel 53 2033 2086 9007199254740992 (by decide) rfl
theorem lid_unit : lid = 4096 * unit := by unfold lid unit; exact pow_rel 12 2074 2086 4096 (by decide) rfl
theorem unit_eps : unit = 2199023255552 * eps := by unfold unit eps; exact pow_rel 41 2033 2074 2199023255552 (by decide) rfl
theorem eps_pos : 0 < eps := by unfold eps; exact Nat.two_pow_pos 2033
theorem bd_unit {c x : Nat} (h : Bd c x) : (V x).natAbs ≤ c * unit := by unfold unit; exact h.2
theorem Bd.of_unit {c x : Nat} (hf : Fin x) (h : (V x).natAbs ≤ c * unit) : Bd c x := by unfold unit at h; exact ⟨hf, h⟩
theorem rnd_eps {z : Int} (h : z.natAbs < lid) : (rnd z - z).natAbs ≤ eps := by
  have hx : ex z.natAbs ≤ 2033 := by
    refine ex_le_of_lt ?_
    unfold lid at h
    rwa [show (2086 : Nat) = 53 + 2033 from rfl] at h
  have h1 := rnd_err z
  have h2 : 2 ^ ex z.natAbs ≤ eps := by unfold eps; exact Nat.pow_le_pow_right (n := 2) (j := 2033) (by omega) hx
  omega

def absSum : List Nat → Nat
  | [] => 0
  | p :: ps => (V p).natAbs + absSum ps
def vSum : List Nat → Int
  | [] => 0
  | p :: ps => V p + vSum ps
theorem absSum_append (a b : List Nat) : absSum (a ++ b) = absSum a + absSum b := by
  induction a with
  | nil => simp [absSum]
  | cons p a ih => simp [absSum, ih]; omega
theorem vSum_append (a b : List Nat) : vSum (a ++ b) = vSum a + vSum b := by
  induction a with
  | nil => simp [vSum]
  | cons p a ih => simp [vSum, ih]; omega

/-- Grow's steps. -/
def growL : List Nat → Nat → List Nat
  | [], x => if V x = 0 then [] else [x]
  | p :: ps, x => if V (tsE x p) = 0 then growL ps (fadd x p) else tsE x p :: growL ps (fadd x p)
/-- Room for the steps. -/
def Room (ps : List Nat) (x : Nat) : Prop := (∀ p ∈ ps, Fin p) ∧ Fin x ∧ (V x).natAbs + absSum ps + ps.length * eps < lid

theorem Room.bd {ps : List Nat} {x : Nat} (h : Room ps x) : Bd 4096 x := Bd.of_unit h.2.1 (by have := h.2.2; rw [lid_unit] at this; omega)
theorem Room.head {p : Nat} {ps : List Nat} {x : Nat} (h : Room (p :: ps) x) : Bd 4096 p := by
  refine Bd.of_unit (h.1 p (List.mem_cons_self)) ?_
  have := h.2.2
  rw [lid_unit] at this
  simp only [absSum] at this
  omega
theorem Room.step {p : Nat} {ps : List Nat} {x : Nat} (h : Room (p :: ps) x) :
    Room ps (fadd x p) ∧ Fin (tsE x p) ∧ V (fadd x p) = rnd (V x + V p) ∧ V (tsE x p) = V x + V p - V (fadd x p) ∧ (V (tsE x p)).natAbs ≤ eps ∧ (V (fadd x p)).natAbs ≤ (V x).natAbs + (V p).natAbs + eps := by
  obtain ⟨h1, h2, _, _, _, _, h7, h8⟩ := two_words h.bd h.head (by omega)
  have hl := h.2.2
  simp only [absSum, List.length_cons, Nat.succ_mul] at hl
  have hz : (V x + V p).natAbs < lid := by omega
  have he := rnd_eps hz
  have ha : (V (fadd x p)).natAbs ≤ (V x).natAbs + (V p).natAbs + eps := by rw [h2]; omega
  refine ⟨⟨fun q hq => h.1 q (List.mem_cons_of_mem _ hq), h1.1, ?_⟩, h7, h2, h8, ?_, ha⟩
  · omega
  · rw [h8, h2]; omega
theorem growL_bound (ps : List Nat) : ∀ x, Room ps x → absSum (growL ps x) ≤ (V x).natAbs + absSum ps + 2 * (ps.length * eps) := by
  induction ps with
  | nil => intro x h; unfold growL; split <;> simp [absSum]
  | cons p ps ih =>
    intro x h
    obtain ⟨hr, _, _, _, he, ha⟩ := h.step
    have := ih _ hr
    have hm : (ps.length + 1) * eps = ps.length * eps + eps := Nat.succ_mul _ _
    unfold growL
    simp only [absSum, List.length_cons, hm]
    split
    · omega
    · simp only [absSum]; omega
theorem growL_fin (ps : List Nat) : ∀ x, Room ps x → ∀ q ∈ growL ps x, Fin q ∧ V q ≠ 0 := by
  induction ps with
  | nil =>
    intro x h q hq
    unfold growL at hq
    split at hq
    · cases hq
    · simp at hq; subst hq; exact ⟨h.2.1, by assumption⟩
  | cons p ps ih =>
    intro x h q hq
    obtain ⟨hr, hf, _⟩ := h.step
    unfold growL at hq
    split at hq
    · exact ih _ hr q hq
    · simp only [List.mem_cons] at hq
      rcases hq with rfl | hq
      · exact ⟨hf, by assumption⟩
      · exact ih _ hr q hq
theorem growL_sum (ps : List Nat) : ∀ x, Room ps x → vSum (growL ps x) = V x + vSum ps := by
  induction ps with
  | nil => intro x h; unfold growL; split <;> simp [vSum]; omega
  | cons p ps ih =>
    intro x h
    obtain ⟨hr, _, h2, h3, _⟩ := h.step
    have := ih _ hr
    unfold growL
    split
    · simp only [vSum]; omega
    · simp only [vSum]; omega
theorem growL_length (ps : List Nat) : ∀ x, (growL ps x).length ≤ ps.length + 1 := by
  induction ps with
  | nil => intro x; unfold growL; split <;> simp
  | cons p ps ih => intro x; have := ih (fadd x p); unfold growL; split <;> simp <;> omega
theorem growL_dvd (s : Nat) (ps : List Nat) : ∀ x, Room ps x → ((2 ^ s : Nat) : Int) ∣ V x → (∀ p ∈ ps, ((2 ^ s : Nat) : Int) ∣ V p) → ∀ q ∈ growL ps x, ((2 ^ s : Nat) : Int) ∣ V q := by
  induction ps with
  | nil =>
    intro x h hx _ q hq
    unfold growL at hq
    split at hq
    · cases hq
    · simp at hq; subst hq; exact hx
  | cons p ps ih =>
    intro x h hx hp q hq
    obtain ⟨hr, _, h2, h3, _⟩ := h.step
    have hs := dvd_add' hx (hp p List.mem_cons_self)
    have hq1 : ((2 ^ s : Nat) : Int) ∣ V (fadd x p) := by rw [h2]; exact rnd_dvd hs
    unfold growL at hq
    split at hq
    · exact ih _ hr hq1 (fun q hq => hp q (List.mem_cons_of_mem _ hq)) q hq
    · simp only [List.mem_cons] at hq
      rcases hq with rfl | hq
      · rw [h3]; exact dvd_sub' hs hq1
      · exact ih _ hr hq1 (fun q hq => hp q (List.mem_cons_of_mem _ hq)) q hq

/-- The one's highest digit lies below the other's lowest. -/
def Sp (a b : Int) : Prop := ((2 ^ (a.natAbs.log2 + 1) : Nat) : Int) ∣ b
theorem Sp.of {a b : Int} {t : Nat} (h0 : a ≠ 0) (h1 : a.natAbs < 2 ^ t) (h2 : ((2 ^ t : Nat) : Int) ∣ b) : Sp a b :=
  dvd_down (by have := (Nat.log2_lt (by omega)).2 h1; omega) h2
theorem Sp.le {a a' b : Int} (h0 : a' ≠ 0) (h1 : a'.natAbs ≤ a.natAbs) (h : Sp a b) : Sp a' b :=
  Sp.of h0 (Nat.lt_of_le_of_lt h1 Nat.lt_log2_self) h
/-- None zero, none overlapping a later one. -/
def Apart : List Nat → Prop
  | [] => True
  | p :: ps => V p ≠ 0 ∧ (∀ q ∈ ps, Sp (V p) (V q)) ∧ Apart ps
theorem growL_apart (ps : List Nat) : ∀ x, Room ps x → Apart ps → Apart (growL ps x) := by
  induction ps with
  | nil =>
    intro x h _
    unfold growL
    split
    · trivial
    · rename_i h0
      refine ⟨h0, ?_, trivial⟩
      intro q hq
      cases hq
  | cons p ps ih =>
    intro x h ha
    obtain ⟨hr, _, h2, h3, _⟩ := h.step
    obtain ⟨a1, a2, a3⟩ := ha
    unfold growL
    split
    · exact ih _ hr a3
    · rename_i hne
      refine ⟨hne, ?_, ih _ hr a3⟩
      -- the error lies below all that is left
      have hz := rnd_err (V x + V p)
      have hle : (V (tsE x p)).natAbs ≤ (V p).natAbs := by
        have := rnd_near (z := V x + V p) (V_F x)
        rw [h3, h2]; omega
      have hQ : Sp (V (tsE x p)) (V (fadd x p)) := by
        refine Sp.of (t := ex (V x + V p).natAbs) hne ?_ ?_
        · rw [h2] at h3
          have h4 : (V (tsE x p)).natAbs = (rnd (V x + V p) - (V x + V p)).natAbs := by rw [h3]; omega
          omega
        · rw [h2, ← dvd_natAbs_iff, natAbs_rnd]; exact dvd_rnv _
      exact growL_dvd _ ps _ hr hQ (fun q hq => (a2 q hq).le hne hle)

/-! Folded over a list of terms. -/
def growAll : List Nat → List Nat → List Nat
  | ps, [] => ps
  | ps, x :: xs => growAll (growL ps x) xs
theorem growAll_succ (fs : List Nat) (k : Nat) (hk : k < fs.length) : growAll [] (fs.take (k + 1)) = growL (growAll [] (fs.take k)) (fs.getD k 0) := by
  have key : ∀ (xs ps : List Nat) (y : Nat), growAll ps (xs ++ [y]) = growL (growAll ps xs) y := by
    intro xs
    induction xs with
    | nil => intro ps y; rfl
    | cons x xs ih => intro ps y; exact ih _ _
  rw [List.take_succ_eq_append_getElem hk, key]
  simp [List.getD_eq_getElem?_getD, List.getElem?_eq_getElem hk]
/-- What holds behind k steps. -/
structure GrowInv (k : Nat) (ps : List Nat) (total : Int) : Prop where
  fin : ∀ p ∈ ps, Fin p
  bound : absSum ps ≤ 2 * k * unit
  len : ps.length ≤ k
  sum : vSum ps = total
  apart : Apart ps
theorem GrowInv.room {k : Nat} {ps : List Nat} {t : Int} (h : GrowInv k ps t) (hk : k ≤ 1025) {x : Nat} (hx : Bd 1 x) : Room ps x := by
  refine ⟨h.fin, hx.1, ?_⟩
  have h1 := bd_unit hx
  have h2 := h.bound
  have h3 := Nat.mul_le_mul_right eps (Nat.le_trans h.len hk)
  have h4 : 2 * k * unit ≤ 2050 * unit := Nat.mul_le_mul_right _ (by omega)
  have := eps_pos
  rw [lid_eps]
  rw [unit_eps] at *
  omega
theorem GrowInv.step {k : Nat} {ps : List Nat} {t : Int} (h : GrowInv k ps t) (hk : k ≤ 1024) {x : Nat} (hx : Bd 1 x) : GrowInv (k + 1) (growL ps x) (t + V x) := by
  have hr := h.room (by omega) hx
  refine ⟨fun p hp => (growL_fin ps x hr p hp).1, ?_, ?_, ?_, growL_apart ps x hr h.apart⟩
  · have h0 := growL_bound ps x hr
    have h1 := bd_unit hx
    have h2 := h.bound
    have h3 := Nat.mul_le_mul_right eps (Nat.le_trans h.len hk)
    rw [show 2 * (k + 1) = 2 * k + 2 from by omega, Nat.add_mul]
    generalize 2 * k * unit = K at *
    rw [unit_eps] at *
    omega
  · have := growL_length ps x; have := h.len; omega
  · rw [growL_sum ps x hr, h.sum]; omega
def vTo (fs : List Nat) : Nat → Int
  | 0 => 0
  | k + 1 => vTo fs k + V (fs.getD k 0)
theorem growAll_inv {fs : List Nat} (h : Adm fs) (hn : fs.length ≤ 1025) (k : Nat) (hk : k ≤ fs.length) : GrowInv k (growAll [] (fs.take k)) (vTo fs k) := by
  induction k with
  | zero => exact ⟨fun p hp => by simp [growAll] at hp, by simp [growAll, absSum], by simp [growAll], by simp [growAll, vSum, vTo], by simp [growAll, Apart]⟩
  | succ k ih =>
    rw [growAll_succ fs k (by omega)]
    exact (ih (by omega)).step (by omega) (h k (by omega))
end Fl
