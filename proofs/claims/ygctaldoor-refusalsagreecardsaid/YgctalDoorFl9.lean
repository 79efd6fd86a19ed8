import Derived.Test.YgctalDoorFl8
namespace Fl
set_option linter.unusedVariables false
set_option maxHeartbeats 2000000

/-! Partials that lie apart: heads and tails. -/
theorem Apart.at {ps : List Nat} (h : Apart ps) : ∀ i, i < ps.length → V (ps.getD i 0) ≠ 0 ∧ ∀ j, i < j → j < ps.length → Sp (V (ps.getD i 0)) (V (ps.getD j 0)) := by
  induction ps with
  | nil => intro i hi; simp at hi
  | cons p ps ih =>
    intro i hi
    cases i with
    | zero =>
      refine ⟨h.1, fun j hj hj2 => ?_⟩
      obtain ⟨k, rfl⟩ : ∃ k, j = k + 1 := ⟨j - 1, by omega⟩
      have hk : k < ps.length := by simpa using hj2
      exact h.2.1 _ (getD_mem hk)
    | succ i =>
      obtain ⟨a, b⟩ := ih h.2.2 i (by simpa using hi)
      refine ⟨a, fun j hj hj2 => ?_⟩
      obtain ⟨k, rfl⟩ : ∃ k, j = k + 1 := ⟨j - 1, by omega⟩
      exact b k (by omega) (by simpa using hj2)
def hd (ps : List Nat) (n : Nat) : Int := vSum (ps.drop n)
def tl (ps : List Nat) (n : Nat) : Int := vSum (ps.take n)
theorem tl_succ {ps : List Nat} {n : Nat} (h : n < ps.length) : tl ps (n + 1) = tl ps n + V (ps.getD n 0) := by
  unfold tl
  rw [List.take_succ_eq_append_getElem h, vSum_append]
  simp [vSum, List.getD_eq_getElem?_getD, List.getElem?_eq_getElem h]
theorem hd_step {ps : List Nat} {n : Nat} (h : n < ps.length) : hd ps n = V (ps.getD n 0) + hd ps (n + 1) := by
  unfold hd
  rw [List.drop_eq_getElem_cons h]
  simp [vSum, List.getD_eq_getElem?_getD, List.getElem?_eq_getElem h]
theorem hd_tl (ps : List Nat) (n : Nat) : tl ps n + hd ps n = vSum ps := by
  unfold hd tl
  rw [← vSum_append, List.take_append_drop]
theorem hd_end (ps : List Nat) : hd ps ps.length = 0 := by unfold hd; rw [List.drop_length]; rfl
theorem hd_zero (ps : List Nat) : hd ps 0 = vSum ps := rfl
/-- The exponent above a number. -/
def ov (a : Int) : Nat := a.natAbs.log2 + 1
theorem lt_ov (a : Int) : a.natAbs < 2 ^ ov a := Nat.lt_log2_self
theorem hd_dvd {ps : List Nat} (h : Apart ps) {i : Nat} (hi : i < ps.length) : ∀ k n, n + k = ps.length → i < n → ((2 ^ ov (V (ps.getD i 0)) : Nat) : Int) ∣ hd ps n := by
  intro k
  induction k with
  | zero => intro n hn _; rw [show n = ps.length from by omega, hd_end]; exact Int.dvd_zero _
  | succ k ih =>
    intro n hn hin
    rw [hd_step (by omega)]
    exact Int.dvd_add ((h.at i hi).2 n hin (by omega)) (ih (n + 1) (by omega) (by omega))
theorem hd_ne {ps : List Nat} (h : Apart ps) {n : Nat} (hn : n < ps.length) : hd ps n ≠ 0 := by
  have hd1 := hd_dvd h hn (ps.length - (n + 1)) (n + 1) (by omega) (by omega)
  have h0 := (h.at n hn).1
  rw [hd_step hn]
  intro he
  have : ((2 ^ ov (V (ps.getD n 0)) : Nat) : Int) ∣ V (ps.getD n 0) := by
    have h2 := Int.dvd_neg.2 hd1
    rwa [show -hd ps (n + 1) = V (ps.getD n 0) from by omega] at h2
  exact h0 (mult_lt this (lt_ov _))
/-- The tail lies below its last item's top, and bears its sign. -/
theorem tl_sign {ps : List Nat} (h : Apart ps) : ∀ n, n < ps.length → (tl ps (n + 1)).natAbs < 2 ^ ov (V (ps.getD n 0)) ∧ (0 < tl ps (n + 1) ↔ 0 < V (ps.getD n 0)) ∧ (tl ps (n + 1) < 0 ↔ V (ps.getD n 0) < 0) ∧ tl ps (n + 1) ≠ 0 := by
  intro n
  induction n with
  | zero =>
    intro hn
    have h0 := (h.at 0 hn).1
    rw [tl_succ hn, show tl ps 0 = 0 from rfl, Int.zero_add]
    exact ⟨lt_ov _, Iff.rfl, Iff.rfl, h0⟩
  | succ n ih =>
    intro hn
    obtain ⟨a, _, _, _⟩ := ih (by omega)
    have h0 := (h.at (n + 1) hn).1
    have hs : ((2 ^ ov (V (ps.getD n 0)) : Nat) : Int) ∣ V (ps.getD (n + 1) 0) := (h.at n (by omega)).2 (n + 1) (by omega) hn
    have hl := lt_ov (V (ps.getD (n + 1) 0))
    have hdn := (dvd_natAbs_iff _ _).2 hs
    have hge := Nat.le_of_dvd (by omega) hdn
    have hov : ov (V (ps.getD n 0)) < ov (V (ps.getD (n + 1) 0)) := by
      rcases Nat.lt_or_ge (ov (V (ps.getD n 0))) (ov (V (ps.getD (n + 1) 0))) with h | h
      · exact h
      · have := Nat.pow_le_pow_right (n := 2) (by omega) h
        omega
    have hle : (V (ps.getD (n + 1) 0)).natAbs + 2 ^ ov (V (ps.getD n 0)) ≤ 2 ^ ov (V (ps.getD (n + 1) 0)) := by
      have he : 2 ^ ov (V (ps.getD (n + 1) 0)) = 2 ^ (ov (V (ps.getD (n + 1) 0)) - ov (V (ps.getD n 0))) * 2 ^ ov (V (ps.getD n 0)) := by rw [← Nat.pow_add]; congr 1; omega
      rw [he] at hl ⊢
      exact mult_below hdn hl
    rw [tl_succ hn]
    refine ⟨by omega, by omega, by omega, by omega⟩
end Fl
