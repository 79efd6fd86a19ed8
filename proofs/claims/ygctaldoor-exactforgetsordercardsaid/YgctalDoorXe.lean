import Derived.Test.YgctalDoorXd
namespace Go.Proofs.YgctalDoor
open Go.RowKit Go.Shelf
set_option maxHeartbeats 4000000
set_option exponentiation.threshold 5000
set_option linter.unusedVariables false
set_option linter.unusedSimpArgs false

/-! Round: the plain side. -/
theorem sc_pow : sc = 2 ^ 1074 := rfl
theorem sc_pos : 0 < sc := Nat.two_pow_pos 1074
theorem rp_log {n : Nat} (h0 : n ≠ 0) : (n * sc).log2 = n.log2 + 1074 := by rw [sc_pow]; exact Fl.log2_mul_pow n 1074 h0
theorem rp_div (n d : Nat) : n * sc / 2 ^ (1074 + d) = n / 2 ^ d := by
  rw [Nat.pow_add, ← sc_pow, ← Nat.div_div_eq_div_mul, Nat.mul_div_cancel _ sc_pos]
theorem rp_man (n : Nat) : n * sc / 2 ^ (1074 + Fl.ex n) % 9007199254740992 = n / 2 ^ Fl.ex n := by
  rw [rp_div, Nat.mod_eq_of_lt (Fl.quot_lt n)]
theorem half_parts (n H : Nat) (hH : 0 < H) : n % (2 * H) = n / H % 2 * H + n % H ∧ n % H < H ∧ n / H % 2 < 2 := by
  refine ⟨?_, Nat.mod_lt _ hH, Nat.mod_lt _ (by decide)⟩
  rw [Nat.mul_comm 2 H, Nat.mod_mul, Nat.mul_comm (n / H % 2)]
  omega
/-- Whether to round up. -/
theorem rp_up (n : Nat) : (decide (n * sc / 2 ^ (1073 + Fl.ex n) % 2 = 1) && (decide (n / 2 ^ Fl.ex n % 2 = 1) || decide (n * sc % 2 ^ (1073 + Fl.ex n) ≠ 0))) = decide (Fl.up n (Fl.ex n) = 1) := by
  generalize Fl.ex n = d
  cases d with
  | zero =>
    have h1 : n * sc / 2 ^ (1073 + 0) % 2 = 0 := by
      rw [Nat.add_zero, sc_pow, show (2 : Nat) ^ 1074 = 2 * 2 ^ 1073 from by rw [Nat.pow_succ 2 1073, Nat.mul_comm], ← Nat.mul_assoc, Nat.mul_div_cancel _ (Nat.two_pow_pos 1073), Nat.mul_mod_left]
    rw [h1, Fl.up_zero]
    rfl
  | succ d =>
    have e1 : n * sc / 2 ^ (1073 + (d + 1)) = n / 2 ^ d := by rw [show 1073 + (d + 1) = 1074 + d from by omega, rp_div]
    have e2 : n * sc % 2 ^ (1073 + (d + 1)) = n % 2 ^ d * sc := by
      rw [show 1073 + (d + 1) = d + 1074 from by omega, Nat.pow_add, ← sc_pow, Nat.mul_mod_mul_right]
    rw [e1, e2]
    have hz : (n % 2 ^ d * sc ≠ 0) ↔ n % 2 ^ d ≠ 0 := by
      have := sc_pos
      constructor
      · intro h g; rw [g, Nat.zero_mul] at h; exact h rfl
      · intro h g; rcases Nat.mul_eq_zero.1 g with g | g <;> omega
    unfold Fl.up
    have hp := Nat.two_pow_pos d
    rw [show 2 ^ (d + 1) = 2 * 2 ^ d from by rw [Nat.pow_succ, Nat.mul_comm]]
    generalize 2 ^ d = H at *
    obtain ⟨hm, hlt, hb⟩ := half_parts n H hp
    rw [hm]
    generalize n / (2 * H) % 2 = o at *
    generalize n % H = r at *
    rcases (show n / H % 2 = 0 ∨ n / H % 2 = 1 by omega) with h | h
    · rw [h, Nat.zero_mul, Nat.zero_add, if_neg (by omega)]
      simp
    · rw [h, Nat.one_mul]
      by_cases hr : r = 0
      · subst hr
        by_cases ho : o = 1
        · rw [if_pos (Or.inr ⟨by omega, ho⟩)]; simp [ho]
        · rw [if_neg (by omega)]; simp [ho]
      · rw [if_pos (Or.inl (by omega))]
        simp only [decide_true, Bool.true_and, decide_eq_true (hz.2 hr), Bool.or_true]
theorem rne_up (n : Nat) : Fl.rne n (Fl.ex n) = n / 2 ^ Fl.ex n + (if (decide (Fl.up n (Fl.ex n) = 1)) then 1 else 0) := by
  unfold Fl.rne
  have := Fl.up_le n (Fl.ex n)
  rcases (show Fl.up n (Fl.ex n) = 0 ∨ Fl.up n (Fl.ex n) = 1 by omega) with h | h <;> rw [h] <;> rfl
/-- The bound under which the sums lie. -/
def rbd : Nat := 2 ^ 2090
theorem rbd_lt {n : Nat} (h : n < rbd) : n < 2 ^ 2097 := Nat.lt_of_lt_of_le h (Nat.pow_le_pow_right (by omega) (by omega))
theorem rbd_ex {n : Nat} (h : n < rbd) : Fl.ex n ≤ 2037 := Fl.ex_le_of_lt (d := 2037) h
theorem enc_word {t : Int} (h : t.natAbs < rbd) (h0 : t ≠ 0) : Fl.enc false t = (if decide (t < 0) then 9223372036854775808 else 0) + (Fl.ex t.natAbs * 4503599627370496 + Fl.rne t.natAbs (Fl.ex t.natAbs)) := by
  unfold Fl.enc
  rw [if_neg h0, Fl.word_eq, Nat.min_eq_left (by rw [Fl.infRung_eq]; exact Nat.le_of_lt (Fl.rd_lt (rbd_lt h)))]
  unfold Fl.rd
  cases decide (t < 0)
  · simp
  · rfl
theorem enc_zero : Fl.enc false 0 = 0 := by decide +kernel
theorem rne_pos {n : Nat} (h : n ≠ 0) : 0 < Fl.rne n (Fl.ex n) := by
  rcases Nat.eq_zero_or_pos (Fl.ex n) with h1 | h1
  · rw [h1, Fl.rne_zero]; omega
  · have := Fl.quot_ge h1
    unfold Fl.rne; omega
theorem rne_big (n : Nat) : Fl.ex n = 0 ∨ 4503599627370496 ≤ Fl.rne n (Fl.ex n) := by
  rcases Nat.eq_zero_or_pos (Fl.ex n) with h1 | h1
  · left; exact h1
  · right; have := Fl.quot_ge h1; unfold Fl.rne; omega
end Go.Proofs.YgctalDoor
