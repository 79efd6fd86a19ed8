import Derived.Test.YgctalWa
namespace Go.Proofs.Ygctal
open Go.RowKit
set_option maxHeartbeats 400000

/-! ends. -/
def lowTo (m : Nat) : Nat → Int
  | 0 => -1
  | k + 1 => if m / 2 ^ k % 2 = 1 ∧ lowTo m k < 0 then (k : Int) else lowTo m k
def highTo (m : Nat) : Nat → Int
  | 0 => -1
  | k + 1 => if m / 2 ^ k % 2 = 1 then (k : Int) else highTo m k
theorem lowTo_ge (m k : Nat) : -1 ≤ lowTo m k := by
  induction k with
  | zero => simp [lowTo]
  | succ k ih => unfold lowTo; split <;> omega
theorem highTo_ge (m k : Nat) : -1 ≤ highTo m k := by
  induction k with
  | zero => simp [highTo]
  | succ k ih => unfold highTo; split <;> omega
theorem bit_test (m k : Nat) (hm : m < 18446744073709551616) : bits .and .u64 ((m : Int) / 2 ^ k) 1 = ((m / 2 ^ k % 2 : Nat) : Int) := by
  have h1 : m / 2 ^ k ≤ m := Nat.div_le_self _ _
  have := u64_and_nat (m / 2 ^ k) 1 (by omega) (by omega)
  rw [nat_mask1] at this
  simpa using this

theorem ends_any (m : Nat) (hm : m < 18446744073709551616) (w : World) : Calls Talg.prog 59 #[.int .u64 m] w fun e w' => e = .returned (.tuple #[.int .i64 (lowTo m 64), .int .i64 (highTo m 64)]) ∧ w' = w := by
  go_enter Talg.func59, Talg.ntmps59
  go_wp2
  go_loop [2, 3, 4] (fun lo hi i => ∃ k : Nat, k ≤ 64 ∧ i = .int .i64 k ∧ lo = .int .i64 (lowTo m k) ∧ hi = .int .i64 (highTo m k)) (fun _ _ i => 64 - (intOf i).toNat)
  case atStart => exact ⟨0, by omega, rfl, rfl, rfl⟩
  case round =>
    obtain ⟨k, hk, rfl, rfl, rfl⟩ := hrel
    have hl := lowTo_ge m k
    have hh := highTo_ge m k
    by_cases hlt : k < 64
    · have hb := bit_test m k hm
      by_cases hbit : m / 2 ^ k % 2 = 1
      · by_cases hneg : lowTo m k < 0
        · have H1 : Hid (lowTo m (k + 1) = k) := by show lowTo m (k + 1) = k; rw [lowTo, if_pos ⟨hbit, hneg⟩]
          have H2 : Hid (highTo m (k + 1) = k) := by show highTo m (k + 1) = k; rw [highTo, if_pos hbit]
          go_wp2
          go_round
          case rel => exact ⟨k + 1, by omega, by go_num, by rw [H1.out], by rw [H2.out]⟩
          case measure => simp [intOf]; omega
        · have H1 : Hid (lowTo m (k + 1) = lowTo m k) := by show lowTo m (k + 1) = lowTo m k; rw [lowTo, if_neg (by omega)]
          have H2 : Hid (highTo m (k + 1) = k) := by show highTo m (k + 1) = k; rw [highTo, if_pos hbit]
          go_wp2
          go_round
          case rel => exact ⟨k + 1, by omega, by go_num, by rw [H1.out], by rw [H2.out]⟩
          case measure => simp [intOf]; omega
      · have H1 : Hid (lowTo m (k + 1) = lowTo m k) := by show lowTo m (k + 1) = lowTo m k; rw [lowTo, if_neg (by omega)]
        have H2 : Hid (highTo m (k + 1) = highTo m k) := by show highTo m (k + 1) = highTo m k; rw [highTo, if_neg hbit]
        have hbit0 : m / 2 ^ k % 2 = 0 := by omega
        go_wp2
        go_round
        case rel => exact ⟨k + 1, by omega, by go_num, by rw [H1.out], by rw [H2.out]⟩
        case measure => simp [intOf]; omega
    · obtain rfl : k = 64 := by omega
      go_wp2
      go_ret2
      exact ⟨rfl, rfl⟩

/-! What ends finds: the places of the lowest and the highest 1. -/
theorem highTo_spec (m : Nat) (k : Nat) : (highTo m k = -1 ∧ m % 2 ^ k = 0) ∨ (∃ h : Nat, highTo m k = h ∧ h < k ∧ 2 ^ h ≤ m % 2 ^ k ∧ m % 2 ^ k < 2 ^ (h + 1)) := by
  induction k with
  | zero => left; exact ⟨rfl, by simp [Nat.mod_one]⟩
  | succ k ih =>
    have hs : m % 2 ^ (k + 1) = 2 ^ k * (m / 2 ^ k % 2) + m % 2 ^ k := by
      rw [Nat.pow_succ, Nat.mod_mul]; omega
    have hp := Nat.two_pow_pos k
    have hlt : m % 2 ^ k < 2 ^ k := Nat.mod_lt _ hp
    unfold highTo
    by_cases hb : m / 2 ^ k % 2 = 1
    · rw [if_pos hb]
      right
      refine ⟨k, rfl, by omega, ?_, ?_⟩
      · rw [hs, hb]; omega
      · rw [hs, hb, Nat.pow_succ]; omega
    · rw [if_neg hb]
      have hb0 : m / 2 ^ k % 2 = 0 := by omega
      rw [hb0, Nat.mul_zero, Nat.zero_add] at hs
      rw [hs]
      rcases ih with ⟨h1, h2⟩ | ⟨h, h1, h2, h3, h4⟩
      · left; exact ⟨h1, h2⟩
      · right; exact ⟨h, h1, by omega, h3, h4⟩
theorem lowTo_spec (m : Nat) (k : Nat) : (lowTo m k = -1 ∧ m % 2 ^ k = 0) ∨ (∃ h : Nat, lowTo m k = h ∧ h < k ∧ m % 2 ^ h = 0 ∧ m / 2 ^ h % 2 = 1) := by
  induction k with
  | zero => left; exact ⟨rfl, by simp [Nat.mod_one]⟩
  | succ k ih =>
    have hs : m % 2 ^ (k + 1) = 2 ^ k * (m / 2 ^ k % 2) + m % 2 ^ k := by
      rw [Nat.pow_succ, Nat.mod_mul]; omega
    unfold lowTo
    rcases ih with ⟨h1, h2⟩ | ⟨h, h1, h2, h3, h4⟩
    · by_cases hb : m / 2 ^ k % 2 = 1
      · rw [if_pos ⟨hb, by omega⟩]; right; exact ⟨k, rfl, by omega, h2, hb⟩
      · rw [if_neg (by omega)]; left
        refine ⟨h1, ?_⟩
        rw [hs, h2, show m / 2 ^ k % 2 = 0 from by omega]; simp
    · rw [if_neg (by omega)]; right; exact ⟨h, h1, by omega, h3, h4⟩
/-- Of a positive word: its highest 1's place and its lowest 1's. -/
theorem ends_spec (m : Nat) (h0 : 0 < m) (hm : m < 18446744073709551616) :
    ∃ lo hi : Nat, lowTo m 64 = lo ∧ highTo m 64 = hi ∧ lo ≤ hi ∧ hi < 64 ∧ 2 ^ hi ≤ m ∧ m < 2 ^ (hi + 1) ∧ 2 ^ lo ∣ m ∧ m / 2 ^ lo % 2 = 1 := by
  have hmm : m % 2 ^ 64 = m := Nat.mod_eq_of_lt hm
  rcases highTo_spec m 64 with ⟨_, h⟩ | ⟨hi, h1, h2, h3, h4⟩
  · omega
  · rcases lowTo_spec m 64 with ⟨_, h⟩ | ⟨lo, l1, l2, l3, l4⟩
    · omega
    · rw [hmm] at h3 h4
      refine ⟨lo, hi, l1, h1, ?_, h2, h3, h4, Nat.dvd_of_mod_eq_zero l3, l4⟩
      refine Decidable.byContradiction fun hn => ?_
      have : 2 ^ (hi + 1) ≤ 2 ^ lo := Nat.pow_le_pow_right (by omega) (by omega)
      have : m / 2 ^ lo = 0 := Nat.div_eq_of_lt (by omega)
      omega
end Go.Proofs.Ygctal
