import Derived.Test.YgctalSq
namespace Go.Proofs.Ygctal
open Go.RowKit
set_option maxHeartbeats 2000000
set_option linter.unusedVariables false

/-! ShadowBounds: its own arithmetic. -/
theorem i64_andNot (a b : Nat) (ha : a < 18446744073709551616) (hb : b < 18446744073709551616) : bits .andNot .i64 (a : Int) (b : Int) = IntKind.i64.wrap ((a &&& (18446744073709551615 - b) : Nat) : Int) := by
  show IntKind.i64.wrap ((BitVec.ofInt 64 (a : Int) &&& ~~~BitVec.ofInt 64 (b : Int)).toNat : Int) = _
  rw [BitVec.toNat_and, BitVec.toNat_not, ofInt_u64 a ha, ofInt_u64 b hb]
theorem i64_and (a b : Nat) (ha : a < 18446744073709551616) (hb : b < 18446744073709551616) : bits .and .i64 (a : Int) (b : Int) = IntKind.i64.wrap ((a &&& b : Nat) : Int) := by
  show IntKind.i64.wrap ((BitVec.ofInt 64 (a : Int) &&& BitVec.ofInt 64 (b : Int)).toNat : Int) = _
  rw [BitVec.toNat_and, ofInt_u64 a ha, ofInt_u64 b hb]
def clr (h : Nat) : Bool := (List.range 2048).all fun i => i &&& (18446744073709551615 - h) == i / (2 * h) * (2 * h) + i % h
theorem clr_all : (clr 1 && clr 2 && clr 4 && clr 8 && clr 16 && clr 32 && clr 64 && clr 128 && clr 256 && clr 512 && clr 1024) = true := by decide +kernel
theorem clr_at {h i : Nat} (H : Hf h) (hi : i < 2048) : i &&& (18446744073709551615 - h) = pb h i := by
  have hc : clr h = true := by
    have := clr_all
    simp only [Bool.and_eq_true] at this
    obtain ⟨⟨⟨⟨⟨⟨⟨⟨⟨⟨x1, x2⟩, x3⟩, x4⟩, x5⟩, x6⟩, x7⟩, x8⟩, x9⟩, x10⟩, x11⟩ := this
    rcases H with rfl | rfl | rfl | rfl | rfl | rfl | rfl | rfl | rfl | rfl | rfl
    · exact x1
    · exact x2
    · exact x3
    · exact x4
    · exact x5
    · exact x6
    · exact x7
    · exact x8
    · exact x9
    · exact x10
    · exact x11
  have := List.all_eq_true.1 hc i (by rw [List.mem_range]; exact hi)
  exact eq_of_beq this
theorem pb_le {h : Nat} (i : Nat) (H : Hf h) : pb h i ≤ i := by
  unfold pb
  rcases H with rfl | rfl | rfl | rfl | rfl | rfl | rfl | rfl | rfl | rfl | rfl <;> omega
theorem andNot_pb {h i : Nat} (H : Hf h) (hi : i < 2048) : bits .andNot .i64 (i : Int) (h : Int) = ((pb h i : Nat) : Int) := by
  have hh : h ≤ 1024 := by unfold Hf at H; omega
  rw [i64_andNot i h (by omega) (by omega), clr_at H hi, IntKind.wrap_i64]
  have := pb_le i H
  omega
theorem pb_mod {h i : Nat} (H : Hf h) : pb h i % h = i % h ∧ pb h i % (2 * h) = i % h := by
  unfold pb
  rcases H with rfl | rfl | rfl | rfl | rfl | rfl | rfl | rfl | rfl | rfl | rfl <;> omega
theorem pb_lt {h i n : Nat} (H : Hf h) (hn : n % (2 * h) = 0) (hi : i < n) : pb h i + h < n := by
  unfold pb
  rcases H with rfl | rfl | rfl | rfl | rfl | rfl | rfl | rfl | rfl | rfl | rfl <;> omega
theorem and_mod {r p : Nat} (hr : r ≤ 10) (hp : p < 2048) : bits .and .i64 (p : Int) ((p2 r : Nat) - 1 : Int) = ((p % p2 r : Nat) : Int) := by
  have h1 := p2_pos r
  have h2 : p2 r ≤ 1024 := by have := p2_le hr; rwa [show p2 10 = 1024 from rfl] at this
  rw [show ((p2 r : Nat) - 1 : Int) = ((p2 r - 1 : Nat) : Int) from by omega, i64_and p _ (by omega) (by omega)]
  rw [show p2 r - 1 = 2 ^ r - 1 from rfl, Nat.and_two_pow_sub_one_eq_mod, IntKind.wrap_i64, show 2 ^ r = p2 r from rfl]
  have := Nat.mod_lt p h1
  omega
def smAll : Bool := (List.range 2048).all fun i => Fl.smB (floatOfInt .f64 (i : Int)) || (decide (floatOfInt .f64 (i : Int) < 18446744073709551616) && decide (Fl.rung (floatOfInt .f64 (i : Int)) < 1036 * 4503599627370496))
theorem smAll_ok : smAll = true := by decide +kernel
theorem flt_sm (i : Nat) (hi : i < 2048) : Fl.Sm 1036 (floatOfInt .f64 (i : Int)) := by
  have := List.all_eq_true.1 smAll_ok i (by rw [List.mem_range]; exact hi)
  rw [Bool.or_eq_true] at this
  rcases this with h | h
  · exact (Fl.smB_sm h).mono (by omega)
  · simp only [Bool.and_eq_true, decide_eq_true_eq] at h
    exact h
/-- Where the root is 1 or -i. -/
theorem plain_iff {k h st j : Nat} (hn : p2 k = 2 * h * st) (hst : 0 < st) : (j * st == 0 || 4 * (j * st) == 2 ^ k) = (j == 0 || 2 * j == h) := by
  have e1 : (j * st = 0) ↔ j = 0 := ⟨fun h => by rcases Nat.mul_eq_zero.1 h with h | h <;> omega, fun h => by rw [h, Nat.zero_mul]⟩
  have e2 : (4 * (j * st) = 2 ^ k) ↔ 2 * j = h := by
    rw [show 2 ^ k = p2 k from rfl, hn, show 4 * (j * st) = (2 * (2 * j)) * st from by rw [← Nat.mul_assoc]; congr 1; omega]
    constructor
    · intro hh
      have := Nat.eq_of_mul_eq_mul_right hst hh
      omega
    · intro hh
      rw [hh]
  rw [Bool.eq_iff_iff]
  simp only [Bool.or_eq_true, beq_iff_eq, e1, e2]
/-- The law's own number. -/
theorem want_spr (v : Nat) (hv : v < 18446744073709551616) :
    ((v % 4294967296) * 23171 + 16383 + (v / 4294967296 * 23171) % 16384 * 4294967296) / 16384 + (v / 4294967296 * 23171) / 16384 * 4294967296 = spr v := by
  unfold spr
  omega
end Go.Proofs.Ygctal
