import Derived.Test.YgctalDoorXa
import Derived.BigQuiet
namespace Go.Proofs.YgctalDoor
open Go.RowKit Go.Shelf
set_option maxHeartbeats 4000000
set_option linter.unusedVariables false
set_option linter.unusedSimpArgs false

/-! join. -/
theorem nat_strip (r : Nat) (hr : r < 4503599627370496) : (4503599627370496 + r) &&& 18442240474082181119 = r := by
  have h1 : 4503599627370496 + r = 2 ^ 52 ||| r := by
    have := Nat.two_pow_add_eq_or_of_lt (i := 52) (b := r) (by omega) 1
    rwa [Nat.mul_one] at this
  rw [h1, show (18442240474082181119 : Nat) = 2 ^ 64 - (2 ^ 52 + 1) from by decide]
  apply Nat.eq_of_testBit_eq
  intro i
  rw [Nat.testBit_and, Nat.testBit_or, Nat.testBit_two_pow_sub_succ (by decide), Nat.testBit_two_pow]
  by_cases hi : 52 = i
  · subst hi
    rw [Nat.testBit_lt_two_pow (by omega)]
    simp
  · by_cases h64 : i < 64
    · simp [hi, h64]
    · have : r.testBit i = false := Nat.testBit_lt_two_pow (Nat.lt_of_lt_of_le (show r < 2 ^ 52 by omega) (Nat.pow_le_pow_right (by omega) (by omega)))
      simp [hi, this]
theorem strip52 {man : Nat} (hge : 4503599627370496 ≤ man) (hlt : man < 9007199254740992) : bits .andNot .u64 (man : Int) 4503599627370496 = ((man - 4503599627370496 : Nat) : Int) := by
  have h := u64_andNot_nat man 4503599627370496 (by omega) (by omega)
  have e := nat_strip (man - 4503599627370496) (by omega)
  rw [show 4503599627370496 + (man - 4503599627370496) = man from by omega] at e
  rw [show (18446744073709551615 - 4503599627370496 : Nat) = 18442240474082181119 from by decide, e] at h
  exact h
theorem or52 (a b : Nat) (ha : a < 4096) (hb : b < 4503599627370496) : bits .or .u64 (((a * 4503599627370496 : Nat) : Int)) (b : Int) = ((a * 4503599627370496 + b : Nat) : Int) := by
  have h := u64_or_nat (a * 4503599627370496) b (by omega) (by omega)
  have e : a * 4503599627370496 ||| b = a * 4503599627370496 + b := by
    have := Nat.two_pow_add_eq_or_of_lt (i := 52) (b := b) (by omega) a
    rw [Nat.mul_comm] at this
    exact this.symm
  rw [e] at h
  exact h
theorem shr_shl {man z : Nat} (hd : man / 2 ^ z * 2 ^ z = man) (hlt : man < 18446744073709551616) : IntKind.u64.wrap ((man : Int) / 2 ^ z * 2 ^ z) = (man : Int) := by
  have h : (((man / 2 ^ z * 2 ^ z : Nat)) : Int) = (man : Int) / 2 ^ z * 2 ^ z := by push_cast; rfl
  rw [← h, hd, IntKind.wrap_u64]
  omega
theorem join_sub (man z L : Nat) (w : World) (hm : 0 < man) (hz : z ≤ 51) (hL : L ≤ 52) (hzL : z < L)
    (HZ : Hid (Calls Talg.prog 53 #[.int .u64 (man : Int)] w fun e w' => e = .returned (.int .i64 z) ∧ w' = w))
    (HL : Hid (Calls Talg.prog 54 #[.int .u64 (man : Int)] w fun e w' => e = .returned (.int .i64 L) ∧ w' = w))
    (hd : man / 2 ^ z * 2 ^ z = man) (hlt : man < 18446744073709551616) :
    Calls Talg.prog 45 #[.int .u64 (man : Int), .int .i64 (-1074), .int .i64 53, .int .i64 (-1074), .int .i64 1024] w fun e w' => e = .returned (.tuple #[.int .u64 (man : Int), .bool true]) ∧ w' = w := by
  have h0 : ((man : Int) == 0) = false := by simp; omega
  go_enter Talg.func45, Talg.ntmps45
  go_wp2_with fail
  refine (Hid.out HZ).mono ?_
  rintro e w1 ⟨rfl, rfl⟩
  go_wp2_with fail
  refine (Hid.out HL).mono ?_
  rintro e w1 ⟨rfl, rfl⟩
  go_wp2
  rw [show (-1074 + (z : Int) + 1074).toNat = z from by omega, shr_shl hd hlt]
  go_ret2
  exact ⟨rfl, rfl⟩
theorem join_nrm (man z e : Nat) (w : World) (hm : 0 < man) (hz : z ≤ 52) (hee : e ≤ 2040)
    (HZ : Hid (Calls Talg.prog 53 #[.int .u64 (man : Int)] w fun e w' => e = .returned (.int .i64 z) ∧ w' = w))
    (HL : Hid (Calls Talg.prog 54 #[.int .u64 (man : Int)] w fun e w' => e = .returned (.int .i64 53) ∧ w' = w))
    (hd : man / 2 ^ z * 2 ^ z = man) (hge : 4503599627370496 ≤ man) (hlt : man < 9007199254740992) :
    Calls Talg.prog 45 #[.int .u64 (man : Int), .int .i64 ((e : Int) - 1074), .int .i64 53, .int .i64 (-1074), .int .i64 1024] w fun r w' => r = .returned (.tuple #[.int .u64 ((e * 4503599627370496 + man : Nat) : Int), .bool true]) ∧ ∃ n, w' = w.drewN n := by
  have h0 : ((man : Int) == 0) = false := by simp; omega
  go_enter Talg.func45, Talg.ntmps45
  go_wp2_with fail
  refine (Hid.out HZ).mono ?_
  rintro e w1 ⟨rfl, rfl⟩
  go_wp2_with fail
  refine (Hid.out HL).mono ?_
  rintro e w1 ⟨rfl, rfl⟩
  go_wp2_with fail
  go_quiet (fail)
  go_wp2
  rw [show 53 - (53 - z) = z from by omega, shr_shl hd (by omega), strip52 hge hlt, show ((e : Int) - 1074 + z + (53 - z) - 53 + 1074 + 1) * 4503599627370496 = (((e + 1) * 4503599627370496 : Nat) : Int) from by omega, or52 _ _ (by omega) (by omega)]
  go_ret2
  refine ⟨?_, nq, rfl⟩
  rw [show (e + 1) * 4503599627370496 + (man - 4503599627370496) = e * 4503599627370496 + man from by omega]
  rfl
theorem join_top (e : Nat) (w : World) (hee : e ≤ 2040)
    (HZ : Hid (Calls Talg.prog 53 #[.int .u64 9007199254740992] w fun e w' => e = .returned (.int .i64 53) ∧ w' = w))
    (HL : Hid (Calls Talg.prog 54 #[.int .u64 9007199254740992] w fun e w' => e = .returned (.int .i64 54) ∧ w' = w)) :
    Calls Talg.prog 45 #[.int .u64 9007199254740992, .int .i64 ((e : Int) - 1074), .int .i64 53, .int .i64 (-1074), .int .i64 1024] w fun r w' => r = .returned (.tuple #[.int .u64 ((e * 4503599627370496 + 9007199254740992 : Nat) : Int), .bool true]) ∧ ∃ n, w' = w.drewN n := by
  go_enter Talg.func45, Talg.ntmps45
  go_wp2_with fail
  refine (Hid.out HZ).mono ?_
  rintro e w1 ⟨rfl, rfl⟩
  go_wp2_with fail
  refine (Hid.out HL).mono ?_
  rintro e w1 ⟨rfl, rfl⟩
  go_wp2_with fail
  go_quiet (fail)
  go_wp2
  have hs := strip52 (man := 4503599627370496) (by omega) (by omega)
  rw [show ((4503599627370496 : Nat) : Int) = 4503599627370496 from rfl] at hs
  rw [hs, show ((e : Int) - 1074 + 53 + 1 - 53 + 1074 + 1) * 4503599627370496 = (((e + 2) * 4503599627370496 : Nat) : Int) from by omega, or52 _ _ (by omega) (by omega)]
  go_ret2
  refine ⟨?_, nq, rfl⟩
  rw [show (e + 2) * 4503599627370496 + (4503599627370496 - 4503599627370496) = e * 4503599627370496 + 9007199254740992 from by omega]
  rfl
theorem bitLen_53 {man : Nat} (hge : 4503599627370496 ≤ man) (hlt : man < 9007199254740992) : Lib.bitLen man = 53 := by
  rw [Lib.bitLen_shift 52 man (by omega) (by omega), show man / 2 ^ 52 = 1 from by omega]
  rfl
theorem ctz_parts {man : Nat} (h0 : man ≠ 0) (h : man < 18446744073709551616) : man / 2 ^ Lib.ctz 64 man * 2 ^ Lib.ctz 64 man = man ∧ 2 ^ Lib.ctz 64 man ≤ man := by
  obtain ⟨m, hm, hk⟩ := Lib.ctzFrom_spec 64 man (by omega) h
  have e : Lib.ctz 64 man = Lib.ctzFrom 64 man := by simp [Lib.ctz, h0]
  rw [e]
  generalize Lib.ctzFrom 64 man = k at *
  have hd : 2 ^ k ∣ man := ⟨_, hm⟩
  exact ⟨Nat.div_mul_cancel hd, Nat.le_of_dvd (by omega) hd⟩
theorem bitLen_gt {man z : Nat} (h : 2 ^ z ≤ man) (hlt : man < 18446744073709551616) : z < Lib.bitLen man := by
  rw [Lib.bitLen_shift z man h (by omega)]
  have h1 : 1 ≤ man / 2 ^ z := (Nat.le_div_iff_mul_le (Nat.two_pow_pos z)).2 (by omega)
  have h2 : man / 2 ^ z < 2 ^ 64 := Nat.lt_of_le_of_lt (Nat.div_le_self _ _) (by omega)
  have := Lib.bitLen_half (man / 2 ^ z) (by omega) h2
  omega
theorem pow_lt_cancel {a b : Nat} (h : 2 ^ a < 2 ^ b) : a < b := (Nat.pow_lt_pow_iff_right (by omega)).1 h
/-- The word that join makes: the rung. -/
theorem join_any (man e : Nat) (w : World) (hT : Tab w) (h1 : 0 < man) (h2 : man ≤ 9007199254740992) (h3 : e = 0 ∨ 4503599627370496 ≤ man) (h4 : e ≤ 2040) :
    Calls Talg.prog 45 #[.int .u64 (man : Int), .int .i64 ((e : Int) - 1074), .int .i64 53, .int .i64 (-1074), .int .i64 1024] w fun r w' => r = .returned (.tuple #[.int .u64 ((e * 4503599627370496 + man : Nat) : Int), .bool true]) ∧ ∃ n, w' = w.drewN n := by
  have hZ := zeros_any man (by omega) w hT
  have hL := flen_any man (by omega) w
  obtain ⟨hd, hle⟩ := ctz_parts (man := man) (by omega) (by omega)
  rcases Nat.lt_or_ge man 4503599627370496 with hs | hge
  · obtain rfl : e = 0 := by omega
    have hz := pow_lt_cancel (a := Lib.ctz 64 man) (b := 52) (Nat.lt_of_le_of_lt hle hs)
    have hl := Lib.bitLen_le man 52 (by omega) (by omega)
    have hg := bitLen_gt hle (by omega)
    have := join_sub man _ _ w h1 (by omega) hl hg (hide hZ) (hide hL) hd (by omega)
    refine this.mono ?_
    rintro r w' ⟨rfl, rfl⟩
    exact ⟨by rw [Nat.zero_mul, Nat.zero_add], 0, rfl⟩
  · rcases Nat.lt_or_ge man 9007199254740992 with hlt | hge2
    · have hz := pow_lt_cancel (a := Lib.ctz 64 man) (b := 53) (Nat.lt_of_le_of_lt hle hlt)
      rw [bitLen_53 hge hlt] at hL
      exact join_nrm man _ e w h1 (by omega) h4 (hide hZ) (hide hL) hd hge hlt
    · obtain rfl : man = 9007199254740992 := by omega
      rw [show Lib.ctz 64 9007199254740992 = 53 from by decide +kernel] at hZ
      rw [show Lib.bitLen 9007199254740992 = 54 from by decide +kernel] at hL
      exact join_top e w h4 (hide hZ) (hide hL)
theorem from64_any (x : Nat) (w : World) : Calls Talg.prog 46 #[.int .u64 (x : Int)] w fun e w' => e = .returned (.float .f64 x) ∧ w' = w := by
  have hb := run_frombits
  go_enter Talg.func46, Talg.ntmps46
  go_wp2
  go_ret
  exact ⟨rfl, rfl⟩
theorem or_sign (x : Nat) (hx : x < 9223372036854775808) : bits .or .u64 (x : Int) 9223372036854775808 = ((9223372036854775808 + x : Nat) : Int) := by
  have h := u64_or_nat x 9223372036854775808 (by omega) (by decide)
  have e : x ||| 9223372036854775808 = 9223372036854775808 + x := by
    have := Nat.two_pow_add_eq_or_of_lt (i := 63) (b := x) (by omega) 1
    rw [Nat.mul_one] at this
    rw [Nat.or_comm]
    exact this.symm
  rw [e] at h
  exact h
theorem join64_any (neg : Bool) (man e : Nat) (w : World) (hT : Tab w) (h1 : 0 < man) (h2 : man ≤ 9007199254740992) (h3 : e = 0 ∨ 4503599627370496 ≤ man) (h4 : e ≤ 2040) :
    Calls Talg.prog 27 #[.bool neg, .int .u64 (man : Int), .int .i16 ((e : Int) - 1074)] w fun r w' => r = .returned (.tuple #[.float .f64 ((if neg then 9223372036854775808 else 0) + (e * 4503599627370496 + man)), .bool true]) ∧ ∃ n, w' = w.drewN n := by
  have HJ := hide (join_any man e w hT h1 h2 h3 h4)
  have hr : e * 4503599627370496 + man < 9223372036854775808 := by omega
  have hor := or_sign _ hr
  generalize e * 4503599627370496 + man = r at *
  clear h1 h2 h3 hT
  cases neg
  · simp only [Bool.false_eq_true, if_false, Nat.zero_add]
    go_enter Talg.func27, Talg.ntmps27
    go_wp2_with fail
    refine (Hid.out HJ).mono ?_
    rintro e w1 ⟨rfl, n, rfl⟩
    go_wp2_with fail
    refine (from64_any r _).mono ?_
    rintro e w1 ⟨rfl, rfl⟩
    go_wp2
    go_ret2
    exact ⟨rfl, n, rfl⟩
  · simp only [if_true]
    go_enter Talg.func27, Talg.ntmps27
    go_wp2_with fail
    refine (Hid.out HJ).mono ?_
    rintro e w1 ⟨rfl, n, rfl⟩
    go_wp2_with fail
    refine (from64_any _ _).mono ?_
    rintro e w1 ⟨rfl, rfl⟩
    go_wp2
    go_ret2
    exact ⟨rfl, n, rfl⟩
end Go.Proofs.YgctalDoor
