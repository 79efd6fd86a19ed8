import Derived.Test.YgctalRows
import Derived.Test.YgctalFl2
import Derived.WalkKit
import Derived.WalkLawsBesides
import Derived.WalkSpells
import Derived.ProofKit
import Derived.Laws.Externs
namespace Go.Proofs.Ygctal
open Go.RowKit
set_option maxHeartbeats 400000

theorem hide {p : Prop} (h : p) : Hid p := h
theorem ret_bool {a b : Bool} (h : a = b) : Ending.returned (.bool a) = .returned (.bool b) := by rw [h]
theorem ret_float {a b : Nat} (h : a = b) : Ending.returned (.float .f64 a) = .returned (.float .f64 b) := by rw [h]
theorem ret_int {k : IntKind} {a b : Int} (h : a = b) : Ending.returned (.int k a) = .returned (.int k b) := by rw [h]

/-! Float64bits, Float64frombits and the functions around them. -/
theorem run_bits (x : Nat) (w : World) : (callFunc 52 #[.float .f64 x]).run Talg.prog w = .ok (.value (.int .u64 x)) w := by
  rw [run_callFunc_extern (e := Extern.MathFloatBits.float64bits) Talg.func52 (by kernel_rfl) (by kernel_rfl) (by kernel_rfl) (by kernel_rfl)]
  rfl
theorem run_frombits (x : Int) (w : World) : (callFunc 66 #[.int .u64 x]).run Talg.prog w = .ok (.value (.float .f64 x.toNat)) w := by
  rw [run_callFunc_extern (e := Extern.MathFloatBits.float64frombits) Talg.func66 (by kernel_rfl) (by kernel_rfl) (by kernel_rfl) (by kernel_rfl)]
  rfl
theorem b64_any (x : Nat) (w : World) : Calls Talg.prog 18 #[.float .f64 x] w fun e w' => e = .returned (.int .u64 x) ∧ w' = w := by
  have hb := run_bits
  go_enter Talg.func18, Talg.ntmps18
  go_wp2
  go_ret
  exact ⟨rfl, rfl⟩
theorem bits64_any (x : Nat) (w : World) : Calls Talg.prog 73 #[.float .f64 x] w fun e w' => e = .returned (.int .u64 x) ∧ w' = w := by
  have hb := run_bits
  go_enter Talg.func73, Talg.ntmps73
  go_wp2
  go_ret
  exact ⟨rfl, rfl⟩
theorem f64_any (x : Int) (w : World) : Calls Talg.prog 38 #[.int .u64 x] w fun e w' => e = .returned (.float .f64 x.toNat) ∧ w' = w := by
  have hb := run_frombits
  go_enter Talg.func38, Talg.ntmps38
  go_wp2
  go_ret
  exact ⟨rfl, rfl⟩

/-! Split64. -/
def fldOf (x : Nat) : Nat := x / 4503599627370496 % 2048
def frcOf (x : Nat) : Nat := x % 4503599627370496
def negOf (x : Nat) : Bool := if fldOf x = 2047 ∧ frcOf x ≠ 0 then false else Fl.sgn x
def manOf (x : Nat) : Nat := if fldOf x = 2047 then 0 else if fldOf x ≠ 0 then frcOf x + 4503599627370496 else frcOf x
def expOf (x : Nat) : Int := if fldOf x = 2047 then 0 else if fldOf x ≠ 0 then fldOf x - 1075 else if frcOf x = 0 then 0 else -1074
def clsOf (x : Nat) : Int := if fldOf x = 2047 then (if frcOf x ≠ 0 then 3 else 2) else if fldOf x ≠ 0 then 1 else if frcOf x = 0 then 0 else 1

theorem and_fld (x : Nat) (hx : x < 18446744073709551616) : bits .and .u64 ((x : Int) / 4503599627370496) 2047 = (fldOf x : Int) := by
  have := u64_and_nat (x / 4503599627370496) 2047 (by omega) (by omega)
  rw [nat_mask11] at this
  simpa [fldOf] using this
theorem and_frc (x : Nat) (hx : x < 18446744073709551616) : bits .and .u64 (x : Int) 4503599627370495 = (frcOf x : Int) := by
  have := u64_and_nat x 4503599627370495 hx (by omega)
  rw [show (4503599627370495 : Nat) = 2 ^ 52 - 1 from rfl, Nat.and_two_pow_sub_one_eq_mod] at this
  simpa [frcOf] using this
theorem or_frc (m : Nat) (hm : m < 4503599627370496) : bits .or .u64 (m : Int) 4503599627370496 = (m : Int) + 4503599627370496 := by
  have := u64_or_nat m 4503599627370496 (by omega) (by omega)
  rw [Nat.or_comm, nat_join 52 4503599627370496 m (by decide) (by omega)] at this
  rw [show (4503599627370496 : Int) = ((4503599627370496 : Nat) : Int) from rfl, this]
  omega
theorem sgn_bool (x : Nat) (hx : x < 18446744073709551616) : ((x : Int) / 9223372036854775808 != 0) = Fl.sgn x := by
  unfold Fl.sgn
  rw [Bool.eq_iff_iff]
  simp
  omega
theorem wrap_i16 (n : Int) (h0 : -32768 ≤ n) (h1 : n < 32768) : IntKind.i16.wrap n = n := by
  simp [IntKind.wrap, IntKind.bits, IntKind.signed]; omega

theorem split_any (x : Nat) (hx : x < 18446744073709551616) (w : World) : Calls Talg.prog 57 #[.float .f64 x] w fun e w' => e = .returned (.tuple #[.bool (negOf x), .int .u64 (manOf x), .int .i16 (expOf x), .int .u8 (clsOf x)]) ∧ w' = w := by
  have h1 := and_fld x hx
  have h2 := and_frc x hx
  have h3 := sgn_bool x hx
  have hf : fldOf x < 2048 := by unfold fldOf; omega
  have hm : frcOf x < 4503599627370496 := by unfold frcOf; omega
  have h4 := or_frc (frcOf x) hm
  have h5 := wrap_i16 (fldOf x) (by omega) (by omega)
  have h6 := wrap_i16 ((fldOf x : Int) - 1075) (by omega) (by omega)
  unfold negOf manOf expOf clsOf
  generalize fldOf x = f at *
  generalize frcOf x = m at *
  generalize Fl.sgn x = s at *
  by_cases g1 : f = 2047
  · have g1' : ((f : Int) == 2047) = true := by simp; omega
    by_cases g2 : m = 0
    · have g2' : ((m : Int) != 0) = false := by simp; omega
      rw [if_neg (by omega), if_pos g1, if_pos g1, if_pos g1, if_neg (by omega)]
      clear g1 g2 hf hm
      go_enter Talg.func57, Talg.ntmps57
      go_wp2_with (go_at_call 73; refine (bits64_any _ _).mono ?_; rintro e w' ⟨rfl, rfl⟩)
      exact bodyPost_ret (v := .tuple #[.bool s, .int .u64 0, .int .i16 0, .int .u8 2]) (by simp [results, Talg.results57, go_sem]) rfl ⟨rfl, rfl⟩
    · have g2' : ((m : Int) != 0) = true := by simp; omega
      rw [if_pos ⟨g1, g2⟩, if_pos g1, if_pos g1, if_pos g1, if_pos g2]
      clear g1 g2 hf hm
      go_enter Talg.func57, Talg.ntmps57
      go_wp2_with (go_at_call 73; refine (bits64_any _ _).mono ?_; rintro e w' ⟨rfl, rfl⟩)
      exact bodyPost_ret (v := .tuple #[.bool false, .int .u64 0, .int .i16 0, .int .u8 3]) (by simp [results, Talg.results57, go_sem]) rfl ⟨rfl, rfl⟩
  · have g1' : ((f : Int) == 2047) = false := by simp; omega
    rw [if_neg (by omega), if_neg g1, if_neg g1, if_neg g1]
    by_cases g3 : f = 0
    · have g3' : ((f : Int) != 0) = false := by simp; omega
      have g3n : ¬ f ≠ 0 := by omega
      rw [if_neg g3n, if_neg g3n, if_neg g3n]
      by_cases g2 : m = 0
      · have g2' : ((m : Int) == 0) = true := by simp; omega
        rw [if_pos g2, if_pos g2, show ((m : Nat) : Int) = 0 from by omega]
        clear g1 g3 g3n g2 hf hm
        go_enter Talg.func57, Talg.ntmps57
        go_wp2_with (go_at_call 73; refine (bits64_any _ _).mono ?_; rintro e w' ⟨rfl, rfl⟩)
        exact bodyPost_ret (v := .tuple #[.bool s, .int .u64 0, .int .i16 0, .int .u8 0]) (by simp [results, Talg.results57, go_sem]) rfl ⟨rfl, rfl⟩
      · have g2' : ((m : Int) == 0) = false := by simp; omega
        rw [if_neg g2, if_neg g2]
        clear g1 g3 g3n g2 hf hm
        go_enter Talg.func57, Talg.ntmps57
        go_wp2_with (go_at_call 73; refine (bits64_any _ _).mono ?_; rintro e w' ⟨rfl, rfl⟩)
        exact bodyPost_ret (v := .tuple #[.bool s, .int .u64 (m : Int), .int .i16 (-1074), .int .u8 1]) (by simp [results, Talg.results57, go_sem]) rfl ⟨rfl, rfl⟩
    · have g3' : ((f : Int) != 0) = true := by simp; omega
      rw [if_pos g3, if_pos g3, if_pos g3]
      clear g1 g3 hf hm
      go_enter Talg.func57, Talg.ntmps57
      go_wp2_with (go_at_call 73; refine (bits64_any _ _).mono ?_; rintro e w' ⟨rfl, rfl⟩)
      exact bodyPost_ret (v := .tuple #[.bool s, .int .u64 ((m : Int) + 4503599627370496), .int .i16 ((f : Int) - 1075), .int .u8 1]) (by simp [results, Talg.results57, go_sem]) rfl ⟨rfl, rfl⟩
end Go.Proofs.Ygctal
