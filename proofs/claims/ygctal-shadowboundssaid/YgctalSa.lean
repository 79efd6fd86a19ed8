import Derived.Test.YgctalLHalf
import Derived.Test.YgctalTa
import Derived.Laws.ComplexArith
import Derived.BigQuiet
namespace Go.Proofs.Ygctal
open Go.RowKit
set_option maxHeartbeats 2000000
set_option linter.unusedVariables false
set_option linter.unusedSimpArgs false

/-! cut, level, fits, Mul, plain, bitsC. -/
def p2 (m : Nat) : Nat := 2 ^ m
theorem p2_pos (m : Nat) : 0 < p2 m := Nat.two_pow_pos m
theorem p2_succ (m : Nat) : p2 (m + 1) = 2 * p2 m := by unfold p2; rw [Nat.pow_succ]; omega
theorem p2_lt {a b : Nat} (h : a < b) : p2 a < p2 b := Nat.pow_lt_pow_right (by omega) h
theorem p2_le {a b : Nat} (h : a ≤ b) : p2 a ≤ p2 b := Nat.pow_le_pow_right (by omega) h
theorem p2_add (a b : Nat) : p2 (a + b) = p2 a * p2 b := by unfold p2; rw [Nat.pow_add]
theorem p2_11 : p2 11 = 2048 := rfl
theorem p2_inj {a b : Nat} (h : p2 a = p2 b) : a = b := by
  rcases Nat.lt_trichotomy a b with h1 | h1 | h1
  · have := p2_lt h1; omega
  · exact h1
  · have := p2_lt h1; omega
theorem shl_p2 (m : Nat) (h : m < 62) : wrap64 (2 ^ m) = ((p2 m : Nat) : Int) := by
  have h1 : p2 m < p2 62 := p2_lt h
  have h2 : p2 62 = 4611686018427387904 := rfl
  have h3 : ((2 : Int) ^ m) = ((p2 m : Nat) : Int) := by unfold p2; simp
  rw [h3]
  unfold wrap64
  omega
theorem level_s (k : Nat) (h : k ≤ 11) (w : World) : Calls Talg.prog 45 #[.int .i64 (p2 k : Nat)] w fun e w' => e = .returned (.int .i64 (k : Int)) ∧ w' = w := by
  go_enter Talg.func45, Talg.ntmps45
  go_wp2
  go_loop [3] (fun i => ∃ m : Nat, m ≤ k ∧ i = .int .i64 (m : Int)) (fun i => k + 1 - (intOf i).toNat)
  case atStart => exact ⟨0, by omega, rfl⟩
  case round =>
    obtain ⟨m, hm, rfl⟩ := hrel
    have hs := shl_p2 m (by omega)
    by_cases hlt : m = k
    · subst hlt
      go_wp2
      go_ret
      exact ⟨rfl, rfl⟩
    · have hne : (((p2 k : Nat) : Int) == ((p2 m : Nat) : Int)) = false := by
        have : p2 k ≠ p2 m := fun h => hlt (p2_inj h).symm
        simp; omega
      go_wp2
      go_round
      case rel => exact ⟨m + 1, by omega, by go_num⟩
      case measure => simp [intOf]; omega
theorem level_f (k : Nat) (h : k ≤ 11) (w : World) : Calls Talg.prog 49 #[.int .i64 (p2 k : Nat)] w fun e w' => e = .returned (.int .i64 (k : Int)) ∧ w' = w := by
  go_enter Talg.func49, Talg.ntmps49
  go_wp2
  go_loop [3] (fun i => ∃ m : Nat, m ≤ k ∧ i = .int .i64 (m : Int)) (fun i => k + 1 - (intOf i).toNat)
  case atStart => exact ⟨0, by omega, rfl⟩
  case round =>
    obtain ⟨m, hm, rfl⟩ := hrel
    have hs := shl_p2 m (by omega)
    by_cases hlt : m = k
    · subst hlt
      go_wp2
      go_ret
      exact ⟨rfl, rfl⟩
    · have hne : (((p2 k : Nat) : Int) == ((p2 m : Nat) : Int)) = false := by
        have : p2 k ≠ p2 m := fun h => hlt (p2_inj h).symm
        simp; omega
      go_wp2
      go_round
      case rel => exact ⟨m + 1, by omega, by go_num⟩
      case measure => simp [intOf]; omega
theorem fits_any (k H : Nat) (h1 : 1 ≤ k) (h : k ≤ 11) (hH : p2 k = 2 * H) (w : World) : Calls Talg.prog 50 #[.int .i64 (p2 k : Nat), .int .i64 (H : Int)] w fun e w' => e = .returned (.bool true) ∧ w' = w := by
  have HL := hide (level_f k h w)
  have h2 : p2 k ≤ p2 11 := p2_le h
  rw [p2_11] at h2
  have hw : IntKind.i64.wrap (2 * (H : Int)) = ((p2 k : Nat) : Int) := by rw [IntKind.wrap_i64]; omega
  have hw2 : wrap64 (2 * (H : Int)) = ((p2 k : Nat) : Int) := by unfold wrap64; omega
  have hd : decide ((1 : Int) ≤ k) = true := by simp; omega
  clear h2 hH
  generalize p2 k = n at *
  go_enter Talg.func50, Talg.ntmps50
  go_wp2_with (go_at_call 49; refine (Hid.out HL).mono ?_; rintro e w' ⟨rfl, rfl⟩)
  go_ret
  exact ⟨rfl, rfl⟩
/-- The greatest power of two, at most 2^11, that is not above n. -/
theorem cut_none (w : World) : Calls Talg.prog 12 #[.int .i64 0] w fun e w' => e = .returned (.int .i64 (-1)) ∧ w' = w := by
  go_enter Talg.func12, Talg.ntmps12
  go_wp2
  refine wp_loop_rounds 1 ?_
  rw [rounds_succ]
  go_wp2
  go_ret
  exact ⟨rfl, rfl⟩
theorem cut_some (n : Nat) (h0 : 0 < n) (w : World) : Calls Talg.prog 12 #[.int .i64 (n : Int)] w fun e w' => (∃ k : Nat, k ≤ 11 ∧ p2 k ≤ n ∧ e = .returned (.int .i64 (k : Int))) ∧ w' = w := by
  go_enter Talg.func12, Talg.ntmps12
  go_wp2
  go_loop [3] (fun i => ∃ m : Nat, m ≤ 12 ∧ i = .int .i64 ((m : Int) - 1) ∧ (m = 0 ∨ p2 (m - 1) ≤ n)) (fun i => (12 - intOf i).toNat)
  case atStart => exact ⟨0, by omega, rfl, .inl rfl⟩
  case round =>
    obtain ⟨m, hm, rfl, hp⟩ := hrel
    have e1 : IntKind.i64.wrap ((m : Int) - 1 + 1) = m := by rw [IntKind.wrap_i64]; omega
    have e2 : wrap64 ((m : Int) - 1 + 1) = m := by unfold wrap64; omega
    have e3 : (m : Int) - 1 + 1 = m := by omega
    have hs := shl_p2 m (by omega)
    by_cases hlt : m < 12
    · have hd : decide ((m : Int) - 1 < 11) = true := by simp; omega
      by_cases hle : p2 m ≤ n
      · have hd2 : decide (((p2 m : Nat) : Int) ≤ n) = true := by simpa using hle
        go_wp2
        go_round
        case rel => exact ⟨m + 1, by omega, by go_num, .inr hle⟩
        case measure => simp [intOf]; omega
      · have hd2 : decide (((p2 m : Nat) : Int) ≤ n) = false := by simpa using hle
        go_wp2
        go_ret
        refine ⟨⟨m - 1, by omega, ?_, ?_⟩, rfl⟩
        · rcases hp with rfl | hp
          · exact absurd (show p2 0 ≤ n from h0) hle
          · exact hp
        · have : m ≠ 0 := by rintro rfl; exact absurd (show p2 0 ≤ n from h0) hle
          rw [show ((m - 1 : Nat) : Int) = (m : Int) - 1 from by omega]
          rfl
    · have hd : decide ((m : Int) - 1 < 11) = false := by simp; omega
      go_wp2
      go_ret
      refine ⟨⟨m - 1, by omega, ?_, ?_⟩, rfl⟩
      · rcases hp with rfl | hp
        · omega
        · exact hp
      · rw [show ((m - 1 : Nat) : Int) = (m : Int) - 1 from by omega]
        rfl
/-- The product of a point and a root. -/
theorem Mul_any (x y : Nat × Nat) (hx1 : Fl.Sm 1036 x.1) (hx2 : Fl.Sm 1036 x.2) (hy1 : Fl.Sm 1024 y.1) (hy2 : Fl.Sm 1024 y.2) (w : World) :
    Calls Talg.prog 44 #[.complex .f64 x.1 x.2, .complex .f64 y.1 y.2] w fun e w' => e = .returned (.complex .f64 (Fl.cmul x y).1 (Fl.cmul x y).2) ∧ w' = w := by
  obtain ⟨a, b⟩ := x
  obtain ⟨c, d⟩ := y
  dsimp only at *
  obtain ⟨e1, s1⟩ := Fl.mul_sm hx1 hy1 (by omega) (by omega) (by omega)
  obtain ⟨e2, s2⟩ := Fl.mul_sm hx2 hy2 (by omega) (by omega) (by omega)
  obtain ⟨e3, s3⟩ := Fl.mul_sm hx1 hy2 (by omega) (by omega) (by omega)
  obtain ⟨e4, s4⟩ := Fl.mul_sm hx2 hy1 (by omega) (by omega) (by omega)
  have e5 := Fl.sub_fs (s1.fin (by omega)) (s2.fin (by omega))
  have e6 := Fl.add_fa (s3.fin (by omega)) (s4.fin (by omega))
  have r1 := fun wx => run_float_arith (P := Talg.prog) wx .mul 29 .f64 _ _ _ e1
  have r2 := fun wx => run_float_arith (P := Talg.prog) wx .mul 29 .f64 _ _ _ e2
  have r3 := fun wx => run_float_arith (P := Talg.prog) wx .mul 29 .f64 _ _ _ e3
  have r4 := fun wx => run_float_arith (P := Talg.prog) wx .mul 29 .f64 _ _ _ e4
  have r5 := fun wx => run_float_arith (P := Talg.prog) wx .sub 29 .f64 _ _ _ e5
  have r6 := fun wx => run_float_arith (P := Talg.prog) wx .add 29 .f64 _ _ _ e6
  clear e1 e2 e3 e4 e5 e6 s1 s2 s3 s4 hx1 hx2 hy1 hy2
  show Calls Talg.prog 44 #[.complex .f64 a b, .complex .f64 c d] w fun e w' => e = .returned (.complex .f64 (Fl.fs (Fl.fm a c) (Fl.fm b d)) (Fl.fa (Fl.fm a d) (Fl.fm b c))) ∧ w' = w
  generalize Fl.fs (Fl.fm a c) (Fl.fm b d) = re at *
  generalize Fl.fa (Fl.fm a d) (Fl.fm b c) = im at *
  generalize Fl.fm a c = p1 at *
  generalize Fl.fm b d = p2 at *
  generalize Fl.fm a d = p3 at *
  generalize Fl.fm b c = p4 at *
  go_enter Talg.func44, Talg.ntmps44
  go_wp2
  go_ret
  exact ⟨rfl, rfl⟩
theorem bitsC_any (re im : Nat) (w : World) : Calls Talg.prog 17 #[.complex .f64 re im, .int .u64 (re : Int), .int .u64 (im : Int)] w fun e w' => e = .returned (.bool true) ∧ w' = w := by
  go_enter Talg.func17, Talg.ntmps17
  go_wp2_with (go_at_call 18; refine (b64_any _ _).mono ?_; rintro e w' ⟨rfl, rfl⟩)
  go_ret
  exact ⟨rfl, rfl⟩
theorem ord_eq {x y : Nat} (hx : Fl.Fin x) (hy : Fl.Fin y) : (FloatKind.f64.format.order x y == some .eq) = decide (Fl.V x = Fl.V y) := by
  have := Fl.order_fin hx hy
  rw [show FloatKind.f64.format.order x y = Ieee.double.order x y from rfl, this]
  by_cases h1 : Fl.V x < Fl.V y
  · rw [if_pos h1, decide_eq_false (by omega)]; rfl
  · rw [if_neg h1]
    by_cases h2 : Fl.V x = Fl.V y
    · rw [if_pos h2, decide_eq_true h2]; rfl
    · rw [if_neg h2, decide_eq_false h2]; rfl
theorem fin_one : Fl.Fin 4607182418800017408 := by unfold Fl.Fin Fl.rung; decide
set_option exponentiation.threshold 5000 in
theorem V_one : Fl.V 4607182418800017408 ≠ 0 := by decide +kernel
set_option exponentiation.threshold 5000 in
theorem V_mone : Fl.V 13830554455654793216 ≠ 0 := by decide +kernel
theorem ord_nz {x y : Nat} (hx : Fl.Fin x) (hy : Fl.Fin y) (h0 : Fl.V y ≠ 0) : (FloatKind.f64.format.order x y == some .eq) = (x == y) := by
  rw [ord_eq hx hy]
  by_cases h : x = y
  · subst h; simp
  · have h2 : Fl.V x ≠ Fl.V y := fun e => h (Fl.V_inj hx hy (by rw [e]; exact h0) e)
    simp [h, h2]
theorem ord_z {x : Nat} (hx : Fl.Fin x) : (FloatKind.f64.format.order x 0 == some .eq) = Fl.isNil x := by
  rw [ord_eq hx Fl.fin_zero, Fl.V_zero]
  unfold Fl.isNil
  obtain ⟨h1, h2⟩ := hx
  have hv : Fl.V x = 0 ↔ Fl.rung x = 0 := by
    unfold Fl.V Fl.val
    have hp := Nat.two_pow_pos (Fl.rung x / 2 ^ 52 - 1)
    have hq : Fl.rung x < 2 ^ 52 ∨ (2 ^ 52 + Fl.rung x % 2 ^ 52) * 2 ^ (Fl.rung x / 2 ^ 52 - 1) ≠ 0 := .inr (Nat.mul_ne_zero (by omega) (by omega))
    generalize (2 ^ 52 + Fl.rung x % 2 ^ 52) * 2 ^ (Fl.rung x / 2 ^ 52 - 1) = Q at *
    split <;> split <;> omega
  rw [decide_eq_decide.2 hv]
  unfold Fl.rung at *
  by_cases h : x % 9223372036854775808 = 0
  · rcases (show x = 0 ∨ x = 9223372036854775808 by omega) with rfl | rfl <;> rfl
  · have h3 : x ≠ 0 := by rintro rfl; exact h rfl
    have h4 : x ≠ 9223372036854775808 := by rintro rfl; exact h rfl
    simp [h, h3, h4]
theorem plain_any (z : Nat × Nat) (h1 : Fl.Fin z.1) (h2 : Fl.Fin z.2) (w : World) : Calls Talg.prog 48 #[.complex .f64 z.1 z.2] w fun e w' => e = .returned (.bool (Fl.plainB z)) ∧ w' = w := by
  obtain ⟨re, im⟩ := z
  dsimp only at *
  have a1 := ord_nz h1 fin_one V_one
  have a2 := ord_nz h1 fin_minus V_mone
  have a3 := ord_z h1
  have b1 := ord_nz h2 fin_one V_one
  have b2 := ord_nz h2 fin_minus V_mone
  have b3 := ord_z h2
  have HP := hide (show Fl.plainB (re, im) = (((re == 4607182418800017408) && Fl.isNil im) || (((re == 13830554455654793216) && Fl.isNil im) || ((Fl.isNil re && (im == 4607182418800017408)) || (Fl.isNil re && (im == 13830554455654793216))))) by
    unfold Fl.plainB Fl.isOne
    cases (re == 4607182418800017408) <;> cases (re == 13830554455654793216) <;> cases Fl.isNil im <;> cases Fl.isNil re <;> cases (im == 4607182418800017408) <;> cases (im == 13830554455654793216) <;> rfl)
  generalize Fl.plainB (re, im) = r at *
  generalize (re == 4607182418800017408) = r1 at *
  generalize (re == 13830554455654793216) = r2 at *
  generalize (im == 4607182418800017408) = i1 at *
  generalize (im == 13830554455654793216) = i2 at *
  generalize Fl.isNil re = r0 at *
  generalize Fl.isNil im = i0 at *
  clear h1 h2
  obtain rfl := HP.out
  clear HP
  go_enter Talg.func48, Talg.ntmps48
  cases r1 <;> cases i0 <;> cases r2 <;> cases r0 <;> cases i1 <;> cases i2
  all_goals go_wp2
  all_goals go_ret
  all_goals exact ⟨rfl, rfl⟩
end Go.Proofs.Ygctal
