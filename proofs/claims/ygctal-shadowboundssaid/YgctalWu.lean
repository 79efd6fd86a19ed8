import Derived.Test.YgctalWt
import Derived.Lib.Mul64
import Derived.Shelf.Bits.Mul64
namespace Go.Proofs.Ygctal
open Go.RowKit
set_option maxHeartbeats 2000000
set_option linter.unusedVariables false
set_option linter.unusedSimpArgs false

/-! Mul64, mul, AddProd. -/
theorem mul64_any (x y : Nat) (hx : x < 18446744073709551616) (hy : y < 18446744073709551616) (w : World) :
    Calls Talg.prog 75 #[.int .u64 x, .int .u64 y] w fun e w' => e = .returned (.tuple #[.int .u64 ((x * y / 18446744073709551616 : Nat) : Int), .int .u64 ((x * y % 18446744073709551616 : Nat) : Int)]) ∧ w' = w := by
  obtain ⟨bd, bt, bw, hhi⟩ := Lib.mul64_hi x y hx hy
  have ba := Lib.half_mul_le (a := x / 4294967296) (b := y / 4294967296) (by omega) (by omega)
  have bb := Lib.half_mul_le (a := x / 4294967296) (b := y % 4294967296) (by omega) (by omega)
  have bc := Lib.half_mul_le (a := x % 4294967296) (b := y / 4294967296) (by omega) (by omega)
  have ba' : x / 4294967296 * (y / 4294967296) < 18446744073709551616 := by omega
  have bb' : x / 4294967296 * (y % 4294967296) < 18446744073709551616 := by omega
  have bc' : x % 4294967296 * (y / 4294967296) < 18446744073709551616 := by omega
  have bh1 : x / 4294967296 * (y / 4294967296) + (x / 4294967296 * (y % 4294967296) + x % 4294967296 * (y % 4294967296) / 4294967296) / 4294967296 < 18446744073709551616 := by omega
  have bh : x / 4294967296 * (y / 4294967296) + (x / 4294967296 * (y % 4294967296) + x % 4294967296 * (y % 4294967296) / 4294967296) / 4294967296 + ((x / 4294967296 * (y % 4294967296) + x % 4294967296 * (y % 4294967296) / 4294967296) % 4294967296 + x % 4294967296 * (y / 4294967296)) / 4294967296 < 18446744073709551616 := by
    rw [hhi]; exact (Nat.div_lt_iff_lt_mul (by decide)).2 (Nat.mul_lt_mul'' hx hy)
  go_enter Talg.func75, Talg.ntmps75
  go_wp2
  simp only [Mul64.maskN x hx, Mul64.maskN y hy, Mul64.divN, Mul64.mulN, Mul64.addN, Mul64.wrapN _ bd, Mul64.wrapN _ bb', Mul64.wrapN _ bt, Mul64.maskN _ bt, Mul64.wrapN _ bc', Mul64.wrapN _ bw, Mul64.wrapN _ ba', Mul64.wrapN _ bh1, Mul64.wrapN _ bh, Mul64.wrapM (x * y)]
  rw [hhi]
  go_ret2
  exact ⟨rfl, rfl⟩
theorem mul_any (x y : Nat) (hx : x < 18446744073709551616) (hy : y < 18446744073709551616) (w : World) :
    Calls Talg.prog 67 #[.int .u64 x, .int .u64 y] w fun e w' => e = .returned (.tuple #[.int .u64 ((x * y / 18446744073709551616 : Nat) : Int), .int .u64 ((x * y % 18446744073709551616 : Nat) : Int)]) ∧ w' = w := by
  have H := hide (fun wx => mul64_any x y hx hy wx)
  generalize x * y / 18446744073709551616 = a at *
  generalize x * y % 18446744073709551616 = b at *
  clear hx hy
  go_enter Talg.func67, Talg.ntmps67
  go_wp2_with (go_at_call 75; refine (Hid.out H _).mono ?_; rintro e w' ⟨rfl, rfl⟩)
  go_ret2
  exact ⟨rfl, rfl⟩

theorem exp_ge {x : Nat} (h : fldOf x ≠ 2047) : -1074 ≤ expOf x := by
  rw [exp_fin h]; repeat' split
  all_goals omega
/-- What a product of two finite words adds. -/
theorem prod_val {x y : Nat} (hx : Fl.Fin x) (hy : Fl.Fin y) : ∃ i : Nat, expOf x + expOf y + 2148 = (i : Int) ∧ i ≤ 4100 ∧ manOf x * manOf y * 2 ^ i = Fl.val (Fl.rung x) * Fl.val (Fl.rung y) := by
  have hfx := (fin_iff hx.1).1 hx
  have hfy := (fin_iff hy.1).1 hy
  obtain ⟨k, hv, he⟩ := val_man hfx
  obtain ⟨l, hu, hd⟩ := val_man hfy
  have hb := exp_bd x
  have hc := exp_bd y
  have hb' := exp_ge hfx
  have hc' := exp_ge hfy
  rcases cls_cases (x := x) with ⟨h1, _⟩ | ⟨_, h2, h3⟩ | ⟨_, h2, h3⟩
  · exact absurd h1 hfx
  · refine ⟨(expOf x + expOf y + 2148).toNat, by omega, by omega, ?_⟩
    rw [hv, h3]; simp
  rcases cls_cases (x := y) with ⟨h1, _⟩ | ⟨_, g2, g3⟩ | ⟨_, g2, g3⟩
  · exact absurd h1 hfy
  · refine ⟨(expOf x + expOf y + 2148).toNat, by omega, by omega, ?_⟩
    rw [hu, g3]; simp
  · have he := he h2
    have hd := hd g2
    refine ⟨k + l, by omega, by omega, ?_⟩
    rw [hv, hu, Nat.pow_add]
    ac_rfl
theorem place_any (neg : Bool) (g T i hi lo : Nat) (ws : List Nat) (w : World) (hA : AccB w g T ws) (hl : ws.length = 68) (hw : Ac.Wd ws) (hib : i ≤ 4100) (hlo : lo < Ac.W) (hhi : hi < Ac.W) :
    Calls Talg.prog 58 #[.pointer (some ⟨g, 0, none⟩), .bool neg, .int .u64 hi, .int .u64 lo, .int .i64 i] w fun e w' => e = .returned (.tuple #[]) ∧ Placed w w' g T ws ((if neg then -1 else 1) * (((hi * Ac.W + lo) * 2 ^ i : Nat) : Int)) := by
  have hidiv : i = 64 * (i / 64) + i % 64 := by omega
  cases neg
  · simp only [Bool.false_eq_true, if_false]
    exact place_add g T i hi lo (i / 64) (i % 64) ws w hA hl hw hidiv (by omega) (by omega) hlo hhi
  · simp only [if_true]
    exact place_sub g T i hi lo (i / 64) (i % 64) ws w hA hl hw hidiv (by omega) (by omega) hlo hhi
theorem V_mul (x y : Nat) : Fl.V x * Fl.V y = (if (Fl.sgn x != Fl.sgn y) then -1 else 1) * ((Fl.val (Fl.rung x) * Fl.val (Fl.rung y) : Nat) : Int) := by
  unfold Fl.V
  cases Fl.sgn x <;> cases Fl.sgn y <;> simp [Int.natCast_mul, Int.neg_mul, Int.mul_neg]

set_option maxRecDepth 100000 in
theorem addProd_walk (g T x y : Nat) (ws : List Nat) (w : World) (N : Int) (s1 s2 : Bool) (m1 m2 p1 p2 i : Nat) (c1 c2 e1 e2 : Int)
    (HSx : Hid (∀ wx, Calls Talg.prog 57 #[.float .f64 x] wx fun e w' => e = .returned (.tuple #[.bool s1, .int .u64 (m1 : Int), .int .i16 e1, .int .u8 c1]) ∧ w' = wx))
    (HSy : Hid (∀ wx, Calls Talg.prog 57 #[.float .f64 y] wx fun e w' => e = .returned (.tuple #[.bool s2, .int .u64 (m2 : Int), .int .i16 e2, .int .u8 c2]) ∧ w' = wx))
    (HM : Hid (∀ wx, Calls Talg.prog 67 #[.int .u64 (m1 : Int), .int .u64 (m2 : Int)] wx fun e w' => e = .returned (.tuple #[.int .u64 (p1 : Int), .int .u64 (p2 : Int)]) ∧ w' = wx))
    (HP : Hid (Calls Talg.prog 58 #[.pointer (some ⟨g, 0, none⟩), .bool (s1 != s2), .int .u64 (p1 : Int), .int .u64 (p2 : Int), .int .i64 (i : Int)] w fun e w' => e = .returned (.tuple #[]) ∧ Placed w w' g T ws N))
    (hi : e1 + e2 + 2148 = (i : Int)) (hgx : decide ((1 : Int) < c1) = false) (hgy : decide ((1 : Int) < c2) = false) (hex0 : -1075 ≤ e1) (hex1 : e1 ≤ 972) (hey0 : -1075 ≤ e2) (hey1 : e2 ≤ 972) :
    Calls Talg.prog 69 #[.pointer (some ⟨g, 0, none⟩), .float .f64 x, .float .f64 y] w fun e w' => e = .returned (.bool true) ∧ Placed w w' g T ws N := by
  cases s1 <;> cases s2 <;>
  · simp only [bne_self_eq_false, Bool.bne_true, Bool.bne_false, Bool.true_bne, Bool.false_bne, Bool.not_true, Bool.not_false] at HP
    go_enter Talg.func69, Talg.ntmps69
    go_wp2_with fail
    refine (Hid.out HSx _).mono ?_
    rintro e w1 ⟨rfl, rfl⟩
    go_wp2_with fail
    refine (Hid.out HSy _).mono ?_
    rintro e w1 ⟨rfl, rfl⟩
    go_wp2_with fail
    refine (Hid.out HM _).mono ?_
    rintro e w1 ⟨rfl, rfl⟩
    go_wp2_with fail
    refine (Hid.out HP).mono ?_
    rintro e w2 ⟨rfl, hq⟩
    go_wp2
    go_ret
    exact ⟨rfl, hq⟩
theorem addProd_any (g T x y : Nat) (ws : List Nat) (w : World) (hx : Fl.Fin x) (hy : Fl.Fin y) (hA : AccB w g T ws) (hl : ws.length = 68) (hw : Ac.Wd ws) :
    Calls Talg.prog 69 #[.pointer (some ⟨g, 0, none⟩), .float .f64 x, .float .f64 y] w fun e w' => e = .returned (.bool true) ∧ Placed w w' g T ws (Fl.V x * Fl.V y) := by
  obtain ⟨i, hi, hib, hN⟩ := prod_val hx hy
  have hcx := cls_le hx
  have hcy := cls_le hy
  have hmx := man_lt x
  have hmy := man_lt y
  have hex := exp_bd x
  have hey := exp_bd y
  have hhi : manOf x * manOf y / 18446744073709551616 < Ac.W := (Nat.div_lt_iff_lt_mul (by decide)).2 (Nat.mul_lt_mul'' (by unfold Ac.W; omega) (by omega))
  have hP := place_any (Fl.sgn x != Fl.sgn y) g T i (manOf x * manOf y / 18446744073709551616) (manOf x * manOf y % 18446744073709551616) ws w hA hl hw hib (Nat.mod_lt _ (by decide)) hhi
  rw [show manOf x * manOf y / 18446744073709551616 * Ac.W + manOf x * manOf y % 18446744073709551616 = manOf x * manOf y from Nat.div_add_mod' _ _, hN, ← V_mul] at hP
  refine addProd_walk g T x y ws w (Fl.V x * Fl.V y) (Fl.sgn x) (Fl.sgn y) (manOf x) (manOf y) _ _ i (clsOf x) (clsOf y) (expOf x) (expOf y) (hide fun wx => ?_) (hide fun wx => ?_) (hide (fun wx => mul_any (manOf x) (manOf y) (by omega) (by omega) wx)) (hide hP) hi (by simp; omega) (by simp; omega) hex.1 hex.2 hey.1 hey.2
  · have := split_any x hx.1 wx; rwa [neg_fin hx] at this
  · have := split_any y hy.1 wx; rwa [neg_fin hy] at this
end Go.Proofs.Ygctal
