import Derived.Test.YgctalWd
namespace Go.Proofs.Ygctal
open Go.RowKit
set_option maxHeartbeats 400000

/-! refused, nan, same. -/
def badB (x : Nat) : Bool := (FloatKind.f64.format.order x x != some .eq) || ((FloatKind.f64.format.order x 9110782046170513408 == some .gt) || (FloatKind.f64.format.order x 18334154083025289216 == some .lt))
def refusedB (fs : List Nat) : Bool := decide (1024 < fs.length) || fs.any badB
/-- A word that is no number. -/
def NaNw (x : Nat) : Prop := x < 18446744073709551616 ∧ 9218868437227405312 < Fl.rung x

/-- The bits that the tape gives for a NaN. -/
def nanOf (x y : Nat) (w : World) : Nat := (Question.nanBits .f64 x y).cut (w.tape w.drawn (.nanBits .f64 x y))
theorem nanOf_nan (x y : Nat) (w : World) : NaNw (nanOf x y w) := by
  unfold nanOf NaNw Fl.rung Question.cut
  dsimp only
  generalize w.tape w.drawn (Question.nanBits .f64 x y) = t
  have h1 : t / 2 % (2 ^ 52 - 1) < 4503599627370495 := Nat.mod_lt _ (by decide)
  have h2 : t % 2 = 0 ∨ t % 2 = 1 := by omega
  generalize t / 2 % (2 ^ 52 - 1) = c at *
  rcases h2 with h2 | h2 <;> rw [h2] <;> omega
theorem run_sub_nan {P : Program} (w : World) (t : TypeId) (x y : Nat) (h : Ieee.double.sub x y = none) :
    (binOp .sub t (.float .f64 x) (.float .f64 y)).run P w = .ok (.float .f64 (nanOf x y w)) w.drew := by
  have h' : FloatKind.f64.format.sub x y = none := h
  simp [binOp, Op.floatArith, h', nanOf, Question.forced]
theorem inf_add : floatBits .add .f64 9214364837600034816 9214364837600034816 = some 9218868437227405312 := by decide +kernel
theorem inf_sub : Ieee.double.sub 9218868437227405312 9218868437227405312 = none := by decide +kernel

theorem any_take_succ {p : Nat → Bool} (fs : List Nat) (k : Nat) (hk : k < fs.length) : (fs.take (k + 1)).any p = ((fs.take k).any p || p (fs.getD k 0)) := by
  rw [List.take_succ_eq_append_getElem hk, List.any_append]
  simp [List.getD_eq_getElem?_getD, List.getElem?_eq_getElem hk]
theorem any_true_of {p : Nat → Bool} (fs : List Nat) (k : Nat) (hk : k < fs.length) (h : p (fs.getD k 0) = true) : fs.any p = true := by
  rw [List.any_eq_true]
  refine ⟨fs[k], List.getElem_mem hk, ?_⟩
  rw [List.getD_eq_getElem?_getD, List.getElem?_eq_getElem hk] at h
  simpa using h

theorem refused_sum_long (a : Option Addr) (n c : Nat) (hn : 1024 < n) (hn' : n ≤ 1025) (w : World) :
    Calls Talg.prog 60 #[.slice a n c] w fun e w' => e = .returned (.bool true) ∧ w' = w := by
  go_enter Talg.func60, Talg.ntmps60
  go_wp2
  go_ret
  exact ⟨rfl, rfl⟩
theorem refused_sum_nil (a : Option Addr) (c : Nat) (w : World) :
    Calls Talg.prog 60 #[.slice a 0 c] w fun e w' => e = .returned (.bool false) ∧ w' = w := by
  go_enter Talg.func60, Talg.ntmps60
  go_wp2
  refine wp_loop_rounds 1 ?_
  rw [rounds_succ]
  go_wp2
  go_ret
  exact ⟨rfl, rfl⟩
theorem refused_sum_short (b off c : Nat) (fs : List Nat) (w : World) (hn : fs.length ≤ 1024) (hr : FR w b off fs) :
    Calls Talg.prog 60 #[.slice (some ⟨b, off, none⟩) fs.length c] w fun e w' => e = .returned (.bool (fs.any badB)) ∧ w' = w := by
  go_enter Talg.func60, Talg.ntmps60
  go_wp2
  go_loop [3] (fun i => ∃ k : Nat, k ≤ fs.length ∧ i = .int .i64 k ∧ (fs.take k).any badB = false) (fun i => fs.length - (intOf i).toNat)
  case atStart => exact ⟨0, by omega, rfl, rfl⟩
  case round =>
    obtain ⟨k, hk, rfl, hall⟩ := hrel
    have HA := hide hall
    clear hall
    by_cases hlt : k < fs.length
    · have hcell := hr k hlt
      have HS := hide (any_take_succ (p := badB) fs k hlt)
      have HF := hide (any_true_of (p := badB) fs k hlt)
      generalize fs.getD k 0 = x at *
      cases h1 : (FloatKind.f64.format.order x x != some .eq)
      · cases h2 : (FloatKind.f64.format.order x 9110782046170513408 == some .gt)
        · cases h3 : (FloatKind.f64.format.order x 18334154083025289216 == some .lt)
          · have HB := hide (show badB x = false by unfold badB; rw [h1, h2, h3]; rfl)
            go_wp2
            go_round
            case rel => exact ⟨k + 1, by omega, by go_num, by rw [HS.out, HA.out, HB.out]; rfl⟩
            case measure => simp [intOf]; omega
          · have HB := hide (show badB x = true by unfold badB; rw [h1, h2, h3]; rfl)
            go_wp2
            go_ret
            exact ⟨ret_bool (HF.out HB.out).symm, rfl⟩
        · have HB := hide (show badB x = true by unfold badB; rw [h1, h2]; rfl)
          go_wp2
          go_ret
          exact ⟨ret_bool (HF.out HB.out).symm, rfl⟩
      · have HB := hide (show badB x = true by unfold badB; rw [h1]; rfl)
        go_wp2
        go_ret
        exact ⟨ret_bool (HF.out HB.out).symm, rfl⟩
    · obtain rfl : k = fs.length := by omega
      rw [List.take_length] at HA
      go_wp2
      go_ret
      exact ⟨ret_bool HA.out.symm, rfl⟩
theorem nan_sum_any (w : World) : Calls Talg.prog 61 #[] w fun e w' => ∃ x, NaNw x ∧ e = .returned (.float .f64 x) ∧ w' = w.drew := by
  have h1 := fun w => run_float_arith (P := Talg.prog) w .add 29 .f64 _ _ _ inf_add
  have h2 := fun w => run_sub_nan (P := Talg.prog) w 29 _ _ inf_sub
  have h3 := nanOf_nan 9218868437227405312 9218868437227405312 w
  have H3 := hide h3
  clear h3
  go_enter Talg.func61, Talg.ntmps61
  go_wp2
  go_ret
  exact ⟨_, H3.out, rfl, rfl⟩

theorem refused_shew_long (a : Option Addr) (n c : Nat) (hn : 1024 < n) (hn' : n ≤ 1025) (w : World) :
    Calls Talg.prog 53 #[.slice a n c] w fun e w' => e = .returned (.bool true) ∧ w' = w := by
  go_enter Talg.func53, Talg.ntmps53
  go_wp2
  go_ret
  exact ⟨rfl, rfl⟩
theorem refused_shew_nil (a : Option Addr) (c : Nat) (w : World) :
    Calls Talg.prog 53 #[.slice a 0 c] w fun e w' => e = .returned (.bool false) ∧ w' = w := by
  go_enter Talg.func53, Talg.ntmps53
  go_wp2
  refine wp_loop_rounds 1 ?_
  rw [rounds_succ]
  go_wp2
  go_ret
  exact ⟨rfl, rfl⟩
theorem refused_shew_short (b off c : Nat) (fs : List Nat) (w : World) (hn : fs.length ≤ 1024) (hr : FR w b off fs) :
    Calls Talg.prog 53 #[.slice (some ⟨b, off, none⟩) fs.length c] w fun e w' => e = .returned (.bool (fs.any badB)) ∧ w' = w := by
  go_enter Talg.func53, Talg.ntmps53
  go_wp2
  go_loop [3] (fun i => ∃ k : Nat, k ≤ fs.length ∧ i = .int .i64 k ∧ (fs.take k).any badB = false) (fun i => fs.length - (intOf i).toNat)
  case atStart => exact ⟨0, by omega, rfl, rfl⟩
  case round =>
    obtain ⟨k, hk, rfl, hall⟩ := hrel
    have HA := hide hall
    clear hall
    by_cases hlt : k < fs.length
    · have hcell := hr k hlt
      have HS := hide (any_take_succ (p := badB) fs k hlt)
      have HF := hide (any_true_of (p := badB) fs k hlt)
      generalize fs.getD k 0 = x at *
      cases h1 : (FloatKind.f64.format.order x x != some .eq)
      · cases h2 : (FloatKind.f64.format.order x 9110782046170513408 == some .gt)
        · cases h3 : (FloatKind.f64.format.order x 18334154083025289216 == some .lt)
          · have HB := hide (show badB x = false by unfold badB; rw [h1, h2, h3]; rfl)
            go_wp2
            go_round
            case rel => exact ⟨k + 1, by omega, by go_num, by rw [HS.out, HA.out, HB.out]; rfl⟩
            case measure => simp [intOf]; omega
          · have HB := hide (show badB x = true by unfold badB; rw [h1, h2, h3]; rfl)
            go_wp2
            go_ret
            exact ⟨ret_bool (HF.out HB.out).symm, rfl⟩
        · have HB := hide (show badB x = true by unfold badB; rw [h1, h2]; rfl)
          go_wp2
          go_ret
          exact ⟨ret_bool (HF.out HB.out).symm, rfl⟩
      · have HB := hide (show badB x = true by unfold badB; rw [h1]; rfl)
        go_wp2
        go_ret
        exact ⟨ret_bool (HF.out HB.out).symm, rfl⟩
    · obtain rfl : k = fs.length := by omega
      rw [List.take_length] at HA
      go_wp2
      go_ret
      exact ⟨ret_bool HA.out.symm, rfl⟩
theorem nan_shew_any (w : World) : Calls Talg.prog 54 #[] w fun e w' => ∃ x, NaNw x ∧ e = .returned (.float .f64 x) ∧ w' = w.drew := by
  have h1 := fun w => run_float_arith (P := Talg.prog) w .add 29 .f64 _ _ _ inf_add
  have h2 := fun w => run_sub_nan (P := Talg.prog) w 29 _ _ inf_sub
  have h3 := nanOf_nan 9218868437227405312 9218868437227405312 w
  have H3 := hide h3
  clear h3
  go_enter Talg.func54, Talg.ntmps54
  go_wp2
  go_ret
  exact ⟨_, H3.out, rfl, rfl⟩

/-- Equal bits, or both no number. -/
theorem same_eq (x : Nat) (w : World) : Calls Talg.prog 20 #[.float .f64 x, .float .f64 x] w fun e w' => e = .returned (.bool true) ∧ w' = w := by
  go_enter Talg.func20, Talg.ntmps20
  go_wp2_with (go_at_call 18; refine (b64_any _ _).mono ?_; rintro e w' ⟨rfl, rfl⟩)
  go_ret
  exact ⟨rfl, rfl⟩
theorem order_nan {x : Nat} (h : NaNw x) (y : Nat) : Ieee.double.order x y = none := by
  obtain ⟨h1, h2⟩ := h
  have h2' : 9218868437227405312 < x % 9223372036854775808 := h2
  have hr : Ieee.double.read x = .nan (x / 9223372036854775808 % 2 == 1) (x % 9223372036854775808 - 9218868437227405312) := by
    unfold Ieee.Format.read
    rw [Fl.signWeight_eq, Fl.binade_eq, Fl.infRung_eq]
    dsimp only
    rw [if_neg (by omega), if_neg (by omega), if_neg (by omega)]
  unfold Ieee.Format.order
  rw [hr]
  rfl
theorem same_nan (x y : Nat) (hx : NaNw x) (hy : NaNw y) (w : World) : Calls Talg.prog 20 #[.float .f64 x, .float .f64 y] w fun e w' => e = .returned (.bool true) ∧ w' = w := by
  have h1 : FloatKind.f64.format.order x x = none := order_nan hx x
  have h2 : FloatKind.f64.format.order y y = none := order_nan hy y
  clear hx hy
  cases h : ((x : Int) == (y : Int))
  all_goals
    go_enter Talg.func20, Talg.ntmps20
    go_wp2_with (go_at_call 18; refine (b64_any _ _).mono ?_; rintro e w' ⟨rfl, rfl⟩)
    go_ret
    exact ⟨rfl, rfl⟩
end Go.Proofs.Ygctal
