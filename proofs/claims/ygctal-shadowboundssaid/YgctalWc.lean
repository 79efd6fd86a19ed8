import Derived.Test.YgctalWb
namespace Go.Proofs.Ygctal
open Go.RowKit
set_option maxHeartbeats 400000

/-! atMost(x, 1000), admitted. -/
def atMostB (x : Nat) : Bool :=
  if clsOf x = 1 then decide (expOf x + highTo (manOf x) 64 < 1000) || (decide (expOf x + highTo (manOf x) 64 = 1000) && decide (lowTo (manOf x) 64 = highTo (manOf x) 64)) else decide (clsOf x = 0)
theorem man_lt (x : Nat) : manOf x < 9007199254740992 := by
  unfold manOf frcOf
  repeat' split
  all_goals omega
theorem exp_bd (x : Nat) : -1075 ≤ expOf x ∧ expOf x ≤ 972 := by
  have : fldOf x < 2048 := by unfold fldOf; omega
  unfold expOf
  repeat' split
  all_goals omega
theorem highTo_lt (m k : Nat) (h : 0 < k) : highTo m k < k := by
  rcases highTo_spec m k with ⟨h1, _⟩ | ⟨h', h1, h2, _⟩ <;> omega
theorem lowTo_lt (m k : Nat) (h : 0 < k) : lowTo m k < k := by
  rcases lowTo_spec m k with ⟨h1, _⟩ | ⟨h', h1, h2, _⟩ <;> omega

theorem atMost_any (x : Nat) (hx : x < 18446744073709551616) (w : World) : Calls Talg.prog 56 #[.float .f64 x, .int .i64 1000] w fun e w' => e = .returned (.bool (atMostB x)) ∧ w' = w := by
  have hm := man_lt x
  have he := exp_bd x
  have hs := split_any x hx w
  have hen := ends_any (manOf x) (by omega) w
  have h1 := highTo_ge (manOf x) 64
  have h2 := highTo_lt (manOf x) 64 (by omega)
  have h3 := lowTo_ge (manOf x) 64
  have h4 := lowTo_lt (manOf x) 64 (by omega)
  unfold atMostB
  generalize negOf x = n at *
  generalize manOf x = m at *
  generalize expOf x = ex at *
  generalize clsOf x = c at *
  generalize highTo m 64 = hi at *
  generalize lowTo m 64 = lo at *
  obtain ⟨he1, he2⟩ := he
  by_cases hc : c = 1
  · rw [if_pos hc]
    subst hc
    by_cases t1 : ex + hi < 1000
    · rw [show decide (ex + hi < 1000) = true from by simp [t1], Bool.true_or]
      have HS := hide hs
      have HE := hide hen
      clear hs hen
      go_enter Talg.func56, Talg.ntmps56
      go_wp2_with (first | (go_at_call 57; refine (Hid.out HS).mono ?_; rintro e w' ⟨rfl, rfl⟩) | (go_at_call 59; refine (Hid.out HE).mono ?_; rintro e w' ⟨rfl, rfl⟩))
      go_ret
      exact ⟨rfl, rfl⟩
    · have t1' : decide (ex + hi < 1000) = false := by simp; omega
      rw [t1', Bool.false_or]
      by_cases t2 : ex + hi = 1000
      · rw [show decide (ex + hi = 1000) = true from by simp [t2], Bool.true_and]
        have t2' : (ex + hi == 1000) = true := by simp [t2]
        have t3' : (lo == hi) = decide (lo = hi) := rfl
        clear t2
        have HS := hide hs
        have HE := hide hen
        clear hs hen
        go_enter Talg.func56, Talg.ntmps56
        go_wp2_with (first | (go_at_call 57; refine (Hid.out HS).mono ?_; rintro e w' ⟨rfl, rfl⟩) | (go_at_call 59; refine (Hid.out HE).mono ?_; rintro e w' ⟨rfl, rfl⟩))
        go_ret
        exact ⟨rfl, rfl⟩
      · rw [show decide (ex + hi = 1000) = false from by simp [t2], Bool.false_and]
        have t2' : (ex + hi == 1000) = false := by simp [t2]
        have HS := hide hs
        have HE := hide hen
        clear hs hen
        go_enter Talg.func56, Talg.ntmps56
        go_wp2_with (first | (go_at_call 57; refine (Hid.out HS).mono ?_; rintro e w' ⟨rfl, rfl⟩) | (go_at_call 59; refine (Hid.out HE).mono ?_; rintro e w' ⟨rfl, rfl⟩))
        go_ret
        exact ⟨rfl, rfl⟩
  · rw [if_neg hc]
    have hc' : (c != 1) = true := by simp [hc]
    have hc2 : (c == 0) = decide (c = 0) := rfl
    have HS := hide hs
    clear hs hen
    go_enter Talg.func56, Talg.ntmps56
    go_wp2_with (first | (go_at_call 57; refine (Hid.out HS).mono ?_; rintro e w' ⟨rfl, rfl⟩) | (go_at_call 59; refine (Hid.out HE).mono ?_; rintro e w' ⟨rfl, rfl⟩))
    go_ret
    exact ⟨rfl, rfl⟩

end Go.Proofs.Ygctal
