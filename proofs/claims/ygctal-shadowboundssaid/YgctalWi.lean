import Derived.Test.YgctalWh
import Derived.Test.YgctalFl4
namespace Go.Proofs.Ygctal
open Go.RowKit
set_option maxHeartbeats 1000000
set_option linter.unusedVariables false

/-! TwoSum, FastTwoSum, Neumaier. -/
theorem two_any {a b x y : Nat} (hx : Fl.Bd a x) (hy : Fl.Bd b y) (hc : 10 * (a + b) ≤ 4194304) (w : World) :
    Calls Talg.prog 31 #[.float .f64 x, .float .f64 y] w fun e w' => e = .returned (.tuple #[.float .f64 (Fl.fadd x y), .float .f64 (Fl.tsE x y)]) ∧ w' = w := by
  obtain ⟨h1, _, h3, h4, h5, h6, _, _⟩ := Fl.two_words hx hy hc
  have r1 := run_add hx.1 hy.1
  have r2 := run_sub h1.1 hx.1
  have r3 := run_sub h1.1 h3
  have r4 := run_sub hy.1 h3
  have r5 := run_sub hx.1 h4
  have r6 := run_add h5 h6
  unfold Fl.tsE
  unfold Fl.tsB at *
  clear h1 h3 h4 h5 h6 hx hy
  go_enter Talg.func31, Talg.ntmps31
  go_wp2
  go_ret2
  exact ⟨rfl, rfl⟩

theorem neumaier_any (b off c : Nat) (fs : List Nat) (w : World) (hn : fs.length ≤ 1024) (hr : FR w b off fs) (hw : Wds fs) (had : Fl.Adm fs) :
    Calls Talg.prog 32 #[.slice (some ⟨b, off, none⟩) fs.length c] w fun e w' => e = .returned (.float .f64 (Fl.neuB fs)) ∧ w' = w := by
  have h1 := refused_sum_short b off c fs w hn hr
  rw [(refused_iff hw).2 had] at h1
  have H1 := hide h1
  clear h1
  go_enter Talg.func32, Talg.ntmps32
  go_wp2_with (first | (go_at_call 60; refine (Hid.out H1).mono ?_; rintro e w' ⟨rfl, rfl⟩))
  go_loop [3, 4, 5] (fun s c i => ∃ k : Nat, k ≤ fs.length ∧ i = .int .i64 k ∧ s = .float .f64 (Fl.foldB (fs.take k)) ∧ c = .float .f64 (Fl.neuC fs k)) (fun _ _ i => fs.length - (intOf i).toNat)
  case atStart => exact ⟨0, by omega, rfl, rfl, rfl⟩
  case round =>
    obtain ⟨k, hk, rfl, rfl, rfl⟩ := hrel
    have hs := Fl.foldB_bd had (by omega) k hk
    have hcc := Fl.neuC_bd had (by omega) k hk
    by_cases hlt : k < fs.length
    · have hcell := hr k hlt
      have HS := hide (Fl.foldB_succ fs k hlt)
      have HC := hide (show Fl.neuC fs (k + 1) = Fl.fadd (Fl.neuC fs k) (Fl.tsE (Fl.foldB (fs.take k)) (fs.getD k 0)) from rfl)
      have hx := had k hlt
      have HT := hide (fun wx => two_any hs hx (by omega) wx)
      have ha := run_add hcc.1 (Fl.tsE_bd hs hx (by omega)).1
      clear hs hx hcc
      generalize fs.getD k 0 = x at *
      generalize Fl.neuC fs k = cc at *
      go_wp2_with (go_at_call 31; refine (Hid.out HT _).mono ?_; rintro e w' ⟨rfl, rfl⟩)
      go_round
      case rel => exact ⟨k + 1, by omega, by go_num, by rw [HS.out], by rw [HC.out]⟩
      case measure => simp [intOf]; omega
    · obtain rfl : k = fs.length := by omega
      rw [List.take_length] at hs ⊢
      have ha := run_add hs.1 hcc.1
      clear hs hcc
      go_wp2
      go_ret
      exact ⟨rfl, rfl⟩
end Go.Proofs.Ygctal
