import Derived.Test.YgctalWf
namespace Go.Proofs.Ygctal
open Go.RowKit
set_option maxHeartbeats 400000

theorem run_add {x y : Nat} (hx : Fl.Fin x) (hy : Fl.Fin y) (w : World) : (binOp .add 29 (.float .f64 x) (.float .f64 y)).run Talg.prog w = .ok (.float .f64 (Fl.fadd x y)) w :=
  run_float_arith w .add 29 .f64 x y _ (Fl.add_fadd hx hy)
theorem run_sub {x y : Nat} (hx : Fl.Fin x) (hy : Fl.Fin y) (w : World) : (binOp .sub 29 (.float .f64 x) (.float .f64 y)).run Talg.prog w = .ok (.float .f64 (Fl.fsub x y)) w :=
  run_float_arith w .sub 29 .f64 x y _ (Fl.sub_fsub hx hy)

/-! fold and Naive. -/
theorem fold_nil (a : Option Addr) (c : Nat) (w : World) : Calls Talg.prog 62 #[.slice a 0 c] w fun e w' => e = .returned (.float .f64 0) ∧ w' = w := by
  go_enter Talg.func62, Talg.ntmps62
  go_wp2
  refine wp_loop_rounds 1 ?_
  rw [rounds_succ]
  go_wp2
  go_ret
  exact ⟨rfl, rfl⟩
theorem fold_any (b off c : Nat) (fs : List Nat) (w : World) (hn : fs.length ≤ 1024) (hr : FR w b off fs) (had : Fl.Adm fs) :
    Calls Talg.prog 62 #[.slice (some ⟨b, off, none⟩) fs.length c] w fun e w' => e = .returned (.float .f64 (Fl.foldB fs)) ∧ w' = w := by
  go_enter Talg.func62, Talg.ntmps62
  go_wp2
  go_loop [3, 4] (fun s i => ∃ k : Nat, k ≤ fs.length ∧ i = .int .i64 k ∧ s = .float .f64 (Fl.foldB (fs.take k))) (fun _ i => fs.length - (intOf i).toNat)
  case atStart => exact ⟨0, by omega, rfl, rfl⟩
  case round =>
    obtain ⟨k, hk, rfl, rfl⟩ := hrel
    by_cases hlt : k < fs.length
    · have hcell := hr k hlt
      have HS := hide (Fl.foldB_succ fs k hlt)
      have hx := had k hlt
      have hs := Fl.foldB_bd had (by omega) k hk
      have ha := run_add hs.1 hx.1
      clear hs hx
      generalize fs.getD k 0 = x at *
      go_wp2
      go_round
      case rel => exact ⟨k + 1, by omega, by go_num, by rw [HS.out]⟩
      case measure => simp [intOf]; omega
    · obtain rfl : k = fs.length := by omega
      go_wp2
      go_ret
      exact ⟨rfl, rfl⟩

theorem naive_nil (w : World) : Calls Talg.prog 29 #[.slice none 0 0] w fun e w' => e = .returned (.float .f64 0) ∧ w' = w := by
  go_enter Talg.func29, Talg.ntmps29
  go_wp2_with (first | (go_at_call 60; refine (refused_sum_nil _ _ _).mono ?_; rintro e w' ⟨rfl, rfl⟩) | (go_at_call 62; refine (fold_nil _ _ _).mono ?_; rintro e w' ⟨rfl, rfl⟩))
  go_ret
  exact ⟨rfl, rfl⟩
theorem naive_any (b off c : Nat) (fs : List Nat) (w : World) (hn : fs.length ≤ 1024) (hr : FR w b off fs) (hw : Wds fs) (had : Fl.Adm fs) :
    Calls Talg.prog 29 #[.slice (some ⟨b, off, none⟩) fs.length c] w fun e w' => e = .returned (.float .f64 (Fl.foldB fs)) ∧ w' = w := by
  have h1 := refused_sum_short b off c fs w hn hr
  rw [(refused_iff hw).2 had] at h1
  have H1 := hide h1
  clear h1
  go_enter Talg.func29, Talg.ntmps29
  go_wp2_with (first | (go_at_call 60; refine (Hid.out H1).mono ?_; rintro e w' ⟨rfl, rfl⟩) | (go_at_call 62; refine (fold_any b off c fs _ hn hr had).mono ?_; rintro e w' ⟨rfl, rfl⟩))
  go_ret
  exact ⟨rfl, rfl⟩
end Go.Proofs.Ygctal
