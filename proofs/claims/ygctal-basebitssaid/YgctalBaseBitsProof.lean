import Derived.Test.YgctalBits
import Derived.WalkKit
import Derived.ProofKit
import Derived.OpenShut
import Derived.ShutString
namespace Go.Proofs.Ygctal.baseBits
open Go.ChangeShapes Go.WideShapes Go.ChangeAt Go.RowKit
open Go.ChangeMaps (open_string shut_string)
set_option linter.unusedVariables false      -- a walk need not use every 'w<i>' (that an integer argument fits its kind)

theorem own : ownKnob Talg.prog.godebug = none := by kernel_rfl

/-! ### STEP 1: THE WALK: the Go text returns true. 'Grown w w'': the world has at most new blocks (Derived/RowKit3.lean). Part the cases AHEAD of 'go_enter' where a test parts the walk; take each callee by a contract of your own. -/
set_option maxRecDepth 100000 in
theorem walk (a0 : Int) (w0 : (Lit.int .u8 a0).wf = true) (w : World) :
    Calls Talg.prog 10 #[.int .u8 a0] w fun e w' => e = .returned (.bool true) ∧ Grown w w' := by
  have hb : 0 ≤ a0 := by have := w0; simp [Lit.wf] at this; exact this.1
  obtain ⟨t, rfl⟩ := Int.eq_ofNat_of_zero_le hb
  have key : Calls Talg.prog 10 #[.int .u8 (t : Int)] w fun e w' => e = .returned (.bool true) ∧ w' = w := by
    by_cases h : 12 ≤ t
    · have e0 : ((t : Int) == 0) = false := by simp; omega
      have e1 : ((t : Int) == 1) = false := by simp; omega
      have e2 : ((t : Int) == 2) = false := by simp; omega
      have e3 : ((t : Int) == 3) = false := by simp; omega
      have e4 : ((t : Int) == 4) = false := by simp; omega
      have e5 : ((t : Int) == 5) = false := by simp; omega
      have e6 : ((t : Int) == 6) = false := by simp; omega
      have e7 : ((t : Int) == 7) = false := by simp; omega
      have e8 : ((t : Int) == 8) = false := by simp; omega
      have e9 : ((t : Int) == 9) = false := by simp; omega
      have e10 : ((t : Int) == 10) = false := by simp; omega
      have e11 : ((t : Int) == 11) = false := by simp; omega
      go_enter Talg.func10, Talg.ntmps10
      go_wp2_with (first | (go_at_call 41; refine (base_big t h _).mono ?_; rintro e w' ⟨rfl, rfl⟩) | (go_at_call 17; refine (bitsC_zero _).mono ?_; rintro e w' ⟨rfl, rfl⟩))
      go_ret
      exact ⟨rfl, rfl⟩
    · match t, h with
      | 0, _ | 1, _ | 2, _ | 3, _ | 4, _ | 5, _ | 6, _ | 7, _ | 8, _ | 9, _ | 10, _ | 11, _ =>
        go_enter Talg.func10, Talg.ntmps10
        go_wp2_with fail
        refine (base_any _ _).mono ?_
        rintro e w' ⟨rfl, rfl⟩
        simp only [baseOf, baseTab, List.getD_cons_zero, List.getD_cons_succ]
        go_wp2_with fail
        refine (bitsC_same _ _ _).mono ?_
        rintro e w' ⟨rfl, rfl⟩
        go_wp2
        go_ret
        exact ⟨rfl, rfl⟩
      | n + 12, h => exact absurd (Nat.le_add_left 12 n) h
  refine key.mono fun e w' ⟨he, hw⟩ => ⟨he, ?_⟩
  subst hw
  exact Grown.refl _

/-! ### THE ROW's STEP: WRITTEN OUT: LEAVE IT -/
set_option maxRecDepth 100000 in
theorem lifted (os : Os) (started : os.Started) (H : Type) (enc : TypeId × Value → H) :
    ReturnsInHanded {} Talg.checked os 10 .any (Rows.baseBitsSpec.pre6 enc Talg.prog Talg.f10 Rows.baseBitsRow.domain false) (Rows.baseBitsSpec.post enc Talg.prog Talg.f10 false true false false) := by
  refine returnsInHanded_of_change (C := Talg.checked) own started (by kernel_rfl) Talg.func10
    (ChangeSpec.witness6 (enc := enc) (C := Talg.checked) false ⟨#[], #[.int .u8 0], []⟩ 8 (by kernel_rfl) (by kernel_rfl) (by kernel_rfl) (by kernel_rfl)) ?_
  intro W base args ds gs before hval0 hW hcnd _
  have hval : ∀ (j : Nat) t v, Talg.f10.params[j]? = some t → args[j]? = some v → Value.okWide Talg.prog W .any base t v := hval0
  have hW' := hW
  obtain ⟨p, q, hA0, hV, rfl, hfz, hnd⟩ := hW
  have hA : DataW.TrodAll enc Talg.prog W 0 (fun _ => true) true Talg.f10.params.toList args.toList ds p := hA0
  rw [Talg.params10] at hA hval
  obtain ⟨v0, vs0, d0, ds0, p0, q0, hargs, rfl, rfl, h0, r0⟩ := trodAll_cons hA
  obtain ⟨rfl, rfl, rfl⟩ := trodAll_nil r0
  obtain rfl : args = #[v0] := by cases args; simp_all
  obtain ⟨rfl, rfl⟩ := trodVars_none hV
  obtain ⟨a0, rfl, rfl, rfl, w0⟩ := open_int Talg.underlying5 (hval 0 5 v0 rfl rfl) h0
  clear hA0 hval0
  simp only [List.append_nil] at hW'
  refine (walk a0 w0 W).mono fun e W' ⟨he, hg⟩ => ?_
  subst he
  exact ⟨_, rfl, post_of_same (pa := []) (pv := []) hW' (fun _ _ _ => (trodAll_cons_mk (shut_bool Talg.underlying4 _) trodAll_mk0)) (fun sp _ => (trodAll_cons_mk (shut_int Talg.underlying5 w0) trodAll_mk0)) (fun _ _ => rfl) rfl
    (hg.frame _) hg.2.1 (ok_one (by kernel_rfl) rfl (okWide_bool_mk Talg.underlying4 _))⟩

theorem over : Rows.baseBitsRow.holds Talg.pinned (OpenSpec.ofChange Rows.baseBitsSpec) :=
  OpenClaim.holds_of_wide 10 Talg.f10 rfl rfl rfl rfl rfl rfl rfl ⟨rfl, rfl, rfl, rfl, rfl⟩ rfl rfl rfl rfl rfl (by kernel_rfl) Talg.func10 (by kernel_rfl)
    (of_decide_eq_true (by kernel_rfl)) (by unfold Func.isWrapper; first | (rw [if_pos (by decide +kernel)]; kernel_rfl) | (rw [if_neg (by decide +kernel)]; exact ⟨rfl, rfl⟩))
    (fun os started H enc _ => lifted os started H enc)

/-- ████ THE STATEMENT ████ -/
theorem proved : Rows.BaseBitsSaid :=
  over
end Go.Proofs.Ygctal.baseBits
