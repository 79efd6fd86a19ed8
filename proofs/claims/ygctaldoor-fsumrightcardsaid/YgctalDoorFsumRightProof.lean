import Derived.Test.YgctalDoorCd
import Derived.Test.YgctalDoorLFr
namespace Go.Proofs.YgctalDoor.fsumRight
open Go.ChangeShapes Go.WideShapes Go.ChangeAt Go.WideMaps Go.WideElems Go.RowKit
set_option linter.unusedVariables false

set_option maxRecDepth 100000 in
theorem lifted (os : Os) (started : os.Started) (H : Type) (enc : TypeId × Value → H) :
    ReturnsInHanded {} Talg.checked os 3 .any (fun w args => (Rows.fsumRightSpec.pre enc Talg.prog Talg.f3 [] false w args ∧ laidMetH Talg.prog laid1 w) ∧ sizedMet enc Talg.prog Talg.f3 (OpenSpec.ofChange Rows.fsumRightSpec) false w args)
      (Rows.fsumRightSpec.post enc Talg.prog Talg.f3 false true false false) := by
  refine returnsInHanded_of_change_and (C := Talg.checked) (X := fun w _ => laidMetH Talg.prog laid1 w) (fun _ _ _ hh h => h.of_heap hh) own started (by kernel_rfl) Talg.func3
    (ChangeSpec.witness_shaped (enc := enc) (C := Talg.checked) (os := os) (X := fun w _ => laidMetH Talg.prog laid1 w) false (World.doorLaid Talg.prog 400 os) #[.slice none 0 0] 8 rfl (World.shaped_of_RefB (by kernel_rfl) (by kernel_rfl)) (by kernel_rfl) (by kernel_rfl) (by kernel_rfl) (door_met os _)) ?_
  intro W base args ds gs before hval0 hW _ _ hL _
  have hval : ∀ (j : Nat) t v, Talg.f3.params[j]? = some t → args[j]? = some v → Value.okWide Talg.prog W .any base t v := hval0
  have hW' := hW
  obtain ⟨p, q, hA0, hV, rfl, hfz, hnd⟩ := hW
  have hA : DataW.TrodAll enc Talg.prog W 0 (fun _ => true) true Talg.f3.params.toList args.toList ds p := hA0
  rw [Talg.params3] at hA hval
  obtain ⟨v0, vs0, d0, ds0, p0, q0, hargs, rfl, rfl, h0, r0⟩ := trodAll_cons hA
  obtain ⟨rfl, rfl, rfl⟩ := trodAll_nil r0
  obtain rfl : args = #[v0] := by cases args; simp_all
  obtain ⟨rfl, rfl⟩ := trodVars_none hV
  obtain ⟨a0, len0, cap0, rfl⟩ := okWide_slice Talg.underlying22 (hval 0 22 v0 rfl rfl)
  have k0 := h0
  have lt0 : ∀ x ∈ p0, x.block < W.heap.size := by obtain ⟨m, hm⟩ := k0; exact DataW.trod_lt m _ _ _ hm
  obtain ⟨z0, w0⟩ : ∃ zs, IsRow .u64 W a0 len0 cap0 zs := by
    obtain ⟨fuel, hf⟩ := h0
    rcases open_ints Talg.underlying22 Talg.underlying26 (by kernel_rfl) hf with ⟨hcs, _⟩ | ⟨x, l, c, zs, hcs, _, hl, hm, hz, _, hcell, hwz⟩
    · simp [Value.cells] at hcs
      obtain ⟨rfl, rfl, rfl⟩ := hcs
      exact ⟨[], .inl ⟨rfl, rfl, rfl, rfl⟩⟩
    · simp [Value.cells] at hcs
      obtain ⟨rfl, rfl, rfl⟩ := hcs
      exact ⟨zs, .inr ⟨_, rfl, hl, hm, by simpa using hz, hcell, hwz⟩⟩
  clear hA0 hval0
  refine (fsumRight_walk a0 len0 cap0 z0 W w0 (tab_of_laid hL)).mono fun e W' ⟨he, bel⟩ => ?_
  subst he
  exact ⟨_, rfl, _, _, _, [], _, [], hW', trodAll_mk1 (shut_bool Talg.underlying4 _), (trodAll_cons_mk (Below.trod laidOut (by kernel_rfl) (of_decide_eq_true (by kernel_rfl)) k0 bel lt0) trodAll_mk0), rfl, bel.frame _, fun h => by cases h⟩

theorem over : Rows.FsumRightSaid :=
  OpenClaim.holds_of_wide 3 Talg.f3 rfl rfl rfl rfl rfl rfl rfl ⟨rfl, rfl, rfl, rfl, rfl⟩ rfl rfl rfl rfl rfl (by kernel_rfl) Talg.func3 (by kernel_rfl)
    (of_decide_eq_true (by kernel_rfl)) (by unfold Func.isWrapper; first | (rw [if_pos (by decide +kernel)]; kernel_rfl) | (rw [if_neg (by decide +kernel)]; exact ⟨rfl, rfl⟩))
    (fun os started H enc _ => lifted os started H enc)

theorem proved : Rows.FsumRightCardSaid :=
  Claim7.holds_tied_plain_at .later [] [.data] true (true, "d1d521d8e411b8086fcf63da06389d0caa99e9be63c397a2c7a792438729f472") false
    over (fun _ h => by cases h) (by kernel_rfl) (fun _ h => by cases h) fsumRight_row_tie rfl ⟨rfl, rfl⟩ (by kernel_rfl) rfl
    (fun f fn hf hfn => by
      obtain rfl : f = 3 := Option.some.inj ((show Talg.prog.funcNamed Rows.fsumRightRow.func = some 3 by kernel_rfl).symm.trans hf) |>.symm
      obtain rfl : fn = Talg.f3 := (Option.some.inj (Talg.func3.symm.trans hfn)).symm
      exact ⟨by kernel_rfl, fun j t ht => by
        rw [Talg.params3] at ht
        have h3 : t = 22 := by
          rcases j with _ | j
          · simpa using ht.symm
          · simp at ht
        subst h3
        exact (show Talg.prog.wantsStandIn 22 = false by kernel_rfl)⟩)
    (by kernel_rfl)
end Go.Proofs.YgctalDoor.fsumRight
