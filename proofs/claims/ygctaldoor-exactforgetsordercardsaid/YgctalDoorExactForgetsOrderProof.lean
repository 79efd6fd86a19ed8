import Derived.Test.YgctalDoorCd
import Derived.Test.YgctalDoorLEo
namespace Go.Proofs.YgctalDoor.exactForgetsOrder
open Go.ChangeShapes Go.WideShapes Go.ChangeAt Go.WideMaps Go.WideElems Go.RowKit
set_option linter.unusedVariables false

theorem u16_wf {n : Int} (h : (Lit.int .u16 n).wf = true) : 0 ≤ n ∧ n < 65536 := by
  simp [Lit.wf, IntKind.min, IntKind.max, IntKind.bits, IntKind.signed] at h
  omega
set_option maxRecDepth 100000 in
theorem lifted (os : Os) (started : os.Started) (H : Type) (enc : TypeId × Value → H) :
    ReturnsInHanded {} Talg.checked os 4 .any (fun w args => (Rows.exactForgetsOrderSpec.pre enc Talg.prog Talg.f4 [] false w args ∧ laidMetH Talg.prog laid1 w) ∧ sizedMet enc Talg.prog Talg.f4 (OpenSpec.ofChange Rows.exactForgetsOrderSpec) false w args)
      (Rows.exactForgetsOrderSpec.post enc Talg.prog Talg.f4 false true false false) := by
  refine returnsInHanded_of_change_and (C := Talg.checked) (X := fun w _ => laidMetH Talg.prog laid1 w) (fun _ _ _ hh h => h.of_heap hh) own started (by kernel_rfl) Talg.func4
    (ChangeSpec.witness_shaped (enc := enc) (C := Talg.checked) (os := os) (X := fun w _ => laidMetH Talg.prog laid1 w) false (World.doorLaid Talg.prog 400 os) #[.slice none 0 0, .int .u16 0, .int .u16 0] 8 rfl (World.shaped_of_RefB (by kernel_rfl) (by kernel_rfl)) (by kernel_rfl) (by kernel_rfl) (by kernel_rfl) (door_met os _)) ?_
  intro W base args ds gs before hval0 hW _ _ hL _
  have hval : ∀ (j : Nat) t v, Talg.f4.params[j]? = some t → args[j]? = some v → Value.okWide Talg.prog W .any base t v := hval0
  have hW' := hW
  obtain ⟨p, q, hA0, hV, rfl, hfz, hnd⟩ := hW
  have hA : DataW.TrodAll enc Talg.prog W 0 (fun _ => true) true Talg.f4.params.toList args.toList ds p := hA0
  rw [Talg.params4] at hA hval
  obtain ⟨v0, vs0, d0, ds0, p0, q0, hargs, rfl, rfl, h0, r0⟩ := trodAll_cons hA
  obtain ⟨v1, vs1, d1, ds1, p1, q1, rfl, rfl, rfl, h1, r1⟩ := trodAll_cons r0
  obtain ⟨v2, vs2, d2, ds2, p2, q2, rfl, rfl, rfl, h2, r2⟩ := trodAll_cons r1
  obtain ⟨rfl, rfl, rfl⟩ := trodAll_nil r2
  obtain rfl : args = #[v0, v1, v2] := by cases args; simp_all
  obtain ⟨rfl, rfl⟩ := trodVars_none hV
  obtain ⟨a0, len0, cap0, rfl⟩ := okWide_slice Talg.underlying22 (hval 0 22 v0 rfl rfl)
  have k0 := h0
  have lt0 : ∀ x ∈ p0, x.block < W.heap.size := by obtain ⟨m, hm⟩ := k0; exact DataW.trod_lt m _ _ _ hm
  obtain ⟨z0, w0⟩ : ∃ zs, IsRow .u64 W a0 len0 cap0 zs := by
    obtain ⟨fuel, hf⟩ := h0
    rcases open_ints Talg.underlying22 Talg.underlying26 (by kernel_rfl) hf with ⟨hcs, _⟩ | ⟨x, l, c, zs, hcs, _, hl, hm, hz, _, hcell, hwz⟩
    · simp [Value.cells] at hcs
      obtain ⟨rfl, rfl, rfl⟩ := hcs
      exact ⟨[], .inl ⟨rfl, rfl, rfl, rfl⟩⟩
    · simp [Value.cells] at hcs
      obtain ⟨rfl, rfl, rfl⟩ := hcs
      exact ⟨zs, .inr ⟨_, rfl, hl, hm, by simpa using hz, hcell, hwz⟩⟩
  obtain ⟨a1, rfl, rfl, rfl, w1⟩ := open_int Talg.underlying35 (hval 1 35 v1 rfl rfl) h1
  obtain ⟨a2, rfl, rfl, rfl, w2⟩ := open_int Talg.underlying35 (hval 2 35 v2 rfl rfl) h2
  clear hA0 hval0
  have b1 := u16_wf w1
  have b2 := u16_wf w2
  obtain ⟨i, rfl⟩ := Int.eq_ofNat_of_zero_le b1.1
  obtain ⟨j, rfl⟩ := Int.eq_ofNat_of_zero_le b2.1
  refine (exactForgetsOrder_walk a0 len0 cap0 z0 i j (by omega) (by omega) W w0 (tab_of_laid hL)).mono fun e W' ⟨he, bel⟩ => ?_
  subst he
  exact ⟨_, rfl, _, _, _, [], _, [], hW', trodAll_mk1 (shut_bool Talg.underlying4 _), (trodAll_cons_mk (Below.trod laidOut (by kernel_rfl) (of_decide_eq_true (by kernel_rfl)) k0 bel lt0) (trodAll_cons_mk (shut_int Talg.underlying35 w1) (trodAll_cons_mk (shut_int Talg.underlying35 w2) trodAll_mk0))), rfl, bel.frame _, fun h => by cases h⟩

theorem over : Rows.ExactForgetsOrderSaid :=
  OpenClaim.holds_of_wide 4 Talg.f4 rfl rfl rfl rfl rfl rfl rfl ⟨rfl, rfl, rfl, rfl, rfl⟩ rfl rfl rfl rfl rfl (by kernel_rfl) Talg.func4 (by kernel_rfl)
    (of_decide_eq_true (by kernel_rfl)) (by unfold Func.isWrapper; first | (rw [if_pos (by decide +kernel)]; kernel_rfl) | (rw [if_neg (by decide +kernel)]; exact ⟨rfl, rfl⟩))
    (fun os started H enc _ => lifted os started H enc)

theorem proved : Rows.ExactForgetsOrderCardSaid :=
  Claim7.holds_tied_plain_at .later [] [.data] true (true, "d1d521d8e411b8086fcf63da06389d0caa99e9be63c397a2c7a792438729f472") false
    over (fun _ h => by cases h) (by kernel_rfl) (fun _ h => by cases h) exactForgetsOrder_row_tie rfl ⟨rfl, rfl⟩ (by kernel_rfl) rfl
    (fun f fn hf hfn => by
      obtain rfl : f = 4 := Option.some.inj ((show Talg.prog.funcNamed Rows.exactForgetsOrderRow.func = some 4 by kernel_rfl).symm.trans hf) |>.symm
      obtain rfl : fn = Talg.f4 := (Option.some.inj (Talg.func4.symm.trans hfn)).symm
      exact ⟨by kernel_rfl, fun j t ht => by
        rw [Talg.params4] at ht
        have h3 : t = 22 ∨ t = 35 := by
          rcases j with _ | _ | _ | j
          · left; simpa using ht.symm
          · right; simpa using ht.symm
          · right; simpa using ht.symm
          · simp at ht
        rcases h3 with rfl | rfl
        · exact (show Talg.prog.wantsStandIn 22 = false by kernel_rfl)
        · exact (show Talg.prog.wantsStandIn 35 = false by kernel_rfl)⟩)
    (by kernel_rfl)
end Go.Proofs.YgctalDoor.exactForgetsOrder
