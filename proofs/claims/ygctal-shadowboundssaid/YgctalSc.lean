import Derived.Test.YgctalSb
namespace Go.Proofs.Ygctal
open Go.RowKit
set_option maxHeartbeats 4000000
set_option linter.unusedVariables false

/-! Add. -/
set_option maxRecDepth 1000000 in
theorem add_r5 {Q : Exit → Act → World → Prop} (w : World) (g h k x y c : Nat) (hk : k < 68) (hc : c ≤ 1) (c0 : w.cell? ⟨g, k, none⟩ = some (.int .u64 (x : Int))) (c1 : w.cell? ⟨h, k, none⟩ = some (.int .u64 (y : Int))) (f0 : w.frozen? ⟨g, k, none⟩ = false)
    (u2 u3 u6 u7 u8 u9 u10 u11 u12 u13 u14 u15 u16 u17 u18 u19 u20 u21 u22 u23 u24 u25 u26 u27 u28 u29 u30 u31 u32 u33 u34 : Value)
    (hQ : ∀ v16 v17 v18 v19 v20 v21 v22 v23 v24 v25 v26 v27 v28 v29 v30 v31 v32 v33 v34 : Value, Q .normal ⟨#[.pointer (some ⟨g, 0, none⟩), .pointer (some ⟨h, 0, none⟩), u2, u3, .int .u64 ((addC x y c : Nat) : Int), .int .i64 (k : Int), u6, u7, u8, u9, u10, u11, u12, u13, u14, u15, v16, v17, v18, v19, v20, v21, v22, v23, v24, v25, v26, v27, v28, v29, v30, v31, v32, v33, v34], []⟩ ((w.setCell ⟨g, k, none⟩ (.int .u64 ((addS x y c : Nat) : Int))).drew)) :
    Code.wp Talg.prog ((Talg.f16.body.bind (regionOf 5)).getD .skip) Q ⟨#[.pointer (some ⟨g, 0, none⟩), .pointer (some ⟨h, 0, none⟩), u2, u3, .int .u64 (c : Int), .int .i64 (k : Int), u6, u7, u8, u9, u10, u11, u12, u13, u14, u15, u16, u17, u18, u19, u20, u21, u22, u23, u24, u25, u26, u27, u28, u29, u30, u31, u32, u33, u34], []⟩ w := by
  have j3 : (k : Int) < 68 := by omega
  conv => arg 2; whnf
  refine wp_region_noPanic ?_
  go_region_with (go_at_call 51; refine (add_any x y c hc _).mono ?_; rintro e w' ⟨rfl, rfl⟩)
  all_goals refine NoPanic.normal ?_
  all_goals go_simp
  all_goals exact hQ _ _ _ _ _ _ _ _ _ _ _ _ _ _ _ _ _ _ _
theorem Run_start {a : List Nat} (hl : a.length = 68) (hw : Ac.Wd a) : Ac.Run 1 a 0 a 0 0 := ⟨hl, hw, by omega, fun _ _ => rfl, by simp⟩
/-- What Add leaves. -/
def Added (w w' : World) (g T : Nat) (z : Int) : Prop := ∃ a', AccB w' g T a' ∧ AccOf a' z ∧ w.grownBy w' (some g)
theorem run_done {a b a' : List Nat} {z u : Int} {c : Nat} (h : Ac.Run 1 a (Ac.lowV b 68) a' 68 c) (za : AccOf a z) (zb : AccOf b u) : AccOf a' (z + u) := by
  refine ⟨h.len, h.wd, ?_⟩
  have he := h.eq
  have hlt := Ac.accV_lt a' h.wd
  have hl := Ac.lowV_all b
  rw [zb.1] at hl
  rw [hl] at he
  rw [h.len] at hlt
  have e1 := za.2.2
  have e2 := zb.2.2
  generalize Ac.W ^ 68 = P at *
  have e3 : (z + u) % (P : Int) = ((Ac.accV a : Int) + Ac.accV b) % (P : Int) := by rw [e1, e2, ← Int.add_emod]
  rw [e3, show (Ac.accV a : Int) + Ac.accV b = Ac.accV a' + (c : Int) * P by omega, Int.add_mul_emod_self_right]
  exact (Int.emod_eq_of_lt (by omega) (by omega)).symm
set_option maxRecDepth 1000000 in
theorem addAcc_any (g T h T2 : Nat) (a b : List Nat) (z u : Int) (w : World) (hA : AccB w g T a) (hB : AccB w h T2 b) (hne : g ≠ h) (za : AccOf a z) (zb : AccOf b u) :
    Calls Talg.prog 16 #[.pointer (some ⟨g, 0, none⟩), .pointer (some ⟨h, 0, none⟩)] w fun e w' => e = .returned (.tuple #[]) ∧ Added w w' g T (z + u) := by
  have HA := hide hA
  have HB := hide hB
  have HZ := hide za
  have HU := hide zb
  have HN := hide hne
  clear hA hB za zb hne
  go_enter Talg.func16, Talg.ntmps16
  go_wp2
  go_loopw [4, 5] (fun cc jj wr => ∃ (j c : Nat) (wsj : List Nat), cc = .int .u64 c ∧ jj = .int .i64 j ∧ j ≤ 68 ∧ Hid (AccB wr g T wsj ∧ w.grownBy wr (some g) ∧ Ac.Run 1 a (Ac.lowV b j) wsj j c)) (fun _ jj _ => 68 - (intOf jj).toNat)
  case atStart => exact ⟨0, 0, a, rfl, rfl, by omega, HA.out, gb_refl _ _, Run_start HZ.out.1 HZ.out.2.1⟩
  case round =>
    obtain ⟨j, c, wsj, rfl, rfl, hj, HG⟩ := hrel
    by_cases hlt : j < 68
    · have hj' : (j : Int) < 68 := by omega
      have hc1 := HG.out.2.2.c1
      have hlj := HG.out.2.2.len
      have HBj := hide (HB.out.grown HG.out.2.1 (fun e => HN.out (Option.some.inj e)))
      have HCj := hide (HG.out.1.cell (show j < wsj.length by omega))
      have HDj := hide (HBj.out.cell (show j < b.length by rw [HU.out.1]; omega))
      have HXj := hide (HG.out.2.2.wd.get (show j < wsj.length by omega))
      have HYj := hide (HU.out.2.1.get (show j < b.length by rw [HU.out.1]; omega))
      generalize hxj : wsj.getD j 0 = xj at *
      generalize hyj : b.getD j 0 = yj at *
      have hrun := HG.out.2.2.step (y := yj) (S := addS xj yj c) (C := addC xj yj c) hlt (addS_lt _ _ _) (addC_le _ _ _ HXj.out HYj.out hc1) (by rw [hxj]; exact add_he xj yj c)
      rw [← hyj] at hrun
      have HRn := hide (show Ac.Run 1 a (Ac.lowV b (j + 1)) _ (j + 1) _ from hrun)
      rw [hyj] at HRn
      clear hrun
      have HAn := hide ((HG.out.1.set j (addS xj yj c)).drew)
      have HGn := hide (gb_trans HG.out.2.1 (gb_trans (gb_setCell wr g j (.int .u64 ((addS xj yj c : Nat) : Int))) (gb_drew _ (some g))))
      have HFr := hide (HG.out.1.free j)
      clear hxj hyj HG
      go_wp2_with fail
      refine add_r5 wr g h j xj yj c hlt hc1 HCj.out HDj.out HFr.out _ _ _ _ _ _ _ _ _ _ _ _ _ _ _ _ _ _ _ _ _ _ _ _ _ _ _ _ _ _ _ ?_
      intro v16 v17 v18 v19 v20 v21 v22 v23 v24 v25 v26 v27 v28 v29 v30 v31 v32 v33 v34
      generalize (wr.setCell ⟨g, j, none⟩ (.int .u64 ((addS xj yj c : Nat) : Int))).drew = wn at HAn HGn ⊢
      go_wp2_with fail
      go_roundw
      case rel => exact ⟨j + 1, addC xj yj c, wsj.set j (addS xj yj c), rfl, by go_num, by omega, HAn.out, HGn.out, HRn.out⟩
      case measure => simp [intOf]; omega
    · obtain rfl : j = 68 := by omega
      have HP := hide (show Added w wr g T (z + u) from ⟨wsj, HG.out.1, run_done HG.out.2.2 HZ.out HU.out, HG.out.2.1⟩)
      clear HG
      go_wp2
      go_end0
      exact ⟨rfl, HP.out⟩
end Go.Proofs.Ygctal
