import Derived.Test.YgctalWq
import Derived.Test.YgctalAc2
namespace Go.Proofs.Ygctal
open Go.RowKit
set_option maxHeartbeats 4000000
set_option linter.unusedVariables false

/-! Neg, Sign, Abs. -/
theorem sub_anyN (y c : Nat) (hc : c ≤ 1) (w : World) : Calls Talg.prog 74 #[.int .u64 0, .int .u64 y, .int .u64 c] w fun e w' => e = .returned (.tuple #[.int .u64 (subS 0 y c), .int .u64 (subC 0 y c)]) ∧ w' = w := sub_any 0 y c hc w

set_option maxRecDepth 1000000 in
theorem neg_r5 {Q : Exit → Act → World → Prop} (w : World) (g k x c : Nat) (hk : k < 68) (hc : c ≤ 1) (c0 : w.cell? ⟨g, k, none⟩ = some (.int .u64 (x : Int))) (f0 : w.frozen? ⟨g, k, none⟩ = false)
    (u1 u4 u5 u6 u7 u8 u9 u10 u11 u12 u13 u14 u15 u16 u17 u18 u19 u20 u21 u22 u23 : Value)
    (hQ : ∀ v10 v11 v12 v13 v14 v15 v16 v17 v18 v19 v20 v21 v22 v23 : Value, Q .normal ⟨#[.pointer (some ⟨g, 0, none⟩), u1, .int .u64 ((subC 0 x c : Nat) : Int), .int .i64 (k : Int), u4, u5, u6, u7, u8, u9, v10, v11, v12, v13, v14, v15, v16, v17, v18, v19, v20, v21, v22, v23], []⟩ ((w.setCell ⟨g, k, none⟩ (.int .u64 ((subS 0 x c : Nat) : Int))).drew)) :
    Code.wp Talg.prog ((Talg.f64.body.bind (regionOf 5)).getD .skip) Q ⟨#[.pointer (some ⟨g, 0, none⟩), u1, .int .u64 (c : Int), .int .i64 (k : Int), u4, u5, u6, u7, u8, u9, u10, u11, u12, u13, u14, u15, u16, u17, u18, u19, u20, u21, u22, u23], []⟩ w := by
  have j3 : (k : Int) < 68 := by omega
  conv => arg 2; whnf
  refine wp_region_noPanic ?_
  go_region_with (go_at_call 74; refine (sub_anyN x c hc _).mono ?_; rintro e w' ⟨rfl, rfl⟩)
  refine NoPanic.normal ?_
  go_simp
  exact hQ _ _ _ _ _ _ _ _ _ _ _ _ _ _

/-- What Neg leaves. -/
def Negd (w w' : World) (g T : Nat) (ws : List Nat) : Prop := ∃ ws', AccB w' g T ws' ∧ ws'.length = 68 ∧ Ac.Wd ws' ∧ (Ac.accV ws' : Int) = (-(Ac.accV ws : Int)) % ((Ac.W ^ 68 : Nat) : Int) ∧ w.grownBy w' (some g)

set_option maxRecDepth 1000000 in
theorem neg_any (g T : Nat) (ws : List Nat) (w : World) (hA : AccB w g T ws) (hl : ws.length = 68) (hw : Ac.Wd ws) :
    Calls Talg.prog 64 #[.pointer (some ⟨g, 0, none⟩)] w fun e w' => e = .returned (.tuple #[]) ∧ Negd w w' g T ws := by
  have HA := hide hA
  have HL := hide hl
  have HW := hide hw
  clear hA hl hw
  go_enter Talg.func64, Talg.ntmps64
  go_wp2
  go_loopw [2, 3] (fun cc jj wr => ∃ (j c : Nat) (wsj : List Nat), cc = .int .u64 c ∧ jj = .int .i64 j ∧ j ≤ 68 ∧ Hid (AccB wr g T wsj ∧ w.grownBy wr (some g) ∧ Ac.NegRun ws wsj j c)) (fun _ jj _ => 68 - (intOf jj).toNat)
  case atStart => exact ⟨0, 0, ws, rfl, rfl, by omega, HA.out, gb_refl _ _, Ac.NegRun.start HL.out HW.out⟩
  case round =>
    obtain ⟨j, c, wsj, rfl, rfl, hj, HG⟩ := hrel
    by_cases hlt : j < 68
    · have hj' : (j : Int) < 68 := by omega
      have hc1 := HG.out.2.2.c1
      have hlj := HG.out.2.2.len
      have HCj := hide (HG.out.1.cell (show j < wsj.length by omega))
      have HXj := hide (HG.out.2.2.wd.get (show j < wsj.length by omega))
      generalize hxj : wsj.getD j 0 = xj at *
      have HRn := hide (HG.out.2.2.step (S := subS 0 xj c) (C := subC 0 xj c) hlt (subS_lt _ _ _) (subC_le _ _ _) (by rw [hxj]; exact sub_he 0 xj c (by decide) HXj.out hc1))
      have HAn := hide ((HG.out.1.set j (subS 0 xj c)).drew)
      have HGn := hide (gb_trans HG.out.2.1 (gb_trans (gb_setCell wr g j (.int .u64 ((subS 0 xj c : Nat) : Int))) (gb_drew _ (some g))))
      have HFr := hide (HG.out.1.free j)
      clear hxj HG
      go_wp2_with fail
      refine neg_r5 wr g j xj c hlt hc1 HCj.out HFr.out _ _ _ _ _ _ _ _ _ _ _ _ _ _ _ _ _ _ _ _ _ ?_
      intro v10 v11 v12 v13 v14 v15 v16 v17 v18 v19 v20 v21 v22 v23
      generalize (wr.setCell ⟨g, j, none⟩ (.int .u64 ((subS 0 xj c : Nat) : Int))).drew = wn at HAn HGn ⊢
      go_wp2_with fail
      go_roundw
      case rel => exact ⟨j + 1, subC 0 xj c, wsj.set j (subS 0 xj c), rfl, by go_num, by omega, HAn.out, HGn.out, HRn.out⟩
      case measure => simp [intOf]; omega
    · obtain rfl : j = 68 := by omega
      have HP := hide (show Negd w wr g T ws from ⟨wsj, HG.out.1, HG.out.2.2.len, HG.out.2.2.wd, HG.out.2.2.done HL.out, HG.out.2.1⟩)
      clear HG
      go_wp2
      go_end0
      exact ⟨rfl, HP.out⟩

/-- What Sign answers. -/
def signB (ws : List Nat) : Int := if 9223372036854775808 ≤ ws.getD 67 0 then -1 else if Ac.accV ws = 0 then 0 else 1
theorem sign_any (g T : Nat) (ws : List Nat) (w : World) (hA : AccB w g T ws) (hl : ws.length = 68) (hw : Ac.Wd ws) :
    Calls Talg.prog 65 #[.pointer (some ⟨g, 0, none⟩)] w fun e w' => e = .returned (.int .i8 (signB ws)) ∧ w' = w := by
  have c67 := hA.cell (show 67 < ws.length by omega)
  have hlt67 := hw.get (show 67 < ws.length by omega)
  have HC := hide (fun j (hj : j < 68) => hA.cell (show j < ws.length by omega))
  have HZ := hide (fun (h : ∀ j, j < 68 → ws.getD j 0 = 0) => Ac.accV_zero (ws := ws) (by rw [hl]; exact h))
  have HP := hide (fun j (hj : j < 68) (h : ws.getD j 0 ≠ 0) => Ac.accV_pos hw (show j < ws.length by omega) h)
  unfold signB
  unfold Ac.W at hlt67
  clear hA hl hw
  generalize ws.getD 67 0 = t at *
  by_cases ht : 9223372036854775808 ≤ t
  · rw [if_pos ht]
    have hb : ((t : Int) / 9223372036854775808 != 0) = true := by simp; omega
    clear ht hlt67
    go_enter Talg.func65, Talg.ntmps65
    go_wp2
    go_ret
    exact ⟨rfl, rfl⟩
  · rw [if_neg ht]
    have hb : ((t : Int) / 9223372036854775808 != 0) = false := by simp; omega
    clear ht hlt67
    generalize hres : (if Ac.accV ws = 0 then (0 : Int) else 1) = res
    have HRes := hide hres
    clear hres
    go_enter Talg.func65, Talg.ntmps65
    go_wp2
    go_loop [3] (fun i => ∃ k : Nat, k ≤ 68 ∧ i = .int .i64 k ∧ Hid (∀ j, j < k → ws.getD j 0 = 0)) (fun i => 68 - (intOf i).toNat)
    case atStart => exact ⟨0, by omega, rfl, fun j hj => by omega⟩
    case round =>
      obtain ⟨k, hk, rfl, HK⟩ := hrel
      by_cases hlt : k < 68
      · have hk' : (k : Int) < 68 := by omega
        have hcell := HC.out k hlt
        by_cases hx : ws.getD k 0 = 0
        · have HN := hide (fun j (hj : j < k + 1) => if h : j < k then HK.out j h else (show j = k by omega) ▸ hx)
          have hb2 : (((ws.getD k 0 : Nat) : Int) != 0) = false := by rw [hx]; rfl
          clear hx
          generalize ws.getD k 0 = x at *
          go_wp2
          go_round
          case rel => exact ⟨k + 1, by omega, by go_num, HN.out⟩
          case measure => simp [intOf]; omega
        · have HN := hide (HP.out k hlt hx)
          have hb2 : (((ws.getD k 0 : Nat) : Int) != 0) = true := by simp only [bne_iff_ne, ne_eq]; omega
          clear hx
          generalize ws.getD k 0 = x at *
          go_wp2
          go_ret
          exact ⟨ret_int (by rw [← HRes.out, if_neg HN.out]), rfl⟩
      · obtain rfl : k = 68 := by omega
        go_wp2
        go_ret
        exact ⟨ret_int (by rw [← HRes.out, if_pos (HZ.out HK.out)]), rfl⟩
/-- The sign of the number that the words stand for. -/
theorem signB_of {ws : List Nat} {z : Int} (h : AccOf ws z) (h1 : -(Ac.half : Int) ≤ z) (h2 : z < Ac.half) : (signB ws < 0 ↔ z < 0) := by
  have ht := Ac.top_neg h.2.1 h.1 h.2.2 h1 h2
  unfold signB
  by_cases hz : z < 0
  · rw [if_pos (ht.2 hz)]; omega
  · rw [if_neg (fun h => hz (ht.1 h))]; split <;> omega
theorem signB_bd (ws : List Nat) : -1 ≤ signB ws ∧ signB ws ≤ 1 := by
  unfold signB; split
  · omega
  · split <;> omega

theorem neg_emod_emod (z M : Int) : (-(z % M)) % M = (-z) % M := by
  rw [Int.emod_def z M, show -(z - M * (z / M)) = -z + M * (z / M) from by omega, Int.add_mul_emod_self_left]
theorem abs_any (g T : Nat) (ws : List Nat) (z : Int) (w : World) (hA : AccB w g T ws) (hz : AccOf ws z) (h1 : -(Ac.half : Int) ≤ z) (h2 : z < Ac.half) :
    Calls Talg.prog 37 #[.pointer (some ⟨g, 0, none⟩)] w fun e w' => e = .returned (.tuple #[]) ∧ ∃ ws', AccB w' g T ws' ∧ AccOf ws' (z.natAbs : Int) ∧ w.grownBy w' (some g) := by
  have HS := hide (sign_any g T ws w hA hz.1 hz.2.1)
  have HN := hide (neg_any g T ws w hA hz.1 hz.2.1)
  have hsg := signB_of hz h1 h2
  by_cases hneg : z < 0
  · have hlt : signB ws < 0 := hsg.2 hneg
    have HD := hide (fun w' (h : Negd w w' g T ws) => show ∃ ws', AccB w' g T ws' ∧ AccOf ws' (z.natAbs : Int) ∧ w.grownBy w' (some g) by
      obtain ⟨ws', a1, a2, a3, a4, a5⟩ := h
      refine ⟨ws', a1, ⟨a2, a3, ?_⟩, a5⟩
      rw [a4, hz.2.2, neg_emod_emod]
      congr 1; omega)
    clear hA hz hsg hneg h1 h2
    generalize signB ws = s at *
    go_enter Talg.func37, Talg.ntmps37
    go_wp2_with (first | (go_at_call 65; refine (Hid.out HS).mono ?_; rintro e w' ⟨rfl, rfl⟩) | (go_at_call 64; refine (Hid.out HN).mono ?_; rintro e w2 ⟨rfl, hq⟩))
    go_end0
    exact ⟨rfl, HD.out _ hq⟩
  · have hlt : ¬ signB ws < 0 := fun h => hneg (hsg.1 h)
    have HD := hide (show ∃ ws', AccB w g T ws' ∧ AccOf ws' (z.natAbs : Int) ∧ w.grownBy w (some g) from ⟨ws, hA, by rw [show ((z.natAbs : Nat) : Int) = z from by omega]; exact hz, gb_refl _ _⟩)
    have hlt' : decide (signB ws < 0) = false := by simp; omega
    clear hA hz hsg hneg h1 h2 HN
    generalize signB ws = s at *
    go_enter Talg.func37, Talg.ntmps37
    go_wp2_with (first | (go_at_call 65; refine (Hid.out HS).mono ?_; rintro e w' ⟨rfl, rfl⟩))
    go_end0
    exact ⟨rfl, HD.out⟩
end Go.Proofs.Ygctal
