import Derived.Test.YgctalSg
namespace Go.Proofs.Ygctal
open Go.RowKit
set_option maxHeartbeats 4000000
set_option linter.unusedVariables false
set_option linter.unusedSimpArgs false

/-! spread, joined. -/
def spr (z : Nat) : Nat := (z * 23171 + 16383) / 16384
theorem big68 {z : Nat} (h : z < 1208925819614629174706176) : z * 23171 + 16383 < Ac.W ^ 68 := by
  have := W68
  omega
set_option maxRecDepth 100000 in
theorem spread_any (a : List Nat) (z : Nat) (w : World) (hz : z < 1208925819614629174706176) (za : AccOf a (z : Int)) :
    Calls Talg.prog 71 #[.agg (accArr a)] w fun e w' => ∃ b, e = .returned (.agg (accArr b)) ∧ AccOf b ((spr z : Nat) : Int) ∧ Below w.heap.size w w' := by
  have HZ := hide za
  have b2 : Talg.zeroCells31.setIfInBounds 0 (.int .u64 16383) = accArr (one68 16383 0) := zset_one 16383
  have H1 := hide ((AccB.boxed w a 31).alloc (.cells Talg.zeroCells31 31))
  have hB1 := AccB.new (w.alloc (.cells (accArr a) 31))
  rw [show (w.alloc (.cells (accArr a) 31)).heap.size = w.heap.size + 1 from by simp] at hB1
  have H2 := hide hB1
  have HBel := hide (((Below.refl w.heap.size w).alloc (Nat.le_refl _) (.cells (accArr a) 31)).alloc (by simp) (.cells Talg.zeroCells31 31))
  clear hB1 za
  go_enter Talg.func71, Talg.ntmps71
  go_wp2_with fail
  generalize (w.alloc (.cells (accArr a) 31)).alloc (.cells Talg.zeroCells31 31) = w1 at H1 H2 HBel ⊢
  refine (mulSmall_any w.heap.size 31 a z w1 H1.out HZ.out).mono ?_
  rintro e w2 ⟨rfl, a2, hA2, hz2, hg2⟩
  have hlt : w.heap.size + 1 < w2.heap.size := Nat.lt_of_lt_of_le (Blk.lt H2.out) hg2.size
  have L1 := hide (hA2.alloc (.cells Talg.zeroCells31 31))
  have L2 := hide ((H2.out.grown hg2 (by simp)).alloc (.cells Talg.zeroCells31 31))
  have LB := hide ((HBel.out.grown hg2 HBel.out.size (fun q hq => by simp at hq; omega)).alloc (by omega) (.cells Talg.zeroCells31 31))
  have L3 := hide (AccB.new w2)
  have LZ := hide hz2
  clear H1 H2 HBel hA2 hg2 hz2
  go_wp2_with (refine wpList_store_row rfl 31 _ _ rfl w2.heap.size (accArr (one68 16383 0)) rfl rfl 31 (accArr zeros68) L3.out.heap (by rw [accArr_size, one68_len]; exact acc_info) (by rw [accArr_size, accArr_size, one68_len]; rfl) (accArr_one _) ?_)
  have M1 := hide (L1.out.grown (gb_setRow _ w2.heap.size (accArr (one68 16383 0))) (by simp; omega))
  have M2 := hide (L2.out.grown (gb_setRow _ w2.heap.size (accArr (one68 16383 0))) (by simp; omega))
  have M3 := hide (L3.out.setRow (one68 16383 0))
  have MB := hide (LB.out.grown (gb_setRow _ w2.heap.size (accArr (one68 16383 0))) LB.out.size (fun q hq => by simp at hq; omega))
  clear L1 L2 L3 LB
  generalize (w2.alloc (.cells Talg.zeroCells31 31)).setRow w2.heap.size (accArr (one68 16383 0)) = w3 at M1 M2 M3 MB ⊢
  refine (addAcc_any w.heap.size 31 w2.heap.size 31 _ _ _ _ w3 M1.out M3.out (by omega) LZ.out (acc_one 16383 (by omega))).mono ?_
  rintro e w4 ⟨rfl, b, hA4, hz4, hg4⟩
  have hz5 : AccOf b ((z * 23171 + 16383 : Nat) : Int) := by
    have : (z : Int) * (23171 : Nat) + (16383 : Nat) = ((z * 23171 + 16383 : Nat) : Int) := by omega
    rwa [this] at hz4
  have N1 := hide hA4
  have N2 := hide (M2.out.grown hg4 (by simp))
  have NZ := hide hz5
  have NB := hide (MB.out.grown hg4 MB.out.size (fun q hq => by simp at hq; omega))
  have hl4 := Blk.lt hA4
  have hl5 : w.heap.size + 1 < w4.heap.size := Blk.lt N2.out
  clear M1 M2 M3 MB hA4 hz4 hz5 hg4
  go_wp2_with (refine wpList_load_row rfl 31 _ rfl w.heap.size rfl 31 (accArr b) (0, 0) _ N1.out.heap Talg.underlying31 rfl (by rw [accArr_size, NZ.out.1]; exact acc_info) ?_)
  refine (down_any b w4 NZ.out.1 NZ.out.2.1).mono ?_
  rintro e w5 ⟨rfl, hb5⟩
  have HR := hide (down_acc NZ.out (big68 hz))
  have O2 := hide (N2.out.below hb5 hl5)
  have OB := hide (NB.out.trans (hb5.mono (by omega)))
  clear N1 N2 NB NZ hb5
  generalize Ac.downL b = d at *
  go_wp2_with (refine wpList_store_row rfl 31 _ _ rfl (w.heap.size + 1) (accArr d) rfl rfl 31 (accArr zeros68) O2.out.heap (by rw [accArr_size, HR.out.1]; exact acc_info) (by rw [accArr_size, accArr_size, HR.out.1]; rfl) (accArr_one _) ?_)
  have HBn := hide (OB.out.grown (gb_setRow w5 (w.heap.size + 1) (accArr d)) OB.out.size (fun q hq => by simp at hq; omega))
  exact bodyPost_ret (v := .agg (accArr d)) (results_cell_row Talg.results71 _ _ (w.heap.size + 1) 31 (accArr d) (0, 0) _ rfl (O2.out.setRow d).heap Talg.underlying31 rfl (by rw [accArr_size, HR.out.1]; exact acc_info)) rfl ⟨d, rfl, HR.out, HBn.out⟩
end Go.Proofs.Ygctal
