import Derived.Test.YgctalSf
namespace Go.Proofs.Ygctal
open Go.RowKit
set_option maxHeartbeats 4000000
set_option linter.unusedVariables false
set_option linter.unusedSimpArgs false

/-! down, spread, joined. -/
theorem or_50 (x y : Nat) (hx : x < 1125899906842624) : bits .or .u64 (x : Int) (IntKind.u64.wrap ((y : Int) * 1125899906842624)) = ((x + y % 16384 * 1125899906842624 : Nat) : Int) := by
  have e : IntKind.u64.wrap ((y : Int) * 1125899906842624) = ((y % 16384 * 1125899906842624 : Nat) : Int) := by rw [IntKind.wrap_u64]; omega
  rw [e, bits_or_u64_nat _ _ (by omega) (by omega)]
  congr 1
  have := Nat.two_pow_add_eq_or_of_lt (i := 50) (b := x) (by omega) (y % 16384)
  rw [Nat.or_comm, Nat.mul_comm (y % 16384), show (1125899906842624 : Nat) = 2 ^ 50 from rfl, ← this]
  omega
theorem Ac.DownRun.start {a : List Nat} (h : a.length = 68) : Ac.DownRun a a 0 := ⟨h, fun k hk => by omega, fun _ _ => rfl⟩
theorem AccOf.nn {a : List Nat} {z : Nat} (h : AccOf a (z : Int)) (hz : z < Ac.W ^ 68) : Ac.accV a = z := by
  have := h.2.2
  generalize Ac.W ^ 68 = P at *
  rw [Int.emod_eq_of_lt (by omega) (by omega)] at this
  omega
theorem down_acc {a : List Nat} {z : Nat} (h : AccOf a (z : Int)) (hz : z < Ac.W ^ 68) : AccOf (Ac.downL a) ((z / 16384 : Nat) : Int) := by
  refine ⟨by rw [Ac.downL_len, h.1], Ac.downL_wd a h.2.1, ?_⟩
  rw [Ac.downL_V, h.nn hz]
  generalize Ac.W ^ 68 = P at *
  exact (Int.emod_eq_of_lt (by omega) (by omega)).symm
set_option maxRecDepth 100000 in
theorem down_any (a : List Nat) (w : World) (hl : a.length = 68) (hw : Ac.Wd a) :
    Calls Talg.prog 76 #[.agg (accArr a), .int .u8 14] w fun e w' => e = .returned (.agg (accArr (Ac.downL a))) ∧ Below w.heap.size w w' := by
  have HL := hide hl
  have HW := hide hw
  have H2 := hide ((AccB.boxed w a 31).alloc (.cells Talg.zeroCells31 31))
  have hB1 := AccB.new (w.alloc (.cells (accArr a) 31))
  rw [show (w.alloc (.cells (accArr a) 31)).heap.size = w.heap.size + 1 from by simp] at hB1
  have H4 := hide hB1
  have HBel := hide (((Below.refl w.heap.size w).alloc (Nat.le_refl _) (.cells (accArr a) 31)).alloc (by simp) (.cells Talg.zeroCells31 31))
  clear hB1 hl hw
  go_enter Talg.func76, Talg.ntmps76
  go_wp2_with fail
  generalize (w.alloc (.cells (accArr a) 31)).alloc (.cells Talg.zeroCells31 31) = w1 at H2 H4 HBel ⊢
  go_loopw [5] (fun jj wr => ∃ (j : Nat) (wsj : List Nat), jj = .int .i64 j ∧ j ≤ 68 ∧ Hid (AccB wr w.heap.size 31 wsj ∧ AccB wr (w.heap.size + 1) 31 zeros68 ∧ Below w.heap.size w wr ∧ Ac.DownRun a wsj j)) (fun jj _ => 68 - (intOf jj).toNat)
  case atStart => exact ⟨0, a, rfl, by omega, H2.out, H4.out, HBel.out, Ac.DownRun.start HL.out⟩
  case round =>
    clear H2 H4 HBel
    obtain ⟨j, wsj, rfl, hj, HG⟩ := hrel
    by_cases hlt : j < 68
    · have hj' : (j : Int) < 68 := by omega
      have hlj := HG.out.2.2.2.len
      have hcj := HG.out.1.cell (show j < wsj.length by omega)
      have hfr := HG.out.1.free j
      have HX := hide (HG.out.2.2.2.rest j (Nat.le_refl _))
      have HD := hide (Ac.downL_get a j (by rw [HL.out]; exact hlt))
      have hxw : a.getD j 0 < 18446744073709551616 := HW.out.get (show j < a.length by rw [HL.out]; exact hlt)
      rw [HX.out] at hcj
      generalize a.getD j 0 = x at *
      by_cases hlt2 : j + 1 < 68
      · have hd : decide ((j : Int) + 1 < 68) = true := by simp; omega
        have hcy := HG.out.1.cell (show j + 1 < wsj.length by omega)
        rw [HG.out.2.2.2.rest (j + 1) (by omega)] at hcy
        generalize a.getD (j + 1) 0 = y at *
        have K1 := hide (HG.out.1.set j (x / 16384))
        have HC0 := hide (show (wr.setCell ⟨w.heap.size, j, none⟩ (.int .u64 ((x / 16384 : Nat) : Int))).cell? ⟨w.heap.size, j, none⟩ = some (.int .u64 ((x / 16384 : Nat) : Int)) by
          rw [K1.out.cell (j := j) (by simp; omega)]; simp [List.getD_eq_getElem?_getD, hlj, hlt])
        have HC1 := hide (show (wr.setCell ⟨w.heap.size, j, none⟩ (.int .u64 ((x / 16384 : Nat) : Int))).cell? ⟨w.heap.size, j + 1, none⟩ = some (.int .u64 (y : Int)) by
          exact (World.cell?_setCell_other wr _ _ _ (by simp)).trans hcy)
        have HF0 := hide (K1.out.free j)
        have HV := hide (or_50 (x / 16384) y (by omega))
        have HAn := hide ((K1.out.set j (x / 16384 + y % 16384 * 1125899906842624)).drew)
        have HZn := hide ((HG.out.2.1.grown (gb_setCell wr w.heap.size j (.int .u64 ((x / 16384 : Nat) : Int))) (by simp)).grown (gb_setCell _ w.heap.size j (.int .u64 ((x / 16384 + y % 16384 * 1125899906842624 : Nat) : Int))) (by simp)).drew
        have HBn := hide ((HG.out.2.2.1.setCell (p := ⟨w.heap.size, j, none⟩) (Nat.le_refl _) (.int .u64 ((x / 16384 : Nat) : Int))).setCell (p := ⟨w.heap.size, j, none⟩) (Nat.le_refl _) (.int .u64 ((x / 16384 + y % 16384 * 1125899906842624 : Nat) : Int))).drew
        have hrun := HG.out.2.2.2.step hlt HD.out
        have HRn := hide (show Ac.DownRun a ((wsj.set j (x / 16384)).set j (x / 16384 + y % 16384 * 1125899906842624)) (j + 1) by rw [List.set_set]; exact hrun)
        have ex : ((x / 16384 : Nat) : Int) = (x : Int) / 16384 := by omega
        clear hrun HG hcy K1
        go_wp2_with fail
        rw [← ex]
        refine down_r6 _ w.heap.size j (x / 16384) y hlt2 HC0.out HC1.out HF0.out _ _ _ _ _ _ _ _ _ _ _ _ _ _ _ _ _ _ _ _ _ _ _ _ _ _ _ _ _ ?_
        intro v19 v20 v21 v22 v23 v24 v25 v26 v27 v28 v29 v30
        rw [HV.out]
        generalize ((wr.setCell ⟨w.heap.size, j, none⟩ (.int .u64 ((x / 16384 : Nat) : Int))).setCell ⟨w.heap.size, j, none⟩ (.int .u64 ((x / 16384 + y % 16384 * 1125899906842624 : Nat) : Int))).drew = wn at HAn HZn HBn ⊢
        go_wp2_with fail
        go_roundw
        case rel => exact ⟨j + 1, _, by go_num, by omega, HAn.out, HZn.out, HBn.out, HRn.out⟩
        case measure => simp [intOf]; omega
      · obtain rfl : j = 67 := by omega
        rw [show a.getD (67 + 1) 0 = 0 from by rw [List.getD_eq_getElem?_getD, List.getElem?_eq_none (by rw [HL.out]; omega)]; rfl] at HD
        have HAn := hide (HG.out.1.set 67 (x / 16384))
        have HZn := hide (HG.out.2.1.grown (gb_setCell wr w.heap.size 67 (.int .u64 ((x / 16384 : Nat) : Int))) (by simp))
        have HBn := hide (HG.out.2.2.1.setCell (p := ⟨w.heap.size, 67, none⟩) (Nat.le_refl _) (.int .u64 ((x / 16384 : Nat) : Int)))
        have HRn := hide (HG.out.2.2.2.step hlt (HD.out.trans (show _ = x / 16384 by omega)))
        have ex : (x : Int) / 16384 = ((x / 16384 : Nat) : Int) := by omega
        generalize x / 16384 = xx at *
        clear HG HD
        go_wp2_with fail
        go_roundw
        case rel => exact ⟨68, _, rfl, by omega, HAn.out, HZn.out, HBn.out, HRn.out⟩
        case measure => simp [intOf]
    · obtain rfl : j = 68 := by omega
      have HE := hide (HG.out.2.2.2.all HL.out)
      have N2 := hide HG.out.1
      have N4 := hide HG.out.2.1
      have NB := hide HG.out.2.2.1
      have hln := HG.out.2.2.2.len
      clear HG
      go_wp2_with (first | (refine wpList_load_row rfl 31 _ rfl w.heap.size rfl 31 (accArr wsj) (0, 0) _ N2.out.heap Talg.underlying31 rfl (by rw [accArr_size, hln]; exact acc_info) ?_) | (refine wpList_store_row rfl 31 _ _ rfl (w.heap.size + 1) (accArr wsj) rfl rfl 31 (accArr zeros68) N4.out.heap (by rw [accArr_size, hln]; exact acc_info) (by rw [accArr_size, accArr_size, hln]; rfl) (accArr_one _) ?_))
      have HBn := hide (NB.out.grown (gb_setRow wr (w.heap.size + 1) (accArr wsj)) NB.out.size (fun q hq => by simp at hq; omega))
      exact bodyPost_ret (v := .agg (accArr wsj)) (results_cell_row Talg.results76 _ _ (w.heap.size + 1) 31 (accArr wsj) (0, 0) _ rfl (N4.out.setRow wsj).heap Talg.underlying31 rfl (by rw [accArr_size, hln]; exact acc_info)) rfl ⟨by rw [HE.out], HBn.out⟩
end Go.Proofs.Ygctal
