import Derived.Test.YgctalSh
namespace Go.Proofs.Ygctal
open Go.RowKit
set_option maxHeartbeats 4000000
set_option linter.unusedVariables false
set_option linter.unusedSimpArgs false

/-! joined. -/
/-- The bound on both points of a butterfly. -/
def jnd (u v o : Nat) (plain : Bool) : Nat := (if plain then v else spr v) + u + o
set_option maxRecDepth 100000 in
theorem joined_plain (a b co : List Nat) (u v o go : Nat) (w : World) (zu : AccOf a (u : Int)) (zv : AccOf b (v : Int)) (zo : AccOf co (o : Int)) (hO : AccB w go 31 co) :
    Calls Talg.prog 47 #[.agg (accArr a), .agg (accArr b), .bool true, .pointer (some ⟨go, 0, none⟩)] w fun e w' => ∃ c, e = .returned (.agg (accArr c)) ∧ AccOf c ((jnd u v o true : Nat) : Int) ∧ Below w.heap.size w w' := by
  have HU := hide zu
  have HV := hide zv
  have HO := hide zo
  have HOB := hide hO
  have hob := Blk.lt hO
  have sz1 : (w.alloc (.cells (accArr a) 31)).heap.size = w.heap.size + 1 := by simp
  have sz2 : ((w.alloc (.cells (accArr a) 31)).alloc (.cells (accArr b) 31)).heap.size = w.heap.size + 2 := by simp
  have H4 := hide (((AccB.boxed w a 31).alloc (.cells (accArr b) 31)).alloc (.cells Talg.zeroCells31 31))
  have hB1 := (AccB.boxed (w.alloc (.cells (accArr a) 31)) b 31).alloc (.cells Talg.zeroCells31 31)
  rw [sz1] at hB1
  have H5 := hide hB1
  have hB2 := AccB.new ((w.alloc (.cells (accArr a) 31)).alloc (.cells (accArr b) 31))
  rw [sz2] at hB2
  have H8 := hide hB2
  have HOw := hide (((hO.alloc (.cells (accArr a) 31)).alloc (.cells (accArr b) 31)).alloc (.cells Talg.zeroCells31 31))
  have HBel := hide ((((Below.refl w.heap.size w).alloc (Nat.le_refl _) (.cells (accArr a) 31)).alloc (by simp) (.cells (accArr b) 31)).alloc (by simp; omega) (.cells Talg.zeroCells31 31))
  clear hB1 hB2 zu zv zo hO sz1 sz2
  go_enter Talg.func47, Talg.ntmps47
  go_wp2_with fail
  generalize ((w.alloc (.cells (accArr a) 31)).alloc (.cells (accArr b) 31)).alloc (.cells Talg.zeroCells31 31) = w1 at H4 H5 H8 HOw HBel ⊢
  refine (addAcc_any (w.heap.size + 1) 31 w.heap.size 31 _ _ _ _ w1 H5.out H4.out (by omega) HV.out HU.out).mono ?_
  rintro e w2 ⟨rfl, a2, hA2, hz2, hg2⟩
  have K5 := hide hA2
  have KZ := hide hz2
  have K8 := hide (H8.out.grown hg2 (by simp))
  have KO := hide (HOw.out.grown hg2 (by simp; omega))
  have KB := hide (HBel.out.grown hg2 HBel.out.size (fun q hq => by simp at hq; omega))
  clear H4 H5 H8 HOw HBel hA2 hz2 hg2
  go_wp2_with fail
  refine (addAcc_any (w.heap.size + 1) 31 go 31 _ _ _ _ w2 K5.out KO.out (by omega) KZ.out HO.out).mono ?_
  rintro e w3 ⟨rfl, a3, hA3, hz3, hg3⟩
  have hz4 : AccOf a3 ((jnd u v o true : Nat) : Int) := by
    have e : (v : Int) + (u : Int) + (o : Int) = ((jnd u v o true : Nat) : Int) := by unfold jnd; simp
    rwa [e] at hz3
  have N5 := hide hA3
  have NZ := hide hz4
  have N8 := hide (K8.out.grown hg3 (by simp))
  have NB := hide (KB.out.grown hg3 KB.out.size (fun q hq => by simp at hq; omega))
  clear K5 K8 KO KB KZ hA3 hz3 hz4 hg3
  go_wp2_with (first | (refine wpList_load_row rfl 31 _ rfl (w.heap.size + 1) rfl 31 (accArr a3) (0, 0) _ N5.out.heap Talg.underlying31 rfl (by rw [accArr_size, NZ.out.1]; exact acc_info) ?_) | (refine wpList_store_row rfl 31 _ _ rfl (w.heap.size + 2) (accArr a3) rfl rfl 31 (accArr zeros68) N8.out.heap (by rw [accArr_size, NZ.out.1]; exact acc_info) (by rw [accArr_size, accArr_size, NZ.out.1]; rfl) (accArr_one _) ?_))
  have HBn := hide (NB.out.grown (gb_setRow w3 (w.heap.size + 2) (accArr a3)) NB.out.size (fun q hq => by simp at hq; omega))
  exact bodyPost_ret (v := .agg (accArr a3)) (results_cell_row Talg.results47 _ _ (w.heap.size + 2) 31 (accArr a3) (0, 0) _ rfl (N8.out.setRow a3).heap Talg.underlying31 rfl (by rw [accArr_size, NZ.out.1]; exact acc_info)) rfl ⟨a3, rfl, NZ.out, HBn.out⟩
set_option maxRecDepth 100000 in
theorem joined_spread (a b co : List Nat) (u v o go : Nat) (w : World) (hv : v < 1208925819614629174706176) (zu : AccOf a (u : Int)) (zv : AccOf b (v : Int)) (zo : AccOf co (o : Int)) (hO : AccB w go 31 co) :
    Calls Talg.prog 47 #[.agg (accArr a), .agg (accArr b), .bool false, .pointer (some ⟨go, 0, none⟩)] w fun e w' => ∃ c, e = .returned (.agg (accArr c)) ∧ AccOf c ((jnd u v o false : Nat) : Int) ∧ Below w.heap.size w w' := by
  have HU := hide zu
  have HV := hide zv
  have HO := hide zo
  have HOB := hide hO
  have hob := Blk.lt hO
  have sz1 : (w.alloc (.cells (accArr a) 31)).heap.size = w.heap.size + 1 := by simp
  have sz2 : ((w.alloc (.cells (accArr a) 31)).alloc (.cells (accArr b) 31)).heap.size = w.heap.size + 2 := by simp
  have H4 := hide (((AccB.boxed w a 31).alloc (.cells (accArr b) 31)).alloc (.cells Talg.zeroCells31 31))
  have hB1 := (AccB.boxed (w.alloc (.cells (accArr a) 31)) b 31).alloc (.cells Talg.zeroCells31 31)
  rw [sz1] at hB1
  have H5 := hide hB1
  have hB2 := AccB.new ((w.alloc (.cells (accArr a) 31)).alloc (.cells (accArr b) 31))
  rw [sz2] at hB2
  have H8 := hide hB2
  have HOw := hide (((hO.alloc (.cells (accArr a) 31)).alloc (.cells (accArr b) 31)).alloc (.cells Talg.zeroCells31 31))
  have HBel := hide ((((Below.refl w.heap.size w).alloc (Nat.le_refl _) (.cells (accArr a) 31)).alloc (by simp) (.cells (accArr b) 31)).alloc (by simp; omega) (.cells Talg.zeroCells31 31))
  clear hB1 hB2 zu zv zo hO sz1 sz2
  go_enter Talg.func47, Talg.ntmps47
  have hbl : b.length = 68 := HV.out.1
  go_wp2_with (refine wpList_load_row rfl 31 _ rfl (w.heap.size + 1) rfl 31 (accArr b) (0, 0) _ H5.out.heap Talg.underlying31 rfl (by rw [accArr_size, hbl]; exact acc_info) ?_)
  generalize ((w.alloc (.cells (accArr a) 31)).alloc (.cells (accArr b) 31)).alloc (.cells Talg.zeroCells31 31) = w0 at H4 H5 H8 HOw HBel ⊢
  refine (spread_any b v w0 hv HV.out).mono ?_
  rintro e wa ⟨b', rfl, hz', hb'⟩
  have hl4 := Blk.lt H4.out
  have hl5 := Blk.lt H5.out
  have hl8 := Blk.lt H8.out
  have hlo := Blk.lt HOw.out
  have G4 := hide (H4.out.below hb' hl4)
  have G5 := hide (H5.out.below hb' hl5)
  have G8 := hide (H8.out.below hb' hl8)
  have GO := hide (HOw.out.below hb' hlo)
  have GB := hide (HBel.out.trans (hb'.mono HBel.out.size))
  have HV2 := hide hz'
  clear H4 H5 H8 HOw HBel hb' hz' HV hl4 hl5 hl8 hlo
  go_wp2_with (refine wpList_store_row rfl 31 _ _ rfl (w.heap.size + 1) (accArr b') rfl rfl 31 (accArr b) G5.out.heap (by rw [accArr_size, HV2.out.1]; exact acc_info) (by rw [accArr_size, accArr_size, HV2.out.1, hbl]) (accArr_one _) ?_)
  have H4 := hide (G4.out.grown (gb_setRow _ (w.heap.size + 1) (accArr b')) (by simp))
  have H5 := hide (G5.out.setRow b')
  have H8 := hide (G8.out.grown (gb_setRow _ (w.heap.size + 1) (accArr b')) (by simp))
  have HOw := hide (GO.out.grown (gb_setRow _ (w.heap.size + 1) (accArr b')) (by simp; omega))
  have HBel := hide (GB.out.grown (gb_setRow _ (w.heap.size + 1) (accArr b')) GB.out.size (fun q hq => by simp at hq; omega))
  have HV := HV2
  clear G4 G5 G8 GO GB HV2
  generalize wa.setRow (w.heap.size + 1) (accArr b') = w1 at H4 H5 H8 HOw HBel ⊢
  refine (addAcc_any (w.heap.size + 1) 31 w.heap.size 31 _ _ _ _ w1 H5.out H4.out (by omega) HV.out HU.out).mono ?_
  rintro e w2 ⟨rfl, a2, hA2, hz2, hg2⟩
  have K5 := hide hA2
  have KZ := hide hz2
  have K8 := hide (H8.out.grown hg2 (by simp))
  have KO := hide (HOw.out.grown hg2 (by simp; omega))
  have KB := hide (HBel.out.grown hg2 HBel.out.size (fun q hq => by simp at hq; omega))
  clear H4 H5 H8 HOw HBel hA2 hz2 hg2
  go_wp2_with fail
  refine (addAcc_any (w.heap.size + 1) 31 go 31 _ _ _ _ w2 K5.out KO.out (by omega) KZ.out HO.out).mono ?_
  rintro e w3 ⟨rfl, a3, hA3, hz3, hg3⟩
  have hz4 : AccOf a3 ((jnd u v o false : Nat) : Int) := by
    have e : ((spr v : Nat) : Int) + (u : Int) + (o : Int) = ((jnd u v o false : Nat) : Int) := by unfold jnd; simp
    rwa [e] at hz3
  have N5 := hide hA3
  have NZ := hide hz4
  have N8 := hide (K8.out.grown hg3 (by simp))
  have NB := hide (KB.out.grown hg3 KB.out.size (fun q hq => by simp at hq; omega))
  clear K5 K8 KO KB KZ hA3 hz3 hz4 hg3
  go_wp2_with (first | (refine wpList_load_row rfl 31 _ rfl (w.heap.size + 1) rfl 31 (accArr a3) (0, 0) _ N5.out.heap Talg.underlying31 rfl (by rw [accArr_size, NZ.out.1]; exact acc_info) ?_) | (refine wpList_store_row rfl 31 _ _ rfl (w.heap.size + 2) (accArr a3) rfl rfl 31 (accArr zeros68) N8.out.heap (by rw [accArr_size, NZ.out.1]; exact acc_info) (by rw [accArr_size, accArr_size, NZ.out.1]; rfl) (accArr_one _) ?_))
  have HBn := hide (NB.out.grown (gb_setRow w3 (w.heap.size + 2) (accArr a3)) NB.out.size (fun q hq => by simp at hq; omega))
  exact bodyPost_ret (v := .agg (accArr a3)) (results_cell_row Talg.results47 _ _ (w.heap.size + 2) 31 (accArr a3) (0, 0) _ rfl (N8.out.setRow a3).heap Talg.underlying31 rfl (by rw [accArr_size, NZ.out.1]; exact acc_info)) rfl ⟨a3, rfl, NZ.out, HBn.out⟩
end Go.Proofs.Ygctal
