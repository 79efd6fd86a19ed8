import Derived.Test.YgctalWu
import Derived.Test.YgctalWs
namespace Go.Proofs.Ygctal
open Go.RowKit
set_option maxHeartbeats 2000000
set_option linter.unusedVariables false
set_option linter.unusedSimpArgs false

/-! accOf, accProd, finite, finiteC. -/
set_option maxRecDepth 100000 in
theorem accOf_any (x : Nat) (w : World) (hx : Fl.Fin x) :
    Calls Talg.prog 35 #[.float .f64 x] w fun e w' => ∃ ws, e = .returned (.agg (accArr ws)) ∧ AccOf ws (Fl.V x * (sc : Int)) ∧ Below w.heap.size w w' := by
  have HB0 := hide ((AccB.new w).alloc (.cells Talg.zeroCells31 31))
  have hB1 := AccB.new (w.alloc (.cells Talg.zeroCells31 31))
  rw [show (w.alloc (.cells Talg.zeroCells31 31)).heap.size = w.heap.size + 1 from by simp] at hB1
  have HB1 := hide hB1
  clear hB1
  have HBel := hide (((Below.refl w.heap.size w).alloc (Nat.le_refl _) (.cells Talg.zeroCells31 31)).alloc (by simp) (.cells Talg.zeroCells31 31))
  have HF := hide hx
  clear hx
  go_enter Talg.func35, Talg.ntmps35
  go_wp2_with fail
  generalize (w.alloc (.cells Talg.zeroCells31 31)).alloc (.cells Talg.zeroCells31 31) = w1 at HB0 HB1 HBel ⊢
  refine (addFloat_any (w.heap.size + 1) 31 x zeros68 w1 HF.out HB1.out AccOf.zero.1 AccOf.zero.2.1).mono ?_
  rintro e w2 ⟨rfl, hp⟩
  obtain ⟨ws, p1, p2, p3⟩ := AccOf.zero.placed hp
  rw [Int.zero_add] at p2
  have H1 := hide (HB0.out.grown p3 (by simp))
  have H2 := hide p1
  have H3 := hide p2
  have H4 := hide (HBel.out.grown p3 HBel.out.size (fun q hq => by simp at hq; omega))
  clear HB0 HB1 HBel HF hp p1 p2 p3
  go_wp2_with (first | (refine wpList_load_row rfl 31 _ rfl (w.heap.size + 1) rfl 31 (accArr ws) (0, 0) _ H2.out.heap Talg.underlying31 rfl (by rw [accArr_size, H3.out.1]; exact acc_info) ?_) | (refine wpList_store_row rfl 31 _ _ rfl w.heap.size (accArr ws) rfl rfl 31 (accArr zeros68) H1.out.heap (by rw [accArr_size, H3.out.1]; exact acc_info) (by rw [accArr_size, accArr_size, H3.out.1]; rfl) (accArr_one _) ?_))
  have HBn := hide (H4.out.grown (gb_setRow w2 w.heap.size (accArr ws)) H4.out.size (fun q hq => by simp at hq; omega))
  exact bodyPost_ret (v := .agg (accArr ws)) (results_cell_row Talg.results35 _ _ w.heap.size 31 (accArr ws) (0, 0) _ rfl (H1.out.setRow ws).heap Talg.underlying31 rfl (by rw [accArr_size, H3.out.1]; exact acc_info)) rfl ⟨ws, rfl, H3.out, HBn.out⟩
set_option maxRecDepth 100000 in
theorem accProd_any (x y : Nat) (w : World) (hx : Fl.Fin x) (hy : Fl.Fin y) :
    Calls Talg.prog 68 #[.float .f64 x, .float .f64 y] w fun e w' => ∃ ws, e = .returned (.agg (accArr ws)) ∧ AccOf ws (Fl.V x * Fl.V y) ∧ Below w.heap.size w w' := by
  have HB0 := hide ((AccB.new w).alloc (.cells Talg.zeroCells31 31))
  have hB1 := AccB.new (w.alloc (.cells Talg.zeroCells31 31))
  rw [show (w.alloc (.cells Talg.zeroCells31 31)).heap.size = w.heap.size + 1 from by simp] at hB1
  have HB1 := hide hB1
  clear hB1
  have HBel := hide (((Below.refl w.heap.size w).alloc (Nat.le_refl _) (.cells Talg.zeroCells31 31)).alloc (by simp) (.cells Talg.zeroCells31 31))
  have HF := hide hx
  have HG := hide hy
  clear hx hy
  go_enter Talg.func68, Talg.ntmps68
  go_wp2_with fail
  generalize (w.alloc (.cells Talg.zeroCells31 31)).alloc (.cells Talg.zeroCells31 31) = w1 at HB0 HB1 HBel ⊢
  refine (addProd_any (w.heap.size + 1) 31 x y zeros68 w1 HF.out HG.out HB1.out AccOf.zero.1 AccOf.zero.2.1).mono ?_
  rintro e w2 ⟨rfl, hp⟩
  obtain ⟨ws, p1, p2, p3⟩ := AccOf.zero.placed hp
  rw [Int.zero_add] at p2
  have H1 := hide (HB0.out.grown p3 (by simp))
  have H2 := hide p1
  have H3 := hide p2
  have H4 := hide (HBel.out.grown p3 HBel.out.size (fun q hq => by simp at hq; omega))
  clear HB0 HB1 HBel HF HG hp p1 p2 p3
  go_wp2_with (first | (refine wpList_load_row rfl 31 _ rfl (w.heap.size + 1) rfl 31 (accArr ws) (0, 0) _ H2.out.heap Talg.underlying31 rfl (by rw [accArr_size, H3.out.1]; exact acc_info) ?_) | (refine wpList_store_row rfl 31 _ _ rfl w.heap.size (accArr ws) rfl rfl 31 (accArr zeros68) H1.out.heap (by rw [accArr_size, H3.out.1]; exact acc_info) (by rw [accArr_size, accArr_size, H3.out.1]; rfl) (accArr_one _) ?_))
  have HBn := hide (H4.out.grown (gb_setRow w2 w.heap.size (accArr ws)) H4.out.size (fun q hq => by simp at hq; omega))
  exact bodyPost_ret (v := .agg (accArr ws)) (results_cell_row Talg.results68 _ _ w.heap.size 31 (accArr ws) (0, 0) _ rfl (H1.out.setRow ws).heap Talg.underlying31 rfl (by rw [accArr_size, H3.out.1]; exact acc_info)) rfl ⟨ws, rfl, H3.out, HBn.out⟩
theorem finite_any (x : Nat) (w : World) (hx : Fl.Fin x) :
    Calls Talg.prog 33 #[.float .f64 x] w fun e w' => e = .returned (.bool true) ∧ w' = w := by
  have HS := hide (fun wx => split_any x hx.1 wx)
  have hc := cls_le hx
  generalize negOf x = s at *
  generalize manOf x = m at *
  generalize expOf x = ex at *
  generalize clsOf x = c at *
  obtain ⟨h0, h1⟩ := hc
  clear hx
  go_enter Talg.func33, Talg.ntmps33
  go_wp2_with (go_at_call 57; refine (Hid.out HS _).mono ?_; rintro e w1 ⟨rfl, rfl⟩)
  go_ret
  exact ⟨ret_bool (by simp), rfl⟩
theorem finiteC_any (x y : Nat) (w : World) (hx : Fl.Fin x) (hy : Fl.Fin y) :
    Calls Talg.prog 70 #[.complex .f64 x y] w fun e w' => e = .returned (.bool true) ∧ w' = w := by
  have HX := hide (fun wx => finite_any x wx hx)
  have HY := hide (fun wx => finite_any y wx hy)
  clear hx hy
  go_enter Talg.func70, Talg.ntmps70
  go_wp2_with fail
  refine (Hid.out HX _).mono ?_
  rintro e w1 ⟨rfl, rfl⟩
  go_wp2_with fail
  refine (Hid.out HY _).mono ?_
  rintro e w1 ⟨rfl, rfl⟩
  go_wp2
  go_ret
  exact ⟨rfl, rfl⟩
end Go.Proofs.Ygctal
