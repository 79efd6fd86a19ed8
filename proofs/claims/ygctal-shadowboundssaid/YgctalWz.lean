import Derived.Test.YgctalWy
namespace Go.Proofs.Ygctal
open Go.RowKit
set_option maxHeartbeats 2000000
set_option linter.unusedVariables false
set_option linter.unusedSimpArgs false

/-! halfDefects. -/
theorem AccB.below {w w' : World} {g T B : Nat} {ws : List Nat} (h : AccB w g T ws) (hb : Below B w w') (hg : g < B) : AccB w' g T ws := Blk.below h hb hg
theorem results_two_acc {fn : Func} {p q u : Tmp} {ty : TypeId} (h : fn.results = #[.cell p ty, .cell q ty, .tmp u]) (tmps : Array Value) (P : Program) (w : World) (g0 g1 : Nat) (A B v : Value)
    (hp : tmps.getD p undef = .pointer (some ⟨g0, 0, none⟩)) (hq : tmps.getD q undef = .pointer (some ⟨g1, 0, none⟩)) (hu : tmps.getD u undef = v)
    (hA : (loadVar ty ⟨g0, 0, none⟩).run P w = .ok A w) (hB : (loadVar ty ⟨g1, 0, none⟩).run P w = .ok B w) : (results fn tmps).run P w = .ok (.tuple #[A, B, v]) w := by
  have hp' : tmps[p]?.getD undef = .pointer (some ⟨g0, 0, none⟩) := by simpa using hp
  have hq' : tmps[q]?.getD undef = .pointer (some ⟨g1, 0, none⟩) := by simpa using hq
  have hu' : tmps[u]?.getD undef = v := by simpa using hu
  simp [results, h, hp', hq', hu', asAddr, hA, hB]
theorem fin_minus : Fl.Fin 13830554455654793216 := by unfold Fl.Fin Fl.rung; decide
set_option maxRecDepth 100000 in
theorem half_any (t re1 im1 re2 im2 s n1 : Nat) (w : World) (ht : (t : Int) + 1 < 256)
    (HB1 : Hid (∀ wx, Calls Talg.prog 41 #[.int .u8 (t : Int)] wx fun e w' => e = .returned (.complex .f64 re1 im1) ∧ w' = wx))
    (HB2 : Hid (∀ wx, Calls Talg.prog 41 #[.int .u8 ((t : Int) + 1)] wx fun e w' => e = .returned (.complex .f64 re2 im2) ∧ w' = wx))
    (hns : Op.negFloat .f64 im2 = s) (hnn : Op.negFloat .f64 re1 = n1)
    (f1 : Fl.Fin re1) (f2 : Fl.Fin im1) (f3 : Fl.Fin re2) (f4 : Fl.Fin im2) (f5 : Fl.Fin s) (f6 : Fl.Fin n1) (hc : 0 < Fl.V re2) (hs : 0 < Fl.V s) :
    Calls Talg.prog 42 #[.int .u8 (t : Int)] w fun e w' => ∃ a b, e = .returned (.tuple #[.agg (accArr a), .agg (accArr b), .bool true]) ∧ AccOf a (Fl.V re2 * Fl.V re2 + Fl.V re2 * Fl.V re2 + Fl.V 13830554455654793216 * (sc : Int) + Fl.V n1 * (sc : Int)) ∧ AccOf b (Fl.V s * Fl.V re2 + Fl.V s * Fl.V re2 + Fl.V im1 * (sc : Int)) ∧ Below w.heap.size w w' := by
  have HB0 := hide ((AccB.new w).alloc (.cells Talg.zeroCells31 31))
  have hB1 := AccB.new (w.alloc (.cells Talg.zeroCells31 31))
  rw [show (w.alloc (.cells Talg.zeroCells31 31)).heap.size = w.heap.size + 1 from by simp] at hB1
  have HB1' := hide hB1
  clear hB1
  have HBel := hide (((Below.refl w.heap.size w).alloc (Nat.le_refl _) (.cells Talg.zeroCells31 31)).alloc (by simp) (.cells Talg.zeroCells31 31))
  have hr2 : ∀ wx : World, (Op.unary .neg (.float .f64 im2)).run Talg.prog wx = .ok (.float .f64 s) wx := by intro wx; rw [← hns]; rfl
  have hr1 : ∀ wx : World, (Op.unary .neg (.float .f64 re1)).run Talg.prog wx = .ok (.float .f64 n1) wx := by intro wx; rw [← hnn]; rfl
  have hgc := gt_zero f3
  have hgs := gt_zero f5
  rw [decide_eq_true hc] at hgc
  rw [decide_eq_true hs] at hgs
  have HF := hide (And.intro f1 (And.intro f2 (And.intro f3 (And.intro f4 (And.intro f5 f6)))))
  clear hns hnn f1 f2 f3 f4 f5 f6 hc hs
  have hg01 : w.heap.size ≠ w.heap.size + 1 := by omega
  go_enter Talg.func42, Talg.ntmps42
  go_wp2_with fail
  generalize (w.alloc (.cells Talg.zeroCells31 31)).alloc (.cells Talg.zeroCells31 31) = w1 at HB0 HB1' HBel ⊢
  refine (HB1.out _).mono ?_
  rintro e w' ⟨rfl, rfl⟩
  go_wp2_with fail
  refine (HB2.out _).mono ?_
  rintro e w' ⟨rfl, rfl⟩
  go_wp2_with fail
  refine (accProd_any re2 re2 _ HF.out.2.2.1 HF.out.2.2.1).mono ?_
  rintro e w2 ⟨a, rfl, za, hb⟩
  have hsz := HBel.out.size
  have hlt0 := Blk.lt HB0.out
  have hlt1 := Blk.lt HB1'.out
  have H0 := hide (HB0.out.below hb hlt0)
  have H1 := hide (HB1'.out.below hb hlt1)
  have HL := hide (HBel.out.trans (hb.mono hsz))
  have HA := hide za
  clear HB1 HB2 HB0 HB1' HBel hb hsz hlt0 hlt1 za
  go_wp2_with (refine wpList_store_row rfl 31 _ _ rfl w.heap.size (accArr a) rfl rfl 31 (accArr zeros68) H0.out.heap (by rw [accArr_size, HA.out.1]; exact acc_info) (by rw [accArr_size, accArr_size, HA.out.1]; rfl) (accArr_one _) ?_)
  have H0' := hide (H0.out.setRow a)
  have H1' := hide (H1.out.grown (gb_setRow w2 w.heap.size (accArr a)) (by simp))
  have HL' := hide (HL.out.grown (gb_setRow w2 w.heap.size (accArr a)) HL.out.size (fun q hq => by simp at hq; omega))
  clear H0 H1 HL
  generalize w2.setRow w.heap.size (accArr a) = w3 at H0' H1' HL' ⊢
  refine (addProd_any w.heap.size 31 re2 re2 a w3 HF.out.2.2.1 HF.out.2.2.1 H0'.out HA.out.1 HA.out.2.1).mono ?_
  rintro e w4 ⟨rfl, hp⟩
  obtain ⟨a2, p1, p2, p3⟩ := HA.out.placed hp
  have G0 := hide p1
  have GA := hide p2
  have G1 := hide (H1'.out.grown p3 (by simp))
  have GL := hide (HL'.out.grown p3 HL'.out.size (fun q hq => by simp at hq; omega))
  clear H0' H1' HL' HA hp p1 p2 p3
  go_wp2_with fail
  refine (addFloat_any w.heap.size 31 13830554455654793216 a2 w4 fin_minus G0.out GA.out.1 GA.out.2.1).mono ?_
  rintro e w5 ⟨rfl, hp⟩
  obtain ⟨a3, p1, p2, p3⟩ := GA.out.placed hp
  have H0 := hide p1
  have HA := hide p2
  have H1 := hide (G1.out.grown p3 (by simp))
  have HL := hide (GL.out.grown p3 GL.out.size (fun q hq => by simp at hq; omega))
  clear G0 G1 GL GA hp p1 p2 p3
  go_wp2_with fail
  refine (addFloat_any w.heap.size 31 n1 a3 w5 HF.out.2.2.2.2.2 H0.out HA.out.1 HA.out.2.1).mono ?_
  rintro e w6 ⟨rfl, hp⟩
  obtain ⟨a4, p1, p2, p3⟩ := HA.out.placed hp
  have G0 := hide p1
  have GA := hide p2
  have G1 := hide (H1.out.grown p3 (by simp))
  have GL := hide (HL.out.grown p3 HL.out.size (fun q hq => by simp at hq; omega))
  clear H0 H1 HL HA hp p1 p2 p3
  go_wp2_with fail
  refine (accProd_any s re2 _ HF.out.2.2.2.2.1 HF.out.2.2.1).mono ?_
  rintro e w7 ⟨b, rfl, zb, hb⟩
  have H0 := hide (G0.out.below hb (Blk.lt G0.out))
  have H1 := hide (G1.out.below hb (Blk.lt G1.out))
  have HL := hide (GL.out.trans (hb.mono GL.out.size))
  have HB := hide zb
  clear G0 G1 GL hb zb
  go_wp2_with (refine wpList_store_row rfl 31 _ _ rfl (w.heap.size + 1) (accArr b) rfl rfl 31 (accArr zeros68) H1.out.heap (by rw [accArr_size, HB.out.1]; exact acc_info) (by rw [accArr_size, accArr_size, HB.out.1]; rfl) (accArr_one _) ?_)
  have G1 := hide (H1.out.setRow b)
  have G0 := hide (H0.out.grown (gb_setRow w7 (w.heap.size + 1) (accArr b)) (by simp))
  have GL := hide (HL.out.grown (gb_setRow w7 (w.heap.size + 1) (accArr b)) HL.out.size (fun q hq => by simp at hq; omega))
  clear H0 H1 HL
  generalize w7.setRow (w.heap.size + 1) (accArr b) = w8 at G0 G1 GL ⊢
  refine (addProd_any (w.heap.size + 1) 31 s re2 b w8 HF.out.2.2.2.2.1 HF.out.2.2.1 G1.out HB.out.1 HB.out.2.1).mono ?_
  rintro e w9 ⟨rfl, hp⟩
  obtain ⟨b2, p1, p2, p3⟩ := HB.out.placed hp
  have H1 := hide p1
  have HB2 := hide p2
  have H0 := hide (G0.out.grown p3 (by simp))
  have HL := hide (GL.out.grown p3 GL.out.size (fun q hq => by simp at hq; omega))
  clear G0 G1 GL HB hp p1 p2 p3
  go_wp2_with fail
  refine (addFloat_any (w.heap.size + 1) 31 im1 b2 w9 HF.out.2.1 H1.out HB2.out.1 HB2.out.2.1).mono ?_
  rintro e w10 ⟨rfl, hp⟩
  obtain ⟨b3, p1, p2, p3⟩ := HB2.out.placed hp
  have G1 := hide p1
  have HB3 := hide p2
  have G0 := hide (H0.out.grown p3 (by simp))
  have GL := hide (HL.out.grown p3 HL.out.size (fun q hq => by simp at hq; omega))
  clear H0 H1 HL HB2 hp p1 p2 p3
  go_wp2_with fail
  refine half_r10 w10 t w.heap.size (w.heap.size + 1) re1 im1 re2 im2 s (accArr a4) (accArr b3) (fun n => load_here (G0.out.drewN n) GA.out.1) (fun n => load_here (G1.out.drewN n) HB3.out.1) (fun n => store_here (G0.out.drewN n) GA.out.1) (fun n => store_here (G1.out.drewN n) HB3.out.1)
    (hide fun wx => finiteC_any re1 im1 wx HF.out.1 HF.out.2.1) (hide fun wx => finiteC_any re2 im2 wx HF.out.2.2.1 HF.out.2.2.2.1) hgc hgs _ _ _ _ _ _ _ _ _ _ _ _ _ _ _ _ _ _ _ _ _ _ _ _ _ _ _ _ _ _ _ _ _ _ _ _ _ _ _ _ _ _ _ _ _ _ _ _ ?_
  intro v39 v40 v41 v42 v43 v44 v45 v46 v47 v48 v49 v50 v51 v52 v53 v54 n
  have K0 := hide (G0.out.drewN n)
  have K1 := hide (G1.out.drewN n)
  have KL := hide (GL.out.grown (gb_drewN w10 n none) GL.out.size (fun q hq => by simp at hq))
  clear G0 G1 GL
  generalize w10.drewN n = w11 at K0 K1 KL ⊢
  go_wp2
  exact bodyPost_ret (v := .tuple #[.agg (accArr a4), .agg (accArr b3), .bool true]) (results_two_acc Talg.results42 _ _ _ w.heap.size (w.heap.size + 1) _ _ _ rfl rfl rfl
    (run_loadVar_row w11 w.heap.size 31 31 (accArr a4) (0, 0) _ K0.out.heap Talg.underlying31 rfl (by rw [accArr_size, GA.out.1]; exact acc_info))
    (run_loadVar_row w11 (w.heap.size + 1) 31 31 (accArr b3) (0, 0) _ K1.out.heap Talg.underlying31 rfl (by rw [accArr_size, HB3.out.1]; exact acc_info))) rfl ⟨a4, b3, rfl, GA.out, HB3.out, KL.out⟩
end Go.Proofs.Ygctal
