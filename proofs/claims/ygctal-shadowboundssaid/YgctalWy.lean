import Derived.Test.YgctalWx
import Derived.BigQuiet
namespace Go.Proofs.Ygctal
open Go.RowKit
set_option maxHeartbeats 2000000
set_option linter.unusedVariables false
set_option linter.unusedSimpArgs false

/-! halfDefects: the last statement's region, whose stores lay down what lies there. -/
theorem quiet_load_acc {P : Program} {C : World → Prop} {a : Act} {o : Oper} {K : Act → Prop} (x : Operand) (ho : o.op = .load 31 x) (g : Nat) (hx : a.eval x = .pointer (some ⟨g, 0, none⟩)) (A : Array Value)
    (hC : ∀ w, C w → (Instr.loadAt 31 (.pointer (some ⟨g, 0, none⟩))).run P w = .ok (.agg A) w) (hk : K (a.put o.dst (.agg A))) : o.quiet P a C K := by
  refine ⟨.agg A, fun w hw => ?_, hk⟩
  unfold Oper.quietAt execOp
  simp only [ho, hx, Sem.run_bind, hC w hw, Result.andThen_ok, Sem.run_pure]
  exact ⟨rfl, rfl⟩
theorem quiet_store_acc {P : Program} {C : World → Prop} {a : Act} {o : Oper} {K : Act → Prop} (x y : Operand) (ho : o.op = .store 31 x y) (g : Nat) (A : Array Value) (hx : a.eval x = .pointer (some ⟨g, 0, none⟩)) (hy : a.eval y = .agg A)
    (hC : ∀ w, C w → (Instr.storeAt 31 (.pointer (some ⟨g, 0, none⟩)) (.agg A)).run P w = .ok () w) (hk : K (a.put o.dst undef)) : o.quiet P a C K := by
  refine ⟨undef, fun w hw => ?_, hk⟩
  unfold Oper.quietAt execOp
  simp only [ho, hx, hy, Sem.run_bind, hC w hw, Result.andThen_ok, Sem.run_pure]
  exact ⟨rfl, rfl⟩
theorem setRow_here {w : World} {g T : Nat} {ws : List Nat} (h : AccB w g T ws) : w.setRow g (accArr ws) = w := by
  have hlt := Blk.lt h
  have hh := h.heap
  have h' : w.heap[g] = .cells (accArr ws) T (0, 0) := by simpa [Array.getElem?_eq_getElem hlt] using hh
  have : (w.setRow g (accArr ws)).heap = w.heap := by
    unfold World.setRow
    apply Array.ext
    · simp
    · intro i h1 h2
      rw [Array.getElem_modify]
      split
      · next e => subst e; rw [h']
      · rfl
  show ({ w with heap := (w.setRow g (accArr ws)).heap } : World) = w
  rw [this]
theorem load_here {w : World} {g : Nat} {ws : List Nat} (h : AccB w g 31 ws) (hl : ws.length = 68) : (Instr.loadAt 31 (.pointer (some ⟨g, 0, none⟩))).run Talg.prog w = .ok (.agg (accArr ws)) w := by
  simp only [Instr.loadAt, Instr.sureAddr, Sem.run_bind, Sem.run_pure, Result.andThen_ok, run_loadVar_row w g 31 31 (accArr ws) (0, 0) _ h.heap Talg.underlying31 rfl (by rw [accArr_size, hl]; exact acc_info)]
theorem store_here {w : World} {g : Nat} {ws : List Nat} (h : AccB w g 31 ws) (hl : ws.length = 68) : (Instr.storeAt 31 (.pointer (some ⟨g, 0, none⟩)) (.agg (accArr ws))).run Talg.prog w = .ok () w := by
  simp only [Instr.storeAt, Instr.sureAddr, Sem.run_bind, Sem.run_pure, Result.andThen_ok, run_storeVar_row w g 31 31 (accArr ws) (accArr ws) h.heap (by rw [accArr_size, hl]; exact acc_info) rfl (accArr_one ws)]
  rw [setRow_here h]

set_option maxRecDepth 1000000 in
theorem half_r10 {Q : Exit → Act → World → Prop} (w : World) (t g0 g1 re1 im1 re2 im2 s : Nat) (A B : Array Value)
    (hL0 : ∀ n, (Instr.loadAt 31 (.pointer (some ⟨g0, 0, none⟩))).run Talg.prog (w.drewN n) = .ok (.agg A) (w.drewN n))
    (hL1 : ∀ n, (Instr.loadAt 31 (.pointer (some ⟨g1, 0, none⟩))).run Talg.prog (w.drewN n) = .ok (.agg B) (w.drewN n))
    (hS0 : ∀ n, (Instr.storeAt 31 (.pointer (some ⟨g0, 0, none⟩)) (.agg A)).run Talg.prog (w.drewN n) = .ok () (w.drewN n))
    (hS1 : ∀ n, (Instr.storeAt 31 (.pointer (some ⟨g1, 0, none⟩)) (.agg B)).run Talg.prog (w.drewN n) = .ok () (w.drewN n))
    (H1 : Hid (∀ wx, Calls Talg.prog 70 #[.complex .f64 re1 im1] wx fun e w' => e = .returned (.bool true) ∧ w' = wx))
    (H2 : Hid (∀ wx, Calls Talg.prog 70 #[.complex .f64 re2 im2] wx fun e w' => e = .returned (.bool true) ∧ w' = wx))
    (hc : (FloatKind.f64.format.order re2 0 == some .gt) = true) (hs : (FloatKind.f64.format.order s 0 == some .gt) = true)
    (u1 u4 u9 u10 u11 u12 u13 u14 u15 u16 u17 u18 u19 u20 u21 u22 u23 u24 u25 u26 u27 u28 u29 u30 u31 u32 u33 u34 u35 u36 u37 u38 u39 u40 u41 u42 u43 u44 u45 u46 u47 u48 u49 u50 u51 u52 u53 u54 : Value)
    (hQ : ∀ (v39 v40 v41 v42 v43 v44 v45 v46 v47 v48 v49 v50 v51 v52 v53 v54 : Value) (n : Nat), Q .normal ⟨#[.int .u8 (t : Int), u1, .pointer (some ⟨g0, 0, none⟩), .pointer (some ⟨g1, 0, none⟩), .bool true, .complex .f64 re1 im1, .complex .f64 re2 im2, .float .f64 re2, .float .f64 s, u9, u10, u11, u12, u13, u14, u15, u16, u17, u18, u19, u20, u21, u22, u23, u24, u25, u26, u27, u28, u29, u30, u31, u32, u33, u34, u35, u36, u37, u38, v39, v40, v41, v42, v43, v44, v45, v46, v47, v48, v49, v50, v51, v52, v53, v54], []⟩ (w.drewN n)) :
    Code.wp Talg.prog ((Talg.f42.body.bind (regionOf 10)).getD .skip) Q ⟨#[.int .u8 (t : Int), u1, .pointer (some ⟨g0, 0, none⟩), .pointer (some ⟨g1, 0, none⟩), u4, .complex .f64 re1 im1, .complex .f64 re2 im2, .float .f64 re2, .float .f64 s, u9, u10, u11, u12, u13, u14, u15, u16, u17, u18, u19, u20, u21, u22, u23, u24, u25, u26, u27, u28, u29, u30, u31, u32, u33, u34, u35, u36, u37, u38, u39, u40, u41, u42, u43, u44, u45, u46, u47, u48, u49, u50, u51, u52, u53, u54], []⟩ w := by
  conv => arg 2; whnf
  refine wp_region_quiet_lit (by kernel_rfl) (by kernel_rfl) ?_
  refine BigFrame.wpQuiet_want rfl fun K hK => quiet_load_acc _ rfl g0 rfl A (by rintro w' ⟨n, rfl⟩; exact hL0 n) (hK _ ?_)
  refine BigFrame.wpQuiet_want rfl fun K hK => quiet_load_acc _ rfl g1 rfl B (by rintro w' ⟨n, rfl⟩; exact hL1 n) (hK _ ?_)
  go_simp
  go_big_quiet_step (fail)
  go_big_quiet_step ((go_at_call 70; exact Calls.quiet_of_same (Hid.out H1 _)))
  repeat (go_big_quiet_step (fail))
  go_big_quiet_step ((go_at_call 70; exact Calls.quiet_of_same (Hid.out H2 _)))
  repeat (go_big_quiet_step (fail))
  refine BigFrame.wpQuiet_want rfl fun K hK => quiet_store_acc _ _ rfl g0 A rfl rfl (by rintro w' ⟨n, rfl⟩; exact hS0 n) (hK _ ?_)
  refine BigFrame.wpQuiet_want rfl fun K hK => quiet_store_acc _ _ rfl g1 B rfl rfl (by rintro w' ⟨n, rfl⟩; exact hS1 n) (hK _ ?_)
  go_simp
  go_big_quiet_step (fail)
  refine wpQuiet_nil ?_
  intro n
  exact hQ _ _ _ _ _ _ _ _ _ _ _ _ _ _ _ _ n
end Go.Proofs.Ygctal
