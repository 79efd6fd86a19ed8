import Derived.Test.YgctalSl
import Derived.Test.YgctalWeq
namespace Go.Proofs.Ygctal
open Go.RowKit
set_option maxHeartbeats 4000000
set_option linter.unusedVariables false
set_option linter.unusedSimpArgs false

theorem eqGuard31 : Talg.prog.eqGuardType Talg.prog.depth 31 = false := by kernel_rfl
theorem quiet_load_at {P : Program} {C : World → Prop} {a : Act} {o : Oper} {K : Act → Prop} (x : Operand) (ho : o.op = .load 31 x) (ad : Addr) (hx : a.eval x = .pointer (some ad)) (A : Array Value)
    (hC : ∀ w, C w → (Instr.loadAt 31 (.pointer (some ad))).run P w = .ok (.agg A) w) (hk : K (a.put o.dst (.agg A))) : o.quiet P a C K := by
  refine ⟨.agg A, fun w hw => ?_, hk⟩
  unfold Oper.quietAt execOp
  simp only [ho, hx, Sem.run_bind, hC w hw, Result.andThen_ok, Sem.run_pure]
  exact ⟨rfl, rfl⟩
set_option maxRecDepth 1000000 in
theorem st_r13a {Q : Exit → Act → World → Prop} (w : World) (gx gu gv op oq s j : Nat) (A B U V : Array Value)
    (hs : ((s : Int) == (j : Int)) = true)
    (u0 u1 u2 u3 u4 u5 u6 u7 u8 u9 u10 u11 u13 u16 u20 u21 u22 u23 u24 u25 u26 u27 u28 u29 u30 u31 u32 u33 u34 u35 u36 u37 u38 u39 u40 u41 u42 u43 u44 u45 u46 u47 u48 u49 u50 u51 u52 u53 u54 u55 u56 u57 u58 u59 u60 u61 u62 u63 u64 u65 u66 u67 u68 u69 u70 u71 u72 u73 u74 u75 u76 u77 u78 u79 u80 u81 u82 u83 u84 u85 u86 u87 u88 u89 u90 u91 u92 u93 u94 u95 u96 u97 u98 u99 u100 u101 u102 u103 u104 u105 u106 u107 u108 u109 u110 u111 u112 u113 u114 u115 u116 u117 u118 u119 u120 u121 u122 u123 u124 u125 u126 u127 u128 u129 u130 u131 u132 u133 u134 u135 u136 u137 u138 u139 u140 u141 u142 u143 u144 : Value)
    (hQ : ∀ (v83 v84 v85 v86 v87 v88 v89 v90 v91 v92 v93 v94 v95 v96 v97 v98 v99 v100 : Value) (n : Nat), Q .normal ⟨#[u0, u1, u2, u3, u4, u5, u6, u7, u8, u9, u10, u11, .int .i64 (j : Int), u13, .pointer (some ⟨gu, 0, none⟩), .pointer (some ⟨gv, 0, none⟩), u16, .int .i64 (s : Int), .pointer (some ⟨gx, op, none⟩), .pointer (some ⟨gx, oq, none⟩), u20, u21, u22, u23, u24, u25, u26, u27, u28, u29, u30, u31, u32, u33, u34, u35, u36, u37, u38, u39, u40, u41, u42, u43, u44, u45, u46, u47, u48, u49, u50, u51, u52, u53, u54, u55, u56, u57, u58, u59, u60, u61, u62, u63, u64, u65, u66, u67, u68, u69, u70, u71, u72, u73, u74, u75, u76, u77, u78, u79, u80, u81, u82, v83, v84, v85, v86, v87, v88, v89, v90, v91, v92, v93, v94, v95, v96, v97, v98, v99, v100, .bool true, u102, u103, u104, u105, u106, u107, u108, u109, u110, u111, u112, u113, u114, u115, u116, u117, u118, u119, u120, u121, u122, u123, u124, u125, u126, u127, u128, u129, u130, u131, u132, u133, u134, u135, u136, u137, u138, u139, u140, u141, u142, u143, u144], []⟩ (w.drewN n)) :
    Code.wp Talg.prog ((Talg.f14.body.bind (regionOf 13)).getD .skip) Q ⟨#[u0, u1, u2, u3, u4, u5, u6, u7, u8, u9, u10, u11, .int .i64 (j : Int), u13, .pointer (some ⟨gu, 0, none⟩), .pointer (some ⟨gv, 0, none⟩), u16, .int .i64 (s : Int), .pointer (some ⟨gx, op, none⟩), .pointer (some ⟨gx, oq, none⟩), u20, u21, u22, u23, u24, u25, u26, u27, u28, u29, u30, u31, u32, u33, u34, u35, u36, u37, u38, u39, u40, u41, u42, u43, u44, u45, u46, u47, u48, u49, u50, u51, u52, u53, u54, u55, u56, u57, u58, u59, u60, u61, u62, u63, u64, u65, u66, u67, u68, u69, u70, u71, u72, u73, u74, u75, u76, u77, u78, u79, u80, u81, u82, u83, u84, u85, u86, u87, u88, u89, u90, u91, u92, u93, u94, u95, u96, u97, u98, u99, u100, u101, u102, u103, u104, u105, u106, u107, u108, u109, u110, u111, u112, u113, u114, u115, u116, u117, u118, u119, u120, u121, u122, u123, u124, u125, u126, u127, u128, u129, u130, u131, u132, u133, u134, u135, u136, u137, u138, u139, u140, u141, u142, u143, u144], []⟩ w := by
  have hg := eqGuard31
  conv => arg 2; whnf
  refine wp_region_quiet_lit (by kernel_rfl) (by kernel_rfl) ?_
  go_simp
  repeat (go_big_quiet_step (fail))
  refine wpQuiet_nil ?_
  intro n
  exact hQ _ _ _ _ _ _ _ _ _ _ _ _ _ _ _ _ _ _ n
set_option maxRecDepth 1000000 in
theorem st_r13b {Q : Exit → Act → World → Prop} (w : World) (gx gu gv op oq s j : Nat) (A B U V : Array Value)
    (hs : ((s : Int) == (j : Int)) = false)
    (hL1 : ∀ n, (Instr.loadAt 31 (.pointer (some ⟨gx, op + 1, none⟩))).run Talg.prog (w.drewN n) = .ok (.agg A) (w.drewN n)) (hL2 : ∀ n, (Instr.loadAt 31 (.pointer (some ⟨gu, 0, none⟩))).run Talg.prog (w.drewN n) = .ok (.agg U) (w.drewN n))
    (hN1 : ∀ w, (binOp .neq 31 (.agg A) (.agg U)).run Talg.prog w = .ok (.bool true) w)
    (u0 u1 u2 u3 u4 u5 u6 u7 u8 u9 u10 u11 u13 u16 u20 u21 u22 u23 u24 u25 u26 u27 u28 u29 u30 u31 u32 u33 u34 u35 u36 u37 u38 u39 u40 u41 u42 u43 u44 u45 u46 u47 u48 u49 u50 u51 u52 u53 u54 u55 u56 u57 u58 u59 u60 u61 u62 u63 u64 u65 u66 u67 u68 u69 u70 u71 u72 u73 u74 u75 u76 u77 u78 u79 u80 u81 u82 u83 u84 u85 u86 u87 u88 u89 u90 u91 u92 u93 u94 u95 u96 u97 u98 u99 u100 u101 u102 u103 u104 u105 u106 u107 u108 u109 u110 u111 u112 u113 u114 u115 u116 u117 u118 u119 u120 u121 u122 u123 u124 u125 u126 u127 u128 u129 u130 u131 u132 u133 u134 u135 u136 u137 u138 u139 u140 u141 u142 u143 u144 : Value)
    (hQ : ∀ (v83 v84 v85 v86 v87 v88 v89 v90 v91 v92 v93 v94 v95 v96 v97 v98 v99 v100 : Value) (n : Nat), Q .normal ⟨#[u0, u1, u2, u3, u4, u5, u6, u7, u8, u9, u10, u11, .int .i64 (j : Int), u13, .pointer (some ⟨gu, 0, none⟩), .pointer (some ⟨gv, 0, none⟩), u16, .int .i64 (s : Int), .pointer (some ⟨gx, op, none⟩), .pointer (some ⟨gx, oq, none⟩), u20, u21, u22, u23, u24, u25, u26, u27, u28, u29, u30, u31, u32, u33, u34, u35, u36, u37, u38, u39, u40, u41, u42, u43, u44, u45, u46, u47, u48, u49, u50, u51, u52, u53, u54, u55, u56, u57, u58, u59, u60, u61, u62, u63, u64, u65, u66, u67, u68, u69, u70, u71, u72, u73, u74, u75, u76, u77, u78, u79, u80, u81, u82, v83, v84, v85, v86, v87, v88, v89, v90, v91, v92, v93, v94, v95, v96, v97, v98, v99, v100, .bool true, u102, u103, u104, u105, u106, u107, u108, u109, u110, u111, u112, u113, u114, u115, u116, u117, u118, u119, u120, u121, u122, u123, u124, u125, u126, u127, u128, u129, u130, u131, u132, u133, u134, u135, u136, u137, u138, u139, u140, u141, u142, u143, u144], []⟩ (w.drewN n)) :
    Code.wp Talg.prog ((Talg.f14.body.bind (regionOf 13)).getD .skip) Q ⟨#[u0, u1, u2, u3, u4, u5, u6, u7, u8, u9, u10, u11, .int .i64 (j : Int), u13, .pointer (some ⟨gu, 0, none⟩), .pointer (some ⟨gv, 0, none⟩), u16, .int .i64 (s : Int), .pointer (some ⟨gx, op, none⟩), .pointer (some ⟨gx, oq, none⟩), u20, u21, u22, u23, u24, u25, u26, u27, u28, u29, u30, u31, u32, u33, u34, u35, u36, u37, u38, u39, u40, u41, u42, u43, u44, u45, u46, u47, u48, u49, u50, u51, u52, u53, u54, u55, u56, u57, u58, u59, u60, u61, u62, u63, u64, u65, u66, u67, u68, u69, u70, u71, u72, u73, u74, u75, u76, u77, u78, u79, u80, u81, u82, u83, u84, u85, u86, u87, u88, u89, u90, u91, u92, u93, u94, u95, u96, u97, u98, u99, u100, u101, u102, u103, u104, u105, u106, u107, u108, u109, u110, u111, u112, u113, u114, u115, u116, u117, u118, u119, u120, u121, u122, u123, u124, u125, u126, u127, u128, u129, u130, u131, u132, u133, u134, u135, u136, u137, u138, u139, u140, u141, u142, u143, u144], []⟩ w := by
  have hg := eqGuard31
  conv => arg 2; whnf
  refine wp_region_quiet_lit (by kernel_rfl) (by kernel_rfl) ?_
  go_simp
  go_big_quiet_step (fail)
  go_big_quiet_step (fail)
  go_big_quiet_step (fail)
  go_big_quiet_step (fail)
  go_big_quiet_step (fail)
  go_big_quiet_step (fail)
  go_big_quiet_step (fail)
  refine BigFrame.wpQuiet_want rfl fun K hK => quiet_load_at _ rfl ⟨gx, op + 1, none⟩ rfl A (by rintro w' ⟨n, rfl⟩; exact hL1 n) (hK _ ?_)
  go_simp
  refine BigFrame.wpQuiet_want rfl fun K hK => quiet_load_at _ rfl ⟨gu, 0, none⟩ rfl U (by rintro w' ⟨n, rfl⟩; exact hL2 n) (hK _ ?_)
  go_simp
  repeat (go_big_quiet_step (fail))
  refine wpQuiet_nil ?_
  intro n
  exact hQ _ _ _ _ _ _ _ _ _ _ _ _ _ _ _ _ _ _ n
set_option maxRecDepth 1000000 in
theorem st_r13c {Q : Exit → Act → World → Prop} (w : World) (gx gu gv op oq s j : Nat) (A B U V : Array Value)
    (hs : ((s : Int) == (j : Int)) = false)
    (hL1 : ∀ n, (Instr.loadAt 31 (.pointer (some ⟨gx, op + 1, none⟩))).run Talg.prog (w.drewN n) = .ok (.agg A) (w.drewN n)) (hL2 : ∀ n, (Instr.loadAt 31 (.pointer (some ⟨gu, 0, none⟩))).run Talg.prog (w.drewN n) = .ok (.agg U) (w.drewN n))
    (hN1 : ∀ w, (binOp .neq 31 (.agg A) (.agg U)).run Talg.prog w = .ok (.bool false) w)
    (hL3 : ∀ n, (Instr.loadAt 31 (.pointer (some ⟨gx, oq + 1, none⟩))).run Talg.prog (w.drewN n) = .ok (.agg B) (w.drewN n)) (hL4 : ∀ n, (Instr.loadAt 31 (.pointer (some ⟨gv, 0, none⟩))).run Talg.prog (w.drewN n) = .ok (.agg V) (w.drewN n))
    (hN2 : ∀ w, (binOp .neq 31 (.agg B) (.agg V)).run Talg.prog w = .ok (.bool true) w)
    (u0 u1 u2 u3 u4 u5 u6 u7 u8 u9 u10 u11 u13 u16 u20 u21 u22 u23 u24 u25 u26 u27 u28 u29 u30 u31 u32 u33 u34 u35 u36 u37 u38 u39 u40 u41 u42 u43 u44 u45 u46 u47 u48 u49 u50 u51 u52 u53 u54 u55 u56 u57 u58 u59 u60 u61 u62 u63 u64 u65 u66 u67 u68 u69 u70 u71 u72 u73 u74 u75 u76 u77 u78 u79 u80 u81 u82 u83 u84 u85 u86 u87 u88 u89 u90 u91 u92 u93 u94 u95 u96 u97 u98 u99 u100 u101 u102 u103 u104 u105 u106 u107 u108 u109 u110 u111 u112 u113 u114 u115 u116 u117 u118 u119 u120 u121 u122 u123 u124 u125 u126 u127 u128 u129 u130 u131 u132 u133 u134 u135 u136 u137 u138 u139 u140 u141 u142 u143 u144 : Value)
    (hQ : ∀ (v83 v84 v85 v86 v87 v88 v89 v90 v91 v92 v93 v94 v95 v96 v97 v98 v99 v100 : Value) (n : Nat), Q .normal ⟨#[u0, u1, u2, u3, u4, u5, u6, u7, u8, u9, u10, u11, .int .i64 (j : Int), u13, .pointer (some ⟨gu, 0, none⟩), .pointer (some ⟨gv, 0, none⟩), u16, .int .i64 (s : Int), .pointer (some ⟨gx, op, none⟩), .pointer (some ⟨gx, oq, none⟩), u20, u21, u22, u23, u24, u25, u26, u27, u28, u29, u30, u31, u32, u33, u34, u35, u36, u37, u38, u39, u40, u41, u42, u43, u44, u45, u46, u47, u48, u49, u50, u51, u52, u53, u54, u55, u56, u57, u58, u59, u60, u61, u62, u63, u64, u65, u66, u67, u68, u69, u70, u71, u72, u73, u74, u75, u76, u77, u78, u79, u80, u81, u82, v83, v84, v85, v86, v87, v88, v89, v90, v91, v92, v93, v94, v95, v96, v97, v98, v99, v100, .bool true, u102, u103, u104, u105, u106, u107, u108, u109, u110, u111, u112, u113, u114, u115, u116, u117, u118, u119, u120, u121, u122, u123, u124, u125, u126, u127, u128, u129, u130, u131, u132, u133, u134, u135, u136, u137, u138, u139, u140, u141, u142, u143, u144], []⟩ (w.drewN n)) :
    Code.wp Talg.prog ((Talg.f14.body.bind (regionOf 13)).getD .skip) Q ⟨#[u0, u1, u2, u3, u4, u5, u6, u7, u8, u9, u10, u11, .int .i64 (j : Int), u13, .pointer (some ⟨gu, 0, none⟩), .pointer (some ⟨gv, 0, none⟩), u16, .int .i64 (s : Int), .pointer (some ⟨gx, op, none⟩), .pointer (some ⟨gx, oq, none⟩), u20, u21, u22, u23, u24, u25, u26, u27, u28, u29, u30, u31, u32, u33, u34, u35, u36, u37, u38, u39, u40, u41, u42, u43, u44, u45, u46, u47, u48, u49, u50, u51, u52, u53, u54, u55, u56, u57, u58, u59, u60, u61, u62, u63, u64, u65, u66, u67, u68, u69, u70, u71, u72, u73, u74, u75, u76, u77, u78, u79, u80, u81, u82, u83, u84, u85, u86, u87, u88, u89, u90, u91, u92, u93, u94, u95, u96, u97, u98, u99, u100, u101, u102, u103, u104, u105, u106, u107, u108, u109, u110, u111, u112, u113, u114, u115, u116, u117, u118, u119, u120, u121, u122, u123, u124, u125, u126, u127, u128, u129, u130, u131, u132, u133, u134, u135, u136, u137, u138, u139, u140, u141, u142, u143, u144], []⟩ w := by
  have hg := eqGuard31
  conv => arg 2; whnf
  refine wp_region_quiet_lit (by kernel_rfl) (by kernel_rfl) ?_
  go_simp
  go_big_quiet_step (fail)
  go_big_quiet_step (fail)
  go_big_quiet_step (fail)
  go_big_quiet_step (fail)
  go_big_quiet_step (fail)
  go_big_quiet_step (fail)
  go_big_quiet_step (fail)
  refine BigFrame.wpQuiet_want rfl fun K hK => quiet_load_at _ rfl ⟨gx, op + 1, none⟩ rfl A (by rintro w' ⟨n, rfl⟩; exact hL1 n) (hK _ ?_)
  go_simp
  refine BigFrame.wpQuiet_want rfl fun K hK => quiet_load_at _ rfl ⟨gu, 0, none⟩ rfl U (by rintro w' ⟨n, rfl⟩; exact hL2 n) (hK _ ?_)
  go_simp
  go_big_quiet_step (fail)
  go_big_quiet_step (fail)
  go_big_quiet_step (fail)
  go_big_quiet_step (fail)
  go_big_quiet_step (fail)
  go_big_quiet_step (fail)
  refine BigFrame.wpQuiet_want rfl fun K hK => quiet_load_at _ rfl ⟨gx, oq + 1, none⟩ rfl B (by rintro w' ⟨n, rfl⟩; exact hL3 n) (hK _ ?_)
  go_simp
  refine BigFrame.wpQuiet_want rfl fun K hK => quiet_load_at _ rfl ⟨gv, 0, none⟩ rfl V (by rintro w' ⟨n, rfl⟩; exact hL4 n) (hK _ ?_)
  go_simp
  repeat (go_big_quiet_step (fail))
  refine wpQuiet_nil ?_
  intro n
  exact hQ _ _ _ _ _ _ _ _ _ _ _ _ _ _ _ _ _ _ n
set_option maxRecDepth 1000000 in
theorem st_r13d {Q : Exit → Act → World → Prop} (w : World) (gx gu gv op oq s j : Nat) (A B U V : Array Value)
    (hs : ((s : Int) == (j : Int)) = false)
    (hL1 : ∀ n, (Instr.loadAt 31 (.pointer (some ⟨gx, op + 1, none⟩))).run Talg.prog (w.drewN n) = .ok (.agg A) (w.drewN n)) (hL2 : ∀ n, (Instr.loadAt 31 (.pointer (some ⟨gu, 0, none⟩))).run Talg.prog (w.drewN n) = .ok (.agg U) (w.drewN n))
    (hN1 : ∀ w, (binOp .neq 31 (.agg A) (.agg U)).run Talg.prog w = .ok (.bool false) w)
    (hL3 : ∀ n, (Instr.loadAt 31 (.pointer (some ⟨gx, oq + 1, none⟩))).run Talg.prog (w.drewN n) = .ok (.agg B) (w.drewN n)) (hL4 : ∀ n, (Instr.loadAt 31 (.pointer (some ⟨gv, 0, none⟩))).run Talg.prog (w.drewN n) = .ok (.agg V) (w.drewN n))
    (hN2 : ∀ w, (binOp .neq 31 (.agg B) (.agg V)).run Talg.prog w = .ok (.bool false) w)
    (u0 u1 u2 u3 u4 u5 u6 u7 u8 u9 u10 u11 u13 u16 u20 u21 u22 u23 u24 u25 u26 u27 u28 u29 u30 u31 u32 u33 u34 u35 u36 u37 u38 u39 u40 u41 u42 u43 u44 u45 u46 u47 u48 u49 u50 u51 u52 u53 u54 u55 u56 u57 u58 u59 u60 u61 u62 u63 u64 u65 u66 u67 u68 u69 u70 u71 u72 u73 u74 u75 u76 u77 u78 u79 u80 u81 u82 u83 u84 u85 u86 u87 u88 u89 u90 u91 u92 u93 u94 u95 u96 u97 u98 u99 u100 u101 u102 u103 u104 u105 u106 u107 u108 u109 u110 u111 u112 u113 u114 u115 u116 u117 u118 u119 u120 u121 u122 u123 u124 u125 u126 u127 u128 u129 u130 u131 u132 u133 u134 u135 u136 u137 u138 u139 u140 u141 u142 u143 u144 : Value)
    (hQ : ∀ (v83 v84 v85 v86 v87 v88 v89 v90 v91 v92 v93 v94 v95 v96 v97 v98 v99 v100 : Value) (n : Nat), Q .normal ⟨#[u0, u1, u2, u3, u4, u5, u6, u7, u8, u9, u10, u11, .int .i64 (j : Int), u13, .pointer (some ⟨gu, 0, none⟩), .pointer (some ⟨gv, 0, none⟩), u16, .int .i64 (s : Int), .pointer (some ⟨gx, op, none⟩), .pointer (some ⟨gx, oq, none⟩), u20, u21, u22, u23, u24, u25, u26, u27, u28, u29, u30, u31, u32, u33, u34, u35, u36, u37, u38, u39, u40, u41, u42, u43, u44, u45, u46, u47, u48, u49, u50, u51, u52, u53, u54, u55, u56, u57, u58, u59, u60, u61, u62, u63, u64, u65, u66, u67, u68, u69, u70, u71, u72, u73, u74, u75, u76, u77, u78, u79, u80, u81, u82, v83, v84, v85, v86, v87, v88, v89, v90, v91, v92, v93, v94, v95, v96, v97, v98, v99, v100, .bool false, u102, u103, u104, u105, u106, u107, u108, u109, u110, u111, u112, u113, u114, u115, u116, u117, u118, u119, u120, u121, u122, u123, u124, u125, u126, u127, u128, u129, u130, u131, u132, u133, u134, u135, u136, u137, u138, u139, u140, u141, u142, u143, u144], []⟩ (w.drewN n)) :
    Code.wp Talg.prog ((Talg.f14.body.bind (regionOf 13)).getD .skip) Q ⟨#[u0, u1, u2, u3, u4, u5, u6, u7, u8, u9, u10, u11, .int .i64 (j : Int), u13, .pointer (some ⟨gu, 0, none⟩), .pointer (some ⟨gv, 0, none⟩), u16, .int .i64 (s : Int), .pointer (some ⟨gx, op, none⟩), .pointer (some ⟨gx, oq, none⟩), u20, u21, u22, u23, u24, u25, u26, u27, u28, u29, u30, u31, u32, u33, u34, u35, u36, u37, u38, u39, u40, u41, u42, u43, u44, u45, u46, u47, u48, u49, u50, u51, u52, u53, u54, u55, u56, u57, u58, u59, u60, u61, u62, u63, u64, u65, u66, u67, u68, u69, u70, u71, u72, u73, u74, u75, u76, u77, u78, u79, u80, u81, u82, u83, u84, u85, u86, u87, u88, u89, u90, u91, u92, u93, u94, u95, u96, u97, u98, u99, u100, u101, u102, u103, u104, u105, u106, u107, u108, u109, u110, u111, u112, u113, u114, u115, u116, u117, u118, u119, u120, u121, u122, u123, u124, u125, u126, u127, u128, u129, u130, u131, u132, u133, u134, u135, u136, u137, u138, u139, u140, u141, u142, u143, u144], []⟩ w := by
  have hg := eqGuard31
  conv => arg 2; whnf
  refine wp_region_quiet_lit (by kernel_rfl) (by kernel_rfl) ?_
  go_simp
  go_big_quiet_step (fail)
  go_big_quiet_step (fail)
  go_big_quiet_step (fail)
  go_big_quiet_step (fail)
  go_big_quiet_step (fail)
  go_big_quiet_step (fail)
  go_big_quiet_step (fail)
  refine BigFrame.wpQuiet_want rfl fun K hK => quiet_load_at _ rfl ⟨gx, op + 1, none⟩ rfl A (by rintro w' ⟨n, rfl⟩; exact hL1 n) (hK _ ?_)
  go_simp
  refine BigFrame.wpQuiet_want rfl fun K hK => quiet_load_at _ rfl ⟨gu, 0, none⟩ rfl U (by rintro w' ⟨n, rfl⟩; exact hL2 n) (hK _ ?_)
  go_simp
  go_big_quiet_step (fail)
  go_big_quiet_step (fail)
  go_big_quiet_step (fail)
  go_big_quiet_step (fail)
  go_big_quiet_step (fail)
  go_big_quiet_step (fail)
  refine BigFrame.wpQuiet_want rfl fun K hK => quiet_load_at _ rfl ⟨gx, oq + 1, none⟩ rfl B (by rintro w' ⟨n, rfl⟩; exact hL3 n) (hK _ ?_)
  go_simp
  refine BigFrame.wpQuiet_want rfl fun K hK => quiet_load_at _ rfl ⟨gv, 0, none⟩ rfl V (by rintro w' ⟨n, rfl⟩; exact hL4 n) (hK _ ?_)
  go_simp
  repeat (go_big_quiet_step (fail))
  refine wpQuiet_nil ?_
  intro n
  exact hQ _ _ _ _ _ _ _ _ _ _ _ _ _ _ _ _ _ _ n
/-- Region 13, whatever comes of it. -/
theorem st_r13 {Q : Exit → Act → World → Prop} (w : World) (gx gu gv op oq s j : Nat) (a b u v : List Nat) (bb : Bool) (ha : a.length = 68) (hb : b.length = 68) (hu : u.length = 68) (hv : v.length = 68)
    (hbb : bb = !(decide (s ≠ j) && decide (a = u) && decide (b = v)))
    (hL1 : ∀ n, (Instr.loadAt 31 (.pointer (some ⟨gx, op + 1, none⟩))).run Talg.prog (w.drewN n) = .ok (.agg (accArr a)) (w.drewN n)) (hL2 : ∀ n, (Instr.loadAt 31 (.pointer (some ⟨gu, 0, none⟩))).run Talg.prog (w.drewN n) = .ok (.agg (accArr u)) (w.drewN n))
    (hL3 : ∀ n, (Instr.loadAt 31 (.pointer (some ⟨gx, oq + 1, none⟩))).run Talg.prog (w.drewN n) = .ok (.agg (accArr b)) (w.drewN n)) (hL4 : ∀ n, (Instr.loadAt 31 (.pointer (some ⟨gv, 0, none⟩))).run Talg.prog (w.drewN n) = .ok (.agg (accArr v)) (w.drewN n))
    (u0 u1 u2 u3 u4 u5 u6 u7 u8 u9 u10 u11 u13 u16 u20 u21 u22 u23 u24 u25 u26 u27 u28 u29 u30 u31 u32 u33 u34 u35 u36 u37 u38 u39 u40 u41 u42 u43 u44 u45 u46 u47 u48 u49 u50 u51 u52 u53 u54 u55 u56 u57 u58 u59 u60 u61 u62 u63 u64 u65 u66 u67 u68 u69 u70 u71 u72 u73 u74 u75 u76 u77 u78 u79 u80 u81 u82 u83 u84 u85 u86 u87 u88 u89 u90 u91 u92 u93 u94 u95 u96 u97 u98 u99 u100 u101 u102 u103 u104 u105 u106 u107 u108 u109 u110 u111 u112 u113 u114 u115 u116 u117 u118 u119 u120 u121 u122 u123 u124 u125 u126 u127 u128 u129 u130 u131 u132 u133 u134 u135 u136 u137 u138 u139 u140 u141 u142 u143 u144 : Value)
    (hQ : ∀ (v83 v84 v85 v86 v87 v88 v89 v90 v91 v92 v93 v94 v95 v96 v97 v98 v99 v100 : Value) (n : Nat), Q .normal ⟨#[u0, u1, u2, u3, u4, u5, u6, u7, u8, u9, u10, u11, .int .i64 (j : Int), u13, .pointer (some ⟨gu, 0, none⟩), .pointer (some ⟨gv, 0, none⟩), u16, .int .i64 (s : Int), .pointer (some ⟨gx, op, none⟩), .pointer (some ⟨gx, oq, none⟩), u20, u21, u22, u23, u24, u25, u26, u27, u28, u29, u30, u31, u32, u33, u34, u35, u36, u37, u38, u39, u40, u41, u42, u43, u44, u45, u46, u47, u48, u49, u50, u51, u52, u53, u54, u55, u56, u57, u58, u59, u60, u61, u62, u63, u64, u65, u66, u67, u68, u69, u70, u71, u72, u73, u74, u75, u76, u77, u78, u79, u80, u81, u82, v83, v84, v85, v86, v87, v88, v89, v90, v91, v92, v93, v94, v95, v96, v97, v98, v99, v100, .bool bb, u102, u103, u104, u105, u106, u107, u108, u109, u110, u111, u112, u113, u114, u115, u116, u117, u118, u119, u120, u121, u122, u123, u124, u125, u126, u127, u128, u129, u130, u131, u132, u133, u134, u135, u136, u137, u138, u139, u140, u141, u142, u143, u144], []⟩ (w.drewN n)) :
    Code.wp Talg.prog ((Talg.f14.body.bind (regionOf 13)).getD .skip) Q ⟨#[u0, u1, u2, u3, u4, u5, u6, u7, u8, u9, u10, u11, .int .i64 (j : Int), u13, .pointer (some ⟨gu, 0, none⟩), .pointer (some ⟨gv, 0, none⟩), u16, .int .i64 (s : Int), .pointer (some ⟨gx, op, none⟩), .pointer (some ⟨gx, oq, none⟩), u20, u21, u22, u23, u24, u25, u26, u27, u28, u29, u30, u31, u32, u33, u34, u35, u36, u37, u38, u39, u40, u41, u42, u43, u44, u45, u46, u47, u48, u49, u50, u51, u52, u53, u54, u55, u56, u57, u58, u59, u60, u61, u62, u63, u64, u65, u66, u67, u68, u69, u70, u71, u72, u73, u74, u75, u76, u77, u78, u79, u80, u81, u82, u83, u84, u85, u86, u87, u88, u89, u90, u91, u92, u93, u94, u95, u96, u97, u98, u99, u100, u101, u102, u103, u104, u105, u106, u107, u108, u109, u110, u111, u112, u113, u114, u115, u116, u117, u118, u119, u120, u121, u122, u123, u124, u125, u126, u127, u128, u129, u130, u131, u132, u133, u134, u135, u136, u137, u138, u139, u140, u141, u142, u143, u144], []⟩ w := by
  by_cases hs : s = j
  · obtain rfl : bb = true := by rw [hbb]; simp [hs]
    exact st_r13a w gx gu gv op oq s j #[] #[] #[] #[] (by simp [hs]) _ _ _ _ _ _ _ _ _ _ _ _ _ _ _ _ _ _ _ _ _ _ _ _ _ _ _ _ _ _ _ _ _ _ _ _ _ _ _ _ _ _ _ _ _ _ _ _ _ _ _ _ _ _ _ _ _ _ _ _ _ _ _ _ _ _ _ _ _ _ _ _ _ _ _ _ _ _ _ _ _ _ _ _ _ _ _ _ _ _ _ _ _ _ _ _ _ _ _ _ _ _ _ _ _ _ _ _ _ _ _ _ _ _ _ _ _ _ _ _ _ _ _ _ _ _ _ _ _ _ _ _ _ _ _ _ _ _ _ hQ
  · have hsf : ((s : Int) == (j : Int)) = false := by simp; omega
    by_cases h1 : a = u
    · have hN1 : ∀ w, (binOp .neq 31 (.agg (accArr a)) (.agg (accArr u))).run Talg.prog w = .ok (.bool false) w := fun w => by rw [neq_acc a u ha hu]; simp [h1]
      by_cases h2 : b = v
      · obtain rfl : bb = false := by rw [hbb]; simp [hs, h1, h2]
        exact st_r13d w gx gu gv op oq s j (accArr a) (accArr b) (accArr u) (accArr v) hsf hL1 hL2 hN1 hL3 hL4 (fun w => by rw [neq_acc b v hb hv]; simp [h2]) _ _ _ _ _ _ _ _ _ _ _ _ _ _ _ _ _ _ _ _ _ _ _ _ _ _ _ _ _ _ _ _ _ _ _ _ _ _ _ _ _ _ _ _ _ _ _ _ _ _ _ _ _ _ _ _ _ _ _ _ _ _ _ _ _ _ _ _ _ _ _ _ _ _ _ _ _ _ _ _ _ _ _ _ _ _ _ _ _ _ _ _ _ _ _ _ _ _ _ _ _ _ _ _ _ _ _ _ _ _ _ _ _ _ _ _ _ _ _ _ _ _ _ _ _ _ _ _ _ _ _ _ _ _ _ _ _ _ _ hQ
      · obtain rfl : bb = true := by rw [hbb]; simp [h2]
        exact st_r13c w gx gu gv op oq s j (accArr a) (accArr b) (accArr u) (accArr v) hsf hL1 hL2 hN1 hL3 hL4 (fun w => by rw [neq_acc b v hb hv]; simp [h2]) _ _ _ _ _ _ _ _ _ _ _ _ _ _ _ _ _ _ _ _ _ _ _ _ _ _ _ _ _ _ _ _ _ _ _ _ _ _ _ _ _ _ _ _ _ _ _ _ _ _ _ _ _ _ _ _ _ _ _ _ _ _ _ _ _ _ _ _ _ _ _ _ _ _ _ _ _ _ _ _ _ _ _ _ _ _ _ _ _ _ _ _ _ _ _ _ _ _ _ _ _ _ _ _ _ _ _ _ _ _ _ _ _ _ _ _ _ _ _ _ _ _ _ _ _ _ _ _ _ _ _ _ _ _ _ _ _ _ _ hQ
    · obtain rfl : bb = true := by rw [hbb]; simp [h1]
      exact st_r13b w gx gu gv op oq s j (accArr a) #[] (accArr u) #[] hsf hL1 hL2 (fun w => by rw [neq_acc a u ha hu]; simp [h1]) _ _ _ _ _ _ _ _ _ _ _ _ _ _ _ _ _ _ _ _ _ _ _ _ _ _ _ _ _ _ _ _ _ _ _ _ _ _ _ _ _ _ _ _ _ _ _ _ _ _ _ _ _ _ _ _ _ _ _ _ _ _ _ _ _ _ _ _ _ _ _ _ _ _ _ _ _ _ _ _ _ _ _ _ _ _ _ _ _ _ _ _ _ _ _ _ _ _ _ _ _ _ _ _ _ _ _ _ _ _ _ _ _ _ _ _ _ _ _ _ _ _ _ _ _ _ _ _ _ _ _ _ _ _ _ _ _ _ _ hQ
end Go.Proofs.Ygctal
