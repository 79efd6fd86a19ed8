import Derived.Test.YgctalSt
namespace Go.Proofs.Ygctal
open Go.RowKit
set_option maxHeartbeats 4000000
set_option linter.unusedVariables false
set_option linter.unusedSimpArgs false

set_option maxRecDepth 1000000 in
theorem sb_r33 {Q : Exit → Act → World → Prop} (w : World) (gx gz gw n i : Nat) (z : Nat × Nat) (A : Array Value) (hi : i < n)
    (hL1 : ∀ n, (Instr.loadAt 31 (.pointer (some ⟨gx, i * 69 + 1, none⟩))).run Talg.prog (w.drewN n) = .ok (.agg A) (w.drewN n)) (hL2 : ∀ n, (Instr.loadAt 31 (.pointer (some ⟨gw, 0, none⟩))).run Talg.prog (w.drewN n) = .ok (.agg A) (w.drewN n))
    (hN : ∀ w, (binOp .neq 31 (.agg A) (.agg A)).run Talg.prog w = .ok (.bool false) w)
    (hZ : w.cell? ⟨gx, i * 69, none⟩ = some (.complex .f64 z.1 z.2)) (hC : w.cell? ⟨gz, i, none⟩ = some (.complex .f64 z.1 z.2))
    (u0 u1 u2 u3 u4 u5 u6 u7 u8 u9 u12 u13 u15 u16 u17 u18 u19 u20 u22 u23 u24 u25 u26 u27 u28 u29 u30 u31 u32 u33 u34 u35 u36 u37 u38 u39 u40 u41 u42 u43 u44 u45 u46 u47 u48 u49 u50 u51 u52 u53 u54 u55 u56 u57 u58 u59 u60 u61 u62 u63 u64 u65 u66 u67 u68 u69 u70 u71 u72 u73 u74 u75 u76 u77 u78 u79 u80 u81 u82 u83 u84 u85 u86 u87 u88 u89 u90 u91 u92 u93 u94 u95 u96 u97 u98 u99 u100 u101 u102 u103 u104 u105 u106 u107 u108 u109 u110 u111 u112 u113 u114 u115 u116 u117 u118 u119 u120 u121 u122 u123 u124 u125 u126 u127 u128 u129 u130 u131 u132 u133 u134 u135 u136 u137 u138 u139 u140 u141 u142 u143 u144 u145 u146 u147 u148 u149 u150 u151 u152 u153 u154 u155 u156 u157 u158 u159 u160 u161 u162 u163 u164 u165 u166 u167 u168 u169 u170 u171 u172 u173 u174 u175 u176 u177 u178 u179 u180 u181 u182 u183 u184 : Value)
    (hQ : ∀ (v157 v158 v159 v160 v161 v162 v163 v164 v165 v166 v167 v168 v169 v170 v171 v172 v173 v174 v175 v176 v177 v178 v179 v180 v181 v182 v183 : Value) (nd : Nat), Q .normal ⟨#[u0, u1, u2, u3, u4, u5, u6, u7, u8, u9, .slice (some ⟨gx, 0, none⟩) n n, .slice (some ⟨gz, 0, none⟩) n n, u12, u13, .int .i64 (i : Int), u15, u16, u17, u18, u19, u20, .pointer (some ⟨gw, 0, none⟩), u22, u23, u24, u25, u26, u27, u28, u29, u30, u31, u32, u33, u34, u35, u36, u37, u38, u39, u40, u41, u42, u43, u44, u45, u46, u47, u48, u49, u50, u51, u52, u53, u54, u55, u56, u57, u58, u59, u60, u61, u62, u63, u64, u65, u66, u67, u68, u69, u70, u71, u72, u73, u74, u75, u76, u77, u78, u79, u80, u81, u82, u83, u84, u85, u86, u87, u88, u89, u90, u91, u92, u93, u94, u95, u96, u97, u98, u99, u100, u101, u102, u103, u104, u105, u106, u107, u108, u109, u110, u111, u112, u113, u114, u115, u116, u117, u118, u119, u120, u121, u122, u123, u124, u125, u126, u127, u128, u129, u130, u131, u132, u133, u134, u135, u136, u137, u138, u139, u140, u141, u142, u143, u144, u145, u146, u147, u148, u149, u150, u151, u152, u153, u154, u155, u156, v157, v158, v159, v160, v161, v162, v163, v164, v165, v166, v167, v168, v169, v170, v171, v172, v173, v174, v175, v176, v177, v178, v179, v180, v181, v182, v183, .bool false], []⟩ (w.drewN nd)) :
    Code.wp Talg.prog ((Talg.f3.body.bind (regionOf 33)).getD .skip) Q ⟨#[u0, u1, u2, u3, u4, u5, u6, u7, u8, u9, .slice (some ⟨gx, 0, none⟩) n n, .slice (some ⟨gz, 0, none⟩) n n, u12, u13, .int .i64 (i : Int), u15, u16, u17, u18, u19, u20, .pointer (some ⟨gw, 0, none⟩), u22, u23, u24, u25, u26, u27, u28, u29, u30, u31, u32, u33, u34, u35, u36, u37, u38, u39, u40, u41, u42, u43, u44, u45, u46, u47, u48, u49, u50, u51, u52, u53, u54, u55, u56, u57, u58, u59, u60, u61, u62, u63, u64, u65, u66, u67, u68, u69, u70, u71, u72, u73, u74, u75, u76, u77, u78, u79, u80, u81, u82, u83, u84, u85, u86, u87, u88, u89, u90, u91, u92, u93, u94, u95, u96, u97, u98, u99, u100, u101, u102, u103, u104, u105, u106, u107, u108, u109, u110, u111, u112, u113, u114, u115, u116, u117, u118, u119, u120, u121, u122, u123, u124, u125, u126, u127, u128, u129, u130, u131, u132, u133, u134, u135, u136, u137, u138, u139, u140, u141, u142, u143, u144, u145, u146, u147, u148, u149, u150, u151, u152, u153, u154, u155, u156, u157, u158, u159, u160, u161, u162, u163, u164, u165, u166, u167, u168, u169, u170, u171, u172, u173, u174, u175, u176, u177, u178, u179, u180, u181, u182, u183, u184], []⟩ w := by
  have hg := eqGuard31
  have q1 : (i : Int) < (n : Int) := by omega
  conv => arg 2; whnf
  refine wp_region_quiet_lit (by kernel_rfl) (by kernel_rfl) ?_
  go_simp
  go_big_quiet_step (fail)
  go_big_quiet_step (fail)
  go_big_quiet_step (fail)
  go_big_quiet_step (fail)
  refine BigFrame.wpQuiet_want rfl fun K hK => quiet_load_at _ rfl ⟨gx, i * 69 + 1, none⟩ rfl A (by rintro w' ⟨n, rfl⟩; exact hL1 n) (hK _ ?_)
  go_simp
  refine BigFrame.wpQuiet_want rfl fun K hK => quiet_load_at _ rfl ⟨gw, 0, none⟩ rfl A (by rintro w' ⟨n, rfl⟩; exact hL2 n) (hK _ ?_)
  go_simp
  repeat (go_big_quiet_step (first | (go_at_call 18; exact Calls.quiet_of_same (b64_any _ _)) | (go_at_call 17; exact Calls.quiet_of_same (bitsC_any _ _ _))))
  refine wpQuiet_nil ?_
  intro nd
  exact hQ _ _ _ _ _ _ _ _ _ _ _ _ _ _ _ _ _ _ _ _ _ _ _ _ _ _ _ nd
end Go.Proofs.Ygctal
