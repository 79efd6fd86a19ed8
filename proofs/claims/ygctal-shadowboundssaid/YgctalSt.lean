import Derived.Test.YgctalSr
namespace Go.Proofs.Ygctal
open Go.RowKit
set_option maxHeartbeats 4000000
set_option linter.unusedVariables false
set_option linter.unusedSimpArgs false

theorem yieldsIf_build {P : Program} {ops : Array Oper} {S : World → Prop} {op : Oper} {a : Act} (hw : Region.wanted op (yielded ops a.tmps) = true) (t : TypeId) (parts : Array (Nat × Operand)) (ho : op.op = .build t parts) (cells : Array Value)
    (hb : P.built t (parts.map fun (i, x) => (i, a.eval x)).toList = some cells) : YieldsIf P ops S op (.agg cells) a :=
  .inl ⟨hw, fun w _ => by
    have := run_build (P := P) w t (parts.map fun (i, x) => (i, a.eval x)) cells hb
    unfold execOp
    simp only [ho, Sem.run_bind, this, Result.andThen_ok, Sem.run_pure]⟩
theorem yieldsIf_build1 {P : Program} {ops : Array Oper} {S : World → Prop} {op : Oper} {a : Act} (hw : Region.wanted op (yielded ops a.tmps) = true) (t : TypeId) (i0 : Nat) (x0 : Operand) (ho : op.op = .build t #[(i0, x0)]) (v0 : Value) (h0 : a.eval x0 = v0) (cells : Array Value)
    (hb : P.built t [(i0, v0)] = some cells) : YieldsIf P ops S op (.agg cells) a :=
  yieldsIf_build hw t _ ho cells (by simp only [List.map_toArray, List.map_cons, List.map_nil, h0]; exact hb)
theorem yieldsIf_build2 {P : Program} {ops : Array Oper} {S : World → Prop} {op : Oper} {a : Act} (hw : Region.wanted op (yielded ops a.tmps) = true) (t : TypeId) (i0 i1 : Nat) (x0 x1 : Operand) (ho : op.op = .build t #[(i0, x0), (i1, x1)]) (v0 v1 : Value) (h0 : a.eval x0 = v0) (h1 : a.eval x1 = v1) (cells : Array Value)
    (hb : P.built t [(i0, v0), (i1, v1)] = some cells) : YieldsIf P ops S op (.agg cells) a :=
  yieldsIf_build hw t _ ho cells (by simp only [List.map_toArray, List.map_cons, List.map_nil, h0, h1]; exact hb)
def ptArr (z : Nat × Nat) (a : List Nat) : Array Value := (cplx z :: wv a).toArray
theorem built_one (m : Nat) : Talg.prog.built 31 [(0, .int .u64 (m : Int))] = some (accArr (one68 m 0)) := by kernel_rfl
theorem built_pt (z : Nat × Nat) (m : Nat) : Talg.prog.built 33 [(0, .complex .f64 z.1 z.2), (1, .agg (accArr (one68 m 0)))] = some (ptArr z (one68 m 0)) := by kernel_rfl
theorem info33 : (Talg.prog.info? 33).map (·.size) = some 69 := by kernel_rfl
theorem pt_one (z : Nat × Nat) (a : List Nat) : ∀ v ∈ cplx z :: wv a, v.oneCell' = true := by
  intro v hv
  rcases List.mem_cons.1 hv with rfl | hv
  · rfl
  · exact wv_one a v hv
set_option maxRecDepth 1000000 in
theorem sb_r12 {Q : Exit → Act → World → Prop} (w : World) (b off len cap gx gz n i e : Nat) (z : Nat × Nat) (hi : i < n) (hil : i < len)
    (hC : w.cell? ⟨gz, i, none⟩ = some (.complex .f64 z.1 z.2)) (hE : w.cell? ⟨b, off + i, none⟩ = some (.int .u64 (e : Int))) (hT : w.there gx (i * 69) 69) (hn1 : gz ≠ gx) (hn2 : b ≠ gx)
    (u1 u2 u3 u4 u5 u6 u7 u8 u9 u13 u14 u15 u16 u17 u18 u19 u20 u21 u22 u23 u24 u25 u26 u27 u28 u29 u30 u31 u32 u33 u34 u35 u36 u37 u38 u39 u40 u41 u42 u43 u44 u45 u46 u47 u48 u49 u50 u51 u52 u53 u54 u55 u56 u57 u58 u59 u60 u61 u62 u63 u64 u65 u66 u67 u68 u69 u70 u71 u72 u73 u74 u75 u76 u77 u78 u79 u80 u81 u82 u83 u84 u85 u86 u87 u88 u89 u90 u91 u92 u93 u94 u95 u96 u97 u98 u99 u100 u101 u102 u103 u104 u105 u106 u107 u108 u109 u110 u111 u112 u113 u114 u115 u116 u117 u118 u119 u120 u121 u122 u123 u124 u125 u126 u127 u128 u129 u130 u131 u132 u133 u134 u135 u136 u137 u138 u139 u140 u141 u142 u143 u144 u145 u146 u147 u148 u149 u150 u151 u152 u153 u154 u155 u156 u157 u158 u159 u160 u161 u162 u163 u164 u165 u166 u167 u168 u169 u170 u171 u172 u173 u174 u175 u176 u177 u178 u179 u180 u181 u182 u183 u184 : Value)
    (hQ : ∀ v60 v61 v62 v63 v64 v65 v66 v67 v68 v69 v70 v71 v72 : Value, Q .normal ⟨#[.slice (some ⟨b, off, none⟩) len cap, u1, u2, u3, u4, u5, u6, u7, u8, u9, .slice (some ⟨gx, 0, none⟩) n n, .slice (some ⟨gz, 0, none⟩) n n, .int .i64 (i : Int), u13, u14, u15, u16, u17, u18, u19, u20, u21, u22, u23, u24, u25, u26, u27, u28, u29, u30, u31, u32, u33, u34, u35, u36, u37, u38, u39, u40, u41, u42, u43, u44, u45, u46, u47, u48, u49, u50, u51, u52, u53, u54, u55, u56, u57, u58, u59, v60, v61, v62, v63, v64, v65, v66, v67, v68, v69, v70, v71, v72, u73, u74, u75, u76, u77, u78, u79, u80, u81, u82, u83, u84, u85, u86, u87, u88, u89, u90, u91, u92, u93, u94, u95, u96, u97, u98, u99, u100, u101, u102, u103, u104, u105, u106, u107, u108, u109, u110, u111, u112, u113, u114, u115, u116, u117, u118, u119, u120, u121, u122, u123, u124, u125, u126, u127, u128, u129, u130, u131, u132, u133, u134, u135, u136, u137, u138, u139, u140, u141, u142, u143, u144, u145, u146, u147, u148, u149, u150, u151, u152, u153, u154, u155, u156, u157, u158, u159, u160, u161, u162, u163, u164, u165, u166, u167, u168, u169, u170, u171, u172, u173, u174, u175, u176, u177, u178, u179, u180, u181, u182, u183, u184], []⟩ (w.drew.setCells gx (i * 69) (cplx z :: wv (one68 e 0)))) :
    Code.wp Talg.prog ((Talg.f3.body.bind (regionOf 12)).getD .skip) Q ⟨#[.slice (some ⟨b, off, none⟩) len cap, u1, u2, u3, u4, u5, u6, u7, u8, u9, .slice (some ⟨gx, 0, none⟩) n n, .slice (some ⟨gz, 0, none⟩) n n, .int .i64 (i : Int), u13, u14, u15, u16, u17, u18, u19, u20, u21, u22, u23, u24, u25, u26, u27, u28, u29, u30, u31, u32, u33, u34, u35, u36, u37, u38, u39, u40, u41, u42, u43, u44, u45, u46, u47, u48, u49, u50, u51, u52, u53, u54, u55, u56, u57, u58, u59, u60, u61, u62, u63, u64, u65, u66, u67, u68, u69, u70, u71, u72, u73, u74, u75, u76, u77, u78, u79, u80, u81, u82, u83, u84, u85, u86, u87, u88, u89, u90, u91, u92, u93, u94, u95, u96, u97, u98, u99, u100, u101, u102, u103, u104, u105, u106, u107, u108, u109, u110, u111, u112, u113, u114, u115, u116, u117, u118, u119, u120, u121, u122, u123, u124, u125, u126, u127, u128, u129, u130, u131, u132, u133, u134, u135, u136, u137, u138, u139, u140, u141, u142, u143, u144, u145, u146, u147, u148, u149, u150, u151, u152, u153, u154, u155, u156, u157, u158, u159, u160, u161, u162, u163, u164, u165, u166, u167, u168, u169, u170, u171, u172, u173, u174, u175, u176, u177, u178, u179, u180, u181, u182, u183, u184], []⟩ w := by
  have q1 : (i : Int) < (n : Int) := by omega
  have q2 : (i : Int) < (len : Int) := by omega
  have hl69 : (cplx z :: wv (one68 e 0)).length = 69 := by simp [wv_len, one68_len]
  conv => arg 2; whnf
  refine wp_region_noPanic ?_
  refine wp_region_held_drew (S := fun w' => w'.cell? ⟨gz, i, none⟩ = some (.complex .f64 z.1 z.2) ∧ w'.cell? ⟨b, off + i, none⟩ = some (.int .u64 (e : Int)) ∧ w'.there gx (i * 69) 69) (by kernel_rfl) ?_ (fun hHeld => ?_)
  · exact ⟨hC, hE, (World.there_drew _ _ _ _).2 hT⟩
  change wpAnyH Talg.prog .any _ _ _ 14 #[false, false, false, false, false, false, false, false, false, false, false, false, false, false] _ _
  refine wpAnyH_take (i := 0) (v := ?_) gt0 (by kernel_rfl) (by kernel_rfl) (by kernel_rfl) (fun _ _ _ h => h) (Or.inl ⟨by rfl, ?_⟩) hHeld ?_
  rotate_left
  · intro w hSw; have h1 := hSw.1; have h2 := hSw.2.1; clear hSw; go_simp; try with_reducible rfl
  simp only [Act.put, List.setIfInBounds_toArray, List.set_cons_zero, List.set_cons_succ]
  refine wpAnyH_take (i := 1) (v := ?_) gt1 (by kernel_rfl) (by kernel_rfl) (by kernel_rfl) (fun _ _ _ h => h) (Or.inl ⟨by rfl, ?_⟩) hHeld ?_
  rotate_left
  · intro w hSw; have h1 := hSw.1; have h2 := hSw.2.1; clear hSw; go_simp; try with_reducible rfl
  simp only [Act.put, List.setIfInBounds_toArray, List.set_cons_zero, List.set_cons_succ]
  refine wpAnyH_take (i := 2) (v := ?_) gt2 (by kernel_rfl) (by kernel_rfl) (by kernel_rfl) (fun _ _ _ h => h) (Or.inl ⟨by rfl, ?_⟩) hHeld ?_
  rotate_left
  · intro w hSw; have h1 := hSw.1; have h2 := hSw.2.1; clear hSw; go_simp; try with_reducible rfl
  simp only [Act.put, List.setIfInBounds_toArray, List.set_cons_zero, List.set_cons_succ]
  refine wpAnyH_take (i := 3) (v := ?_) gt3 (by kernel_rfl) (by kernel_rfl) (by kernel_rfl) (fun _ _ _ h => h) (Or.inl ⟨by rfl, ?_⟩) hHeld ?_
  rotate_left
  · intro w hSw; have h1 := hSw.1; have h2 := hSw.2.1; clear hSw; go_simp; try with_reducible rfl
  simp only [Act.put, List.setIfInBounds_toArray, List.set_cons_zero, List.set_cons_succ]
  refine wpAnyH_take (i := 4) (v := ?_) gt4 (by kernel_rfl) (by kernel_rfl) (by kernel_rfl) (fun _ _ _ h => h) (Or.inl ⟨by rfl, ?_⟩) hHeld ?_
  rotate_left
  · intro w hSw; have h1 := hSw.1; have h2 := hSw.2.1; clear hSw; go_simp; try with_reducible rfl
  simp only [Act.put, List.setIfInBounds_toArray, List.set_cons_zero, List.set_cons_succ]
  refine wpAnyH_take (i := 5) (v := ?_) gt5 (by kernel_rfl) (by kernel_rfl) (by kernel_rfl) (fun _ _ _ h => h) (Or.inl ⟨by rfl, ?_⟩) hHeld ?_
  rotate_left
  · intro w hSw; have h1 := hSw.1; have h2 := hSw.2.1; clear hSw; go_simp; try with_reducible rfl
  simp only [Act.put, List.setIfInBounds_toArray, List.set_cons_zero, List.set_cons_succ]
  refine wpAnyH_take (i := 6) (v := ?_) gt6 (by kernel_rfl) (by kernel_rfl) (by kernel_rfl) (fun _ _ _ h => h) (Or.inl ⟨by rfl, ?_⟩) hHeld ?_
  rotate_left
  · intro w hSw; have h1 := hSw.1; have h2 := hSw.2.1; clear hSw; go_simp; try with_reducible rfl
  simp only [Act.put, List.setIfInBounds_toArray, List.set_cons_zero, List.set_cons_succ]
  refine wpAnyH_take (i := 7) (v := ?_) gt7 (by kernel_rfl) (by kernel_rfl) (by kernel_rfl) (fun _ _ _ h => h) (Or.inl ⟨by rfl, ?_⟩) hHeld ?_
  rotate_left
  · intro w hSw; have h1 := hSw.1; have h2 := hSw.2.1; clear hSw; go_simp; try with_reducible rfl
  simp only [Act.put, List.setIfInBounds_toArray, List.set_cons_zero, List.set_cons_succ]
  refine wpAnyH_take (i := 8) (v := ?_) gt8 (by kernel_rfl) (by kernel_rfl) (by kernel_rfl) (fun _ _ _ h => h) (Or.inl ⟨by rfl, ?_⟩) hHeld ?_
  rotate_left
  · intro w hSw; have h1 := hSw.1; have h2 := hSw.2.1; clear hSw; go_simp; try with_reducible rfl
  simp only [Act.put, List.setIfInBounds_toArray, List.set_cons_zero, List.set_cons_succ]
  refine wpAnyH_take (i := 9) (v := ?_) gt9 (by kernel_rfl) (by kernel_rfl) (by kernel_rfl) (fun _ _ _ h => h) (Or.inl ⟨by rfl, ?_⟩) hHeld ?_
  rotate_left
  · intro w hSw; have h1 := hSw.1; have h2 := hSw.2.1; clear hSw; go_simp; try with_reducible rfl
  simp only [Act.put, List.setIfInBounds_toArray, List.set_cons_zero, List.set_cons_succ]
  refine wpAnyH_take (i := 10) gt10 (by kernel_rfl) (by kernel_rfl) (by kernel_rfl) (fun _ _ _ h => h) (yieldsIf_build1 (by rfl) 31 0 _ rfl (.int .u64 (e : Int)) rfl (accArr (one68 e 0)) (built_one e)) hHeld ?_
  simp only [Act.put, List.setIfInBounds_toArray, List.set_cons_zero, List.set_cons_succ]
  refine wpAnyH_take (i := 11) gt11 (by kernel_rfl) (by kernel_rfl) (by kernel_rfl) (fun _ _ _ h => h) (yieldsIf_build2 (by rfl) 33 0 1 _ _ rfl (.complex .f64 z.1 z.2) (.agg (accArr (one68 e 0))) rfl rfl (ptArr z (one68 e 0)) (built_pt z e)) hHeld ?_
  simp only [Act.put, List.setIfInBounds_toArray, List.set_cons_zero, List.set_cons_succ]
  refine wpAnyH_take (i := 12) (v := ?_) gt12 (by kernel_rfl) (by kernel_rfl) (by kernel_rfl) (fun _ _ _ h => h) (Or.inl ⟨by rfl, ?_⟩) hHeld ?_
  rotate_left
  · intro w hSw; have h1 := hSw.1; have h2 := hSw.2.1; clear hSw; go_simp; try with_reducible rfl
  simp only [Act.put, List.setIfInBounds_toArray, List.set_cons_zero, List.set_cons_succ]
  refine wpAnyH_ready (rs := [13]) (by kernel_rfl) (by simp) ?_
  refine AllReadyH.cons gt13 (fun K hK => ?_) AllReadyH.nil
  rw [if_pos (by rfl)]
  refine wp_store_mid 33 _ _ rfl gx (i * 69) (ptArr z (one68 e 0)) rfl rfl (by unfold ptArr; rw [List.size_toArray, hl69]; exact hHeld.2.2) (by unfold ptArr; rw [List.size_toArray, hl69]; exact info33) (all_oneCell_toArray (pt_one _ _)) ?_
  refine hK.out _ _ ⟨?_, ?_, World.there_setCells hHeld.2.2 _ _ _⟩ (fun hHeld2 => ?_)
  · rw [World.cell?_setCells_out gx _ _ _ _ (fun hh _ => absurd hh hn1)]; exact hHeld.1
  · rw [World.cell?_setCells_out gx _ _ _ _ (fun hh _ => absurd hh hn2)]; exact hHeld.2.1
  clear hK K
  simp only [Act.put, List.setIfInBounds_toArray, List.set_cons_zero, List.set_cons_succ]
  refine wpAnyH_done (by kernel_rfl) ?_ _
  exact hQ _ _ _ _ _ _ _ _ _ _ _ _ _
end Go.Proofs.Ygctal
