import Derived.Test.YgctalSk
namespace Go.Proofs.Ygctal
open Go.RowKit
set_option maxHeartbeats 4000000
set_option linter.unusedVariables false
set_option linter.unusedSimpArgs false

def wv (a : List Nat) : List Value := a.map fun n : Nat => Value.int .u64 (n : Int)
theorem wv_len (a : List Nat) : (wv a).length = a.length := by simp [wv]
theorem wv_one (a : List Nat) : ∀ v ∈ wv a, v.oneCell' = true := by
  intro v hv
  simp only [wv, List.mem_map] at hv
  obtain ⟨n, _, rfl⟩ := hv
  rfl
theorem acc_range {w : World} {g T : Nat} {a : List Nat} (h : AccB w g T a) : w.rangeAt g 0 (wv a) := by
  intro j v hv
  have hj : j < a.length := by have := (List.getElem?_eq_some_iff.1 hv).1; rwa [wv_len] at this
  rw [Nat.zero_add, h.cell hj]
  simp only [wv, List.getElem?_map, List.getElem?_eq_getElem hj, Option.map_some] at hv
  rw [← hv, List.getD_eq_getElem?_getD, List.getElem?_eq_getElem hj]
  rfl
theorem acc_there {w : World} {g T : Nat} {a : List Nat} (h : AccB w g T a) (hl : a.length = 68) : w.there g 0 68 := by
  intro j hj
  rw [Nat.zero_add, h.cell (by omega)]
  exact ⟨rfl, h.free j⟩
theorem range_below {w w' : World} {g o B : Nat} {cs : List Value} (h : w.rangeAt g o cs) (hb : Below B w w') (hg : g < B) : w'.rangeAt g o cs := by
  intro j v hv
  rw [hb.cell (p := ⟨g, o + j, none⟩) hg]
  exact h j v hv
theorem there_below {w w' : World} {g o n B : Nat} (h : w.there g o n) (hb : Below B w w') (hg : g < B) : w'.there g o n := by
  intro j hj
  rw [hb.cell (p := ⟨g, o + j, none⟩) hg, hb.frozen (p := ⟨g, o + j, none⟩) hg]
  exact h j hj
theorem below_cells {B : Nat} {w w' : World} (h : Below B w w') {g : Nat} (o : Nat) (vs : List Value) (hg : B ≤ g) : Below B w (w'.setCells g o vs) := by
  induction vs generalizing o w' with
  | nil => exact h
  | cons v vs ih => exact ih (h.setCell (p := ⟨g, o, none⟩) hg v) (o + 1)
theorem joined_any (a b co : List Nat) (u v o go : Nat) (p : Bool) (w : World) (hv : v < 1208925819614629174706176) (zu : AccOf a (u : Int)) (zv : AccOf b (v : Int)) (zo : AccOf co (o : Int)) (hO : AccB w go 31 co) :
    Calls Talg.prog 47 #[.agg (accArr a), .agg (accArr b), .bool p, .pointer (some ⟨go, 0, none⟩)] w fun e w' => ∃ c, e = .returned (.agg (accArr c)) ∧ AccOf c ((jnd u v o p : Nat) : Int) ∧ Below w.heap.size w w' := by
  cases p
  · exact joined_spread a b co u v o go w hv zu zv zo hO
  · exact joined_plain a b co u v o go w zu zv zo hO
set_option maxRecDepth 1000000 in
theorem st_r15 {Q : Exit → Act → World → Prop} (w : World) (gu gv ge go u v o : Nat) (a b co : List Nat) (z : Nat × Nat)
    (hz1 : Fl.Fin z.1) (hz2 : Fl.Fin z.2)
    (hA : w.rangeAt gu 0 (wv a)) (hB : w.rangeAt gv 0 (wv b)) (hO : AccB w go 31 co) (hE : w.there ge 0 68) (hu : gu < ge) (hv : gv < ge) (ho : go < ge) (hge : ge < w.heap.size)
    (za : AccOf a (u : Int)) (zb : AccOf b (v : Int)) (zo : AccOf co (o : Int)) (hvb : v < 1208925819614629174706176) (hla : a.length = 68) (hlb : b.length = 68)
    (u0 u1 u2 u3 u4 u5 u6 u7 u8 u9 u10 u12 u17 u18 u19 u20 u21 u22 u23 u24 u25 u26 u27 u28 u29 u30 u31 u32 u33 u34 u35 u36 u37 u38 u39 u40 u41 u42 u43 u44 u45 u46 u47 u48 u49 u50 u51 u52 u53 u54 u55 u56 u57 u58 u59 u60 u61 u62 u63 u64 u65 u66 u67 u68 u69 u70 u71 u72 u73 u74 u75 u76 u77 u78 u79 u80 u81 u82 u83 u84 u85 u86 u87 u88 u89 u90 u91 u92 u93 u94 u95 u96 u97 u98 u99 u100 u101 u102 u103 u104 u105 u106 u107 u108 u109 u110 u111 u112 u113 u114 u115 u116 u117 u118 u119 u120 u121 u122 u123 u124 u125 u126 u127 u128 u129 u130 u131 u132 u133 u134 u135 u136 u137 u138 u139 u140 u141 u142 u143 u144 : Value)
    (hQ : ∀ (v110 v111 v112 v113 v114 : Value) (w' : World) (c : List Nat), Below ge w w' → w'.there ge 0 68 → AccOf c ((jnd u v o (Fl.plainB z) : Nat) : Int) → Q .normal ⟨#[u0, u1, u2, u3, u4, u5, u6, u7, u8, u9, u10, .pointer (some ⟨go, 0, none⟩), u12, .complex .f64 z.1 z.2, .pointer (some ⟨gu, 0, none⟩), .pointer (some ⟨gv, 0, none⟩), .pointer (some ⟨ge, 0, none⟩), u17, u18, u19, u20, u21, u22, u23, u24, u25, u26, u27, u28, u29, u30, u31, u32, u33, u34, u35, u36, u37, u38, u39, u40, u41, u42, u43, u44, u45, u46, u47, u48, u49, u50, u51, u52, u53, u54, u55, u56, u57, u58, u59, u60, u61, u62, u63, u64, u65, u66, u67, u68, u69, u70, u71, u72, u73, u74, u75, u76, u77, u78, u79, u80, u81, u82, u83, u84, u85, u86, u87, u88, u89, u90, u91, u92, u93, u94, u95, u96, u97, u98, u99, u100, u101, u102, u103, u104, u105, u106, u107, u108, u109, v110, v111, v112, v113, v114, u115, u116, u117, u118, u119, u120, u121, u122, u123, u124, u125, u126, u127, u128, u129, u130, u131, u132, u133, u134, u135, u136, u137, u138, u139, u140, u141, u142, u143, u144], []⟩ (w'.setCells ge 0 (wv c))) :
    Code.wp Talg.prog ((Talg.f14.body.bind (regionOf 15)).getD .skip) Q ⟨#[u0, u1, u2, u3, u4, u5, u6, u7, u8, u9, u10, .pointer (some ⟨go, 0, none⟩), u12, .complex .f64 z.1 z.2, .pointer (some ⟨gu, 0, none⟩), .pointer (some ⟨gv, 0, none⟩), .pointer (some ⟨ge, 0, none⟩), u17, u18, u19, u20, u21, u22, u23, u24, u25, u26, u27, u28, u29, u30, u31, u32, u33, u34, u35, u36, u37, u38, u39, u40, u41, u42, u43, u44, u45, u46, u47, u48, u49, u50, u51, u52, u53, u54, u55, u56, u57, u58, u59, u60, u61, u62, u63, u64, u65, u66, u67, u68, u69, u70, u71, u72, u73, u74, u75, u76, u77, u78, u79, u80, u81, u82, u83, u84, u85, u86, u87, u88, u89, u90, u91, u92, u93, u94, u95, u96, u97, u98, u99, u100, u101, u102, u103, u104, u105, u106, u107, u108, u109, u110, u111, u112, u113, u114, u115, u116, u117, u118, u119, u120, u121, u122, u123, u124, u125, u126, u127, u128, u129, u130, u131, u132, u133, u134, u135, u136, u137, u138, u139, u140, u141, u142, u143, u144], []⟩ w := by
  conv => arg 2; whnf
  refine wp_region_noPanic ?_
  refine wp_region_held_drew (S := fun w' => Below ge w w' ∧ w'.there ge 0 68) (by kernel_rfl) ?_ (fun hHeld => ?_)
  · exact ⟨(Below.refl _ _).drew, (World.there_drew _ _ _ _).2 hE⟩
  change wpAnyH Talg.prog .any _ _ _ 6 #[false, false, false, false, false, false] _ _
  refine wpAnyH_take (i := 0) gt0 (by kernel_rfl) (by kernel_rfl) (by kernel_rfl) (fun _ _ _ h => h) (yieldsIf_load_mid (by rfl) 31 _ rfl gu (0) rfl (wv a) _ (fun w hSw => (range_below hA hSw.1 hu)) Talg.underlying31 rfl (by rw [wv_len, hla]; exact acc_info)) hHeld ?_
  simp only [Act.put, List.setIfInBounds_toArray, List.set_cons_zero, List.set_cons_succ]
  refine wpAnyH_take (i := 1) gt1 (by kernel_rfl) (by kernel_rfl) (by kernel_rfl) (fun _ _ _ h => h) (yieldsIf_load_mid (by rfl) 31 _ rfl gv (0) rfl (wv b) _ (fun w hSw => (range_below hB hSw.1 hv)) Talg.underlying31 rfl (by rw [wv_len, hlb]; exact acc_info)) hHeld ?_
  simp only [Act.put, List.setIfInBounds_toArray, List.set_cons_zero, List.set_cons_succ]
  refine wpAnyH_take (i := 2) (v := ?_) gt2 (by kernel_rfl) (by kernel_rfl) (by kernel_rfl) (fun _ _ _ h => h) (Or.inl ⟨by rfl, ?_⟩) hHeld ?_
  rotate_left
  · intro w hSw; go_simp; try with_reducible rfl
  simp only [Act.put, List.setIfInBounds_toArray, List.set_cons_zero, List.set_cons_succ]
  refine wpAnyH_ready (rs := [3]) (by kernel_rfl) (by simp) ?_
  refine AllReadyH.cons gt3 (fun K hK => ?_) AllReadyH.nil
  rw [if_pos (by rfl)]
  go_simp
  refine (plain_any z hz1 hz2 _).mono ?_
  rintro e wx ⟨rfl, hwx⟩
  subst wx
  refine hK.out _ _ hHeld (fun hHeld => ?_)
  clear hK K
  simp only [Act.put, List.setIfInBounds_toArray, List.set_cons_zero, List.set_cons_succ]
  refine wpAnyH_ready (rs := [4]) (by kernel_rfl) (by simp) ?_
  refine AllReadyH.cons gt4 (fun K hK => ?_) AllReadyH.nil
  rw [if_pos (by rfl)]
  go_simp
  refine (joined_any a b co u v o go (Fl.plainB z) _ hvb za zb zo (hO.below hHeld.1 ho)).mono ?_
  rintro e w2 ⟨c, rfl, hc, hb⟩
  refine hK.out _ _ ⟨hHeld.1.trans (hb.mono (Nat.le_of_lt (Nat.lt_of_lt_of_le hge hHeld.1.size))), there_below hHeld.2 hb (Nat.lt_of_lt_of_le hge hHeld.1.size)⟩ (fun hHeld => ?_)
  clear hK K
  simp only [Act.put, List.setIfInBounds_toArray, List.set_cons_zero, List.set_cons_succ]
  have hlc : c.length = 68 := hc.1
  refine wpAnyH_ready (rs := [5]) (by kernel_rfl) (by simp) ?_
  refine AllReadyH.cons gt5 (fun K hK => ?_) AllReadyH.nil
  rw [if_pos (by rfl)]
  refine wp_store_mid 31 _ _ rfl ge 0 (accArr c) rfl rfl (by rw [accArr_size, hlc]; exact hHeld.2) (by rw [accArr_size, hlc]; exact acc_info) (accArr_one _) ?_
  refine hK.out _ _ ⟨below_cells hHeld.1 _ _ (Nat.le_refl _), World.there_setCells hHeld.2 _ _ _⟩ (fun hHeld2 => ?_)
  clear hK K
  simp only [Act.put, List.setIfInBounds_toArray, List.set_cons_zero, List.set_cons_succ]
  refine wpAnyH_done (by kernel_rfl) ?_ _
  exact hQ _ _ _ _ _ _ c hHeld.1 hHeld.2 hc
end Go.Proofs.Ygctal
