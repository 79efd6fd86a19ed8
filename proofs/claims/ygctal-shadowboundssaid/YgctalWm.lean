import Derived.Test.YgctalWl
namespace Go.Proofs.Ygctal
open Go.RowKit
set_option maxHeartbeats 2000000
set_option linter.unusedVariables false

/-! Finish of a list that the call owns; Fsum. -/
theorem Own.fr {w : World} {base g n c : Nat} {ps : List Nat} (h : Own w base (.slice (some ⟨g, 0, none⟩) n c) ps) : n = ps.length ∧ FR w g 0 ps := by
  have hn : n = ps.length := by
    obtain ⟨_, h2⟩ := h
    rcases h2 with ⟨h3, _⟩ | ⟨g', cap', cur, hv, _⟩
    · simp at h3
    · simp only [Value.slice.injEq] at hv; exact hv.2.1
  subst hn
  refine ⟨rfl, ?_⟩
  obtain ⟨cs, c1, c2, c3, c4, _⟩ := blk_of_owns h
  intro i hi
  rw [Nat.zero_add, c1.cell]
  have h1 : (cs.take ps.length)[i]? = (ps.map (Value.float .f64))[i]? := by rw [c3]
  rw [List.getElem?_take, if_pos hi] at h1
  rw [h1]
  simp [List.getD_eq_getElem?_getD, List.getElem?_eq_getElem hi]
/-- The shapes of an owned slice. -/
theorem Own.shape {w : World} {base : Nat} {v : Value} {ps : List Nat} (h : Own w base v ps) : (v = .slice none 0 0 ∧ ps = []) ∨ ∃ g c, v = .slice (some ⟨g, 0, none⟩) ps.length c ∧ base ≤ g ∧ g < w.heap.size := by
  obtain ⟨_, h2⟩ := h
  rcases h2 with ⟨h3, h4⟩ | ⟨g, cap, cur, hv, hg, hh, _⟩
  · exact .inl ⟨h3, List.eq_nil_of_length_eq_zero h4⟩
  · exact .inr ⟨g, cap, hv, hg, lt_of_block hh⟩
theorem finish_any {k : Nat} {t : Int} (base : Nat) (v : Value) (ps : List Nat) (w : World) (ho : Own w base v ps) (hinv : Fl.GrowInv k ps t) (hk : k ≤ 1025) :
    Calls Talg.prog 23 #[v] w fun e w' => e = .returned (.float .f64 (Fl.finB ps)) ∧ w' = w := by
  rcases ho.shape with ⟨rfl, rfl⟩ | ⟨g, c, rfl, _, _⟩
  · exact finish_nil none 0 w
  · by_cases h0 : ps.length = 0
    · obtain rfl : ps = [] := List.eq_nil_of_length_eq_zero h0
      exact finish_nil _ _ w
    · exact finish_some g 0 c ps w ho.fr.2 h0 (Nat.le_trans hinv.len hk) (Fl.froom_start hinv hk h0)

def fsumB (fs : List Nat) : Nat := Fl.finB (Fl.growAll [] fs)

set_option maxRecDepth 100000 in
theorem fsum_shew (b off c : Nat) (fs : List Nat) (w : World) (hn : fs.length ≤ 1024) (hr : FR w b off fs) (hbw : b < w.heap.size) (hw : Wds fs) (had : Fl.Adm fs) :
    Calls Talg.prog 22 #[.slice (some ⟨b, off, none⟩) fs.length c] w fun e w' => e = .returned (.float .f64 (fsumB fs)) ∧ Below w.heap.size w w' := by
  obtain ⟨i0, hi, hz0, hz1, hz2⟩ := info_parts Talg.info29
  have h1 := refused_shew_short b off c fs w hn hr
  rw [(refused_iff hw).2 had] at h1
  have H1 := hide h1
  clear h1
  go_enter Talg.func22, Talg.ntmps22
  go_wp2_with (first | (go_at_call 53; refine (Hid.out H1).mono ?_; rintro e w' ⟨rfl, rfl⟩) | (at_make; refine wpList_make_own _ rfl _ _ 42 rfl w'.heap.size 29 i0 (.float .f64 0) 1 Talg.underlying42 hi hz0 hz1 _ _ _ 1025 rfl rfl (by omega) (by rw [hz2]; omega) (by unfold maxLen; omega) (Nat.le_refl _) ?_; intro w1 hown hgrow))
  have HO := hide (show Own w1 w'.heap.size (.slice (some ⟨w'.heap.size, 0, none⟩) 0 1025) [] from hown)
  have HB := hide ((Below.refl w'.heap.size w').grown hgrow (Nat.le_refl _) (fun k h => by cases h))
  clear hown hgrow H1
  go_loopw [3, 4] (fun v i wr => ∃ k : Nat, k ≤ fs.length ∧ i = .int .i64 k ∧ Hid (Own wr w'.heap.size v (Fl.growAll [] (fs.take k)) ∧ Below w'.heap.size w' wr)) (fun _ i _ => fs.length - (intOf i).toNat)
  case atStart => exact ⟨0, by omega, rfl, HO.out, HB.out⟩
  case round =>
    clear HO HB
    obtain ⟨k, hk, rfl, HG⟩ := hrel
    have hinv := Fl.growAll_inv had (by omega) k hk
    by_cases hlt : k < fs.length
    · have hcell := (HG.out.2.cell (p := ⟨b, off + k, none⟩) hbw).trans (hr k hlt)
      have hx := had k hlt
      have HGrow := hide (grow_any w'.heap.size _ _ (fs.getD k 0) wr HG.out.1 HG.out.2.size (by have := hinv.len; omega) (hinv.room (by omega) hx))
      have HS := hide (Fl.growAll_succ fs k hlt)
      have HB := hide HG.out.2
      clear HG hinv hx
      generalize fs.getD k 0 = x at *
      go_wp2_with (go_at_call 25; refine (Hid.out HGrow).mono ?_; rintro e w2 ⟨v', rfl, ho', hb'⟩)
      go_roundw
      case rel => exact ⟨k + 1, by omega, by go_num, by rw [HS.out]; exact ho', HB.out.trans hb'⟩
      case measure => simp [intOf]; omega
    · obtain rfl : k = fs.length := by omega
      rw [List.take_length] at HG hinv
      have HFin := hide (finish_any w'.heap.size _ _ wr HG.out.1 hinv (by omega))
      have HB := hide HG.out.2
      clear HG hinv
      go_wp2_with (go_at_call 23; refine (Hid.out HFin).mono ?_; rintro e w2 ⟨rfl, rfl⟩)
      go_ret
      exact ⟨rfl, HB.out⟩

/-- A refused list: no number. -/
theorem fsum_shew_bad (a : Option Addr) (n c : Nat) (w : World) (h : Calls Talg.prog 53 #[.slice a n c] w fun e w' => e = .returned (.bool true) ∧ w' = w) :
    Calls Talg.prog 22 #[.slice a n c] w fun e w' => ∃ x, NaNw x ∧ e = .returned (.float .f64 x) ∧ w' = w.drew := by
  have H1 := hide h
  clear h
  go_enter Talg.func22, Talg.ntmps22
  go_wp2_with (first | (go_at_call 53; refine (Hid.out H1).mono ?_; rintro e w' ⟨rfl, rfl⟩) | (go_at_call 54; refine (nan_shew_any _).mono ?_; rintro e w2 ⟨x, hx, rfl, rfl⟩))
  go_ret
  exact ⟨x, hx, rfl, rfl⟩
theorem fsum_sum (a : Option Addr) (n c : Nat) (w : World) (Q : Ending → World → Prop) (h : Calls Talg.prog 22 #[.slice a n c] w fun e w' => ∃ x, e = .returned (.float .f64 x) ∧ Q e w') :
    Calls Talg.prog 21 #[.slice a n c] w fun e w' => ∃ x, e = .returned (.float .f64 x) ∧ Q e w' := by
  have H1 := hide h
  clear h
  go_enter Talg.func21, Talg.ntmps21
  go_wp2_with (first | (go_at_call 22; refine (Hid.out H1).mono ?_; rintro e w' ⟨x, rfl, hq⟩))
  go_ret
  exact ⟨x, rfl, hq⟩
theorem fsum_sum_any (b off c : Nat) (fs : List Nat) (w : World) (hn : fs.length ≤ 1024) (hr : FR w b off fs) (hbw : b < w.heap.size) (hw : Wds fs) (had : Fl.Adm fs) :
    Calls Talg.prog 21 #[.slice (some ⟨b, off, none⟩) fs.length c] w fun e w' => e = .returned (.float .f64 (fsumB fs)) ∧ Below w.heap.size w w' :=
  (fsum_sum _ _ _ w (fun e w' => e = .returned (.float .f64 (fsumB fs)) ∧ Below w.heap.size w w') ((fsum_shew b off c fs w hn hr hbw hw had).mono fun e w' h => ⟨_, h.1, h⟩)).mono fun e w' ⟨_, _, h⟩ => h
theorem fsum_sum_bad (a : Option Addr) (n c : Nat) (w : World) (h : Calls Talg.prog 53 #[.slice a n c] w fun e w' => e = .returned (.bool true) ∧ w' = w) :
    Calls Talg.prog 21 #[.slice a n c] w fun e w' => ∃ x, NaNw x ∧ e = .returned (.float .f64 x) ∧ w' = w.drew :=
  (fsum_sum _ _ _ w (fun e w' => ∃ x, NaNw x ∧ e = .returned (.float .f64 x) ∧ w' = w.drew) ((fsum_shew_bad a n c w h).mono fun e w' ⟨x, h1, h2, h3⟩ => ⟨x, h2, x, h1, h2, h3⟩)).mono fun e w' ⟨_, _, h⟩ => h
end Go.Proofs.Ygctal
