import Derived.Test.YgctalDoorLFr
import Derived.Test.YgctalDoorWj
namespace Go.Proofs.YgctalDoor
open Go.RowKit
set_option maxHeartbeats 2000000
set_option linter.unusedVariables false

/-! RefusalsAgree: all five answer NaN exactly on the lists that are not admitted. -/
theorem cls_nan {x : Nat} (h : NaNw x) : clsOf x = 3 := by
  obtain ⟨h1, h2⟩ := h
  unfold Fl.rung at h2
  have hf : fldOf x = 2047 := by unfold fldOf; omega
  have hz : frcOf x ≠ 0 := by unfold frcOf; omega
  rw [cls_inf hf, if_neg hz]
theorem naive_bad (a : Option Addr) (n c : Nat) (w : World) (h : Calls Talg.prog 34 #[.slice a n c] w fun e w' => e = .returned (.bool true) ∧ w' = w) :
    Calls Talg.prog 15 #[.slice a n c] w fun e w' => ∃ x, NaNw x ∧ e = .returned (.float .f64 x) ∧ w' = w.drew := by
  have H1 := hide h
  clear h
  go_enter Talg.func15, Talg.ntmps15
  go_wp2_with (first | (go_at_call 34; refine (Hid.out H1).mono ?_; rintro e w' ⟨rfl, rfl⟩) | (go_at_call 35; refine (nan_sum_any _).mono ?_; rintro e w2 ⟨x, hx, rfl, rfl⟩))
  go_ret
  exact ⟨x, hx, rfl, rfl⟩
theorem pairwise_bad (a : Option Addr) (n c : Nat) (w : World) (h : Calls Talg.prog 34 #[.slice a n c] w fun e w' => e = .returned (.bool true) ∧ w' = w) :
    Calls Talg.prog 16 #[.slice a n c] w fun e w' => ∃ x, NaNw x ∧ e = .returned (.float .f64 x) ∧ w' = w.drew := by
  have H1 := hide h
  clear h
  go_enter Talg.func16, Talg.ntmps16
  go_wp2_with (first | (go_at_call 34; refine (Hid.out H1).mono ?_; rintro e w' ⟨rfl, rfl⟩) | (go_at_call 35; refine (nan_sum_any _).mono ?_; rintro e w2 ⟨x, hx, rfl, rfl⟩))
  go_ret
  exact ⟨x, hx, rfl, rfl⟩
theorem neumaier_bad (a : Option Addr) (n c : Nat) (w : World) (h : Calls Talg.prog 34 #[.slice a n c] w fun e w' => e = .returned (.bool true) ∧ w' = w) :
    Calls Talg.prog 17 #[.slice a n c] w fun e w' => ∃ x, NaNw x ∧ e = .returned (.float .f64 x) ∧ w' = w.drew := by
  have H1 := hide h
  clear h
  go_enter Talg.func17, Talg.ntmps17
  go_wp2_with (first | (go_at_call 34; refine (Hid.out H1).mono ?_; rintro e w' ⟨rfl, rfl⟩) | (go_at_call 35; refine (nan_sum_any _).mono ?_; rintro e w2 ⟨x, hx, rfl, rfl⟩))
  go_ret
  exact ⟨x, hx, rfl, rfl⟩

/-- The function f answers, and its answer is a NaN just where b says so. -/
def Tells (f g : Nat) (fs : List Nat) (bad : Bool) : Prop :=
  ∀ w : World, FR w g 0 fs → g < w.heap.size → Tab w → Calls Talg.prog f #[.slice (some ⟨g, 0, none⟩) fs.length fs.length] w fun e w' => ∃ x, x < 18446744073709551616 ∧ decide (clsOf x = 3) = bad ∧ e = .returned (.float .f64 x) ∧ Below w.heap.size w w'
theorem tells_bad {f g : Nat} {fs : List Nat} (h : ∀ w : World, FR w g 0 fs → Calls Talg.prog f #[.slice (some ⟨g, 0, none⟩) fs.length fs.length] w fun e w' => ∃ x, NaNw x ∧ e = .returned (.float .f64 x) ∧ w' = w.drew) : Tells f g fs true := by
  intro w hr _ _
  refine (h w hr).mono ?_
  rintro e w' ⟨x, hx, rfl, rfl⟩
  exact ⟨x, hx.1, by rw [cls_nan hx]; rfl, rfl, (Below.refl _ _).drew⟩
theorem fin_tell {x : Nat} (h : Fl.Fin x) : x < 18446744073709551616 ∧ decide (clsOf x = 3) = false := by
  have := cls_le h
  refine ⟨h.1, ?_⟩
  rw [decide_eq_false_iff_not]
  omega
theorem tells_naive (g : Nat) (fs : List Nat) (hn : fs.length ≤ 1024) (hw : Wds fs) (had : Fl.Adm fs) : Tells 15 g fs false := by
  intro w hr _ _
  refine (naive_any g 0 _ fs w hn hr hw had).mono ?_
  rintro e w' ⟨rfl, rfl⟩
  have h := fin_tell (Fl.foldB_bd' had (by omega)).1
  exact ⟨_, h.1, h.2, rfl, Below.refl _ _⟩
theorem tells_pairwise (g : Nat) (fs : List Nat) (hn : fs.length ≤ 1024) (hw : Wds fs) (had : Fl.Adm fs) : Tells 16 g fs false := by
  intro w hr _ _
  refine (Pairwise_any g 0 _ fs w hn (Nat.le_refl _) hr hw had).mono ?_
  rintro e w' ⟨rfl, m, rfl⟩
  have h := fin_tell (Fl.pairB_bd 7 fs had (by omega)).1
  exact ⟨_, h.1, h.2, rfl, Below.drewN (Below.refl _ _) _⟩
theorem neu_fin {fs : List Nat} (had : Fl.Adm fs) (hn : fs.length ≤ 1024) : Fl.Fin (Fl.neuB fs) :=
  (Fl.bd_add (Fl.foldB_bd' had (by omega)) (Fl.neuC_bd had (by omega) fs.length (Nat.le_refl _)) (by omega)).1.1
theorem tells_neumaier (g : Nat) (fs : List Nat) (hn : fs.length ≤ 1024) (hw : Wds fs) (had : Fl.Adm fs) : Tells 17 g fs false := by
  intro w hr _ _
  refine (neumaier_any g 0 _ fs w hn hr hw had).mono ?_
  rintro e w' ⟨rfl, rfl⟩
  have h := fin_tell (neu_fin had hn)
  exact ⟨_, h.1, h.2, rfl, Below.refl _ _⟩
theorem enc_adm {fs : List Nat} (had : Fl.Adm fs) (hn : fs.length ≤ 1024) : Fl.Fin (Fl.enc false (Fl.vSum fs)) := by
  have := adm_rbd had (show fs.length ≤ 1025 by omega)
  rw [vTo_sum] at this
  exact Fl.enc_fin false (rbd_lt this)
theorem tells_fsum (g : Nat) (fs : List Nat) (hn : fs.length ≤ 1024) (hw : Wds fs) (had : Fl.Adm fs) : Tells 12 g fs false := by
  intro w hr hg _
  refine (fsum_sum_any g 0 _ fs w hn hr hg hw had).mono ?_
  rintro e w' ⟨rfl, hb⟩
  rw [fsum_right had (by omega)]
  have h := fin_tell (enc_adm had hn)
  exact ⟨_, h.1, h.2, rfl, hb⟩
theorem tells_exact (g : Nat) (fs : List Nat) (hn : fs.length ≤ 1024) (hw : Wds fs) (had : Fl.Adm fs) : Tells 13 g fs false := by
  intro w hr hg hT
  refine (exact_some g 0 _ fs w hn hr hg hw had hT).mono ?_
  rintro e w' ⟨rfl, hb⟩
  have h := fin_tell (enc_adm had hn)
  exact ⟨_, h.1, h.2, rfl, hb⟩

/-- One step: the sum told, then asked whether it is a NaN. -/
theorem nan_told {x : Nat} {bad : Bool} (hx : x < 18446744073709551616) (hb : decide (clsOf x = 3) = bad) (w : World) : Calls Talg.prog 14 #[.float .f64 x] w fun e w' => e = .returned (.bool bad) ∧ w' = w := by
  have := isNaN_any x hx w
  rwa [hb] at this

set_option maxRecDepth 100000 in
theorem refusalsAgree_at (bad : Bool) (a0 : Option Addr) (len0 cap0 : Nat) (fs : List Nat) (w : World)
    (HF : Hid (FloatsLeft w a0 len0 cap0 1025 fs)) (hT : Tab w)
    (hadm : ∀ w1, FR w1 w.heap.size 0 fs → Calls Talg.prog 7 #[.slice (some ⟨w.heap.size, 0, none⟩) fs.length fs.length] w1 fun e w' => e = .returned (.bool (!bad)) ∧ w' = w1)
    (h1 : Tells 15 w.heap.size fs bad) (h2 : Tells 16 w.heap.size fs bad) (h3 : Tells 17 w.heap.size fs bad) (h4 : Tells 12 w.heap.size fs bad) (h5 : Tells 13 w.heap.size fs bad) :
    Calls Talg.prog 5 #[.slice a0 len0 cap0] w fun e w' => e = .returned (.bool true) ∧ Below w.heap.size w w' := by
  have HAdm := hide hadm
  have HT := hide hT
  have H1 := hide h1
  have H2 := hide h2
  have H3 := hide h3
  have H4 := hide h4
  have H5 := hide h5
  clear hadm hT h1 h2 h3 h4 h5
  go_enter Talg.func5, Talg.ntmps5
  go_wp2_with fail
  refine (Hid.out HF).mono ?_
  rintro e w1 ⟨rfl, hB, hbel⟩
  have hlt := hB.lt
  have HFr := hide hB.fr
  have HBel := hide hbel
  clear hB hbel
  go_wp2_with fail
  refine (HAdm.out _ HFr.out).mono ?_
  rintro e wx ⟨rfl, hwx⟩
  subst wx
  cases bad
  all_goals
    go_wp2_with fail
    refine (H1.out _ HFr.out hlt (HT.out.below HBel.out)).mono ?_
    rintro e w2 ⟨x, hx, hc, rfl, hb2⟩
    have HNa := hide (nan_told hx hc)
    have hlt2 : w.heap.size < w2.heap.size := by have := hb2.size; omega
    have HFr2 := hide (HFr.out.below hb2 hlt)
    have HBel2 := hide (HBel.out.trans (hb2.mono (by omega)))
    clear hb2 hx hc HFr HBel
    go_wp2_with fail
    refine (HNa.out _).mono ?_
    rintro e wx ⟨rfl, hwx⟩
    subst wx
    clear HNa
    go_wp2_with fail
    refine (H2.out _ HFr2.out hlt2 (HT.out.below HBel2.out)).mono ?_
    rintro e w3 ⟨x, hx, hc, rfl, hb3⟩
    have HNa := hide (nan_told hx hc)
    have hlt3 : w.heap.size < w3.heap.size := by have := hb3.size; omega
    have HFr3 := hide (HFr2.out.below hb3 hlt2)
    have HBel3 := hide (HBel2.out.trans (hb3.mono (by omega)))
    clear hb3 hx hc HFr2 HBel2
    go_wp2_with fail
    refine (HNa.out _).mono ?_
    rintro e wx ⟨rfl, hwx⟩
    subst wx
    clear HNa
    go_wp2_with fail
    refine (H3.out _ HFr3.out hlt3 (HT.out.below HBel3.out)).mono ?_
    rintro e w4 ⟨x, hx, hc, rfl, hb4⟩
    have HNa := hide (nan_told hx hc)
    have hlt4 : w.heap.size < w4.heap.size := by have := hb4.size; omega
    have HFr4 := hide (HFr3.out.below hb4 hlt3)
    have HBel4 := hide (HBel3.out.trans (hb4.mono (by omega)))
    clear hb4 hx hc HFr3 HBel3
    go_wp2_with fail
    refine (HNa.out _).mono ?_
    rintro e wx ⟨rfl, hwx⟩
    subst wx
    clear HNa
    go_wp2_with fail
    refine (H4.out _ HFr4.out hlt4 (HT.out.below HBel4.out)).mono ?_
    rintro e w5 ⟨x, hx, hc, rfl, hb5⟩
    have HNa := hide (nan_told hx hc)
    have hlt5 : w.heap.size < w5.heap.size := by have := hb5.size; omega
    have HFr5 := hide (HFr4.out.below hb5 hlt4)
    have HBel5 := hide (HBel4.out.trans (hb5.mono (by omega)))
    clear hb5 hx hc HFr4 HBel4
    go_wp2_with fail
    refine (HNa.out _).mono ?_
    rintro e wx ⟨rfl, hwx⟩
    subst wx
    clear HNa
    go_wp2_with fail
    refine (H5.out _ HFr5.out hlt5 (HT.out.below HBel5.out)).mono ?_
    rintro e w6 ⟨x, hx, hc, rfl, hb6⟩
    have HNa := hide (nan_told hx hc)
    have HBel6 := hide (HBel5.out.trans (hb6.mono (by omega)))
    clear hb6 hx hc HFr5 HBel5
    go_wp2_with fail
    refine (HNa.out _).mono ?_
    rintro e wx ⟨rfl, hwx⟩
    subst wx
    clear HNa
    go_wp2_with fail
    go_ret
    exact ⟨rfl, HBel6.out⟩

theorem refusalsAgree_walk (a0 : Option Addr) (len0 cap0 : Nat) (z0 : List Int) (w : World) (w0 : IsRow .u64 w a0 len0 cap0 z0) (hT : Tab w) :
    Calls Talg.prog 5 #[.slice a0 len0 cap0] w fun e w' => e = .returned (.bool true) ∧ Below w.heap.size w w' := by
  have hlen := w0.len 1025
  have hwds := words_wds (k := min len0 1025) w0.wf
  have hfl := floats_any a0 len0 cap0 1025 z0 w w0 (by omega) (by omega)
  have hmn : min len0 1025 ≤ 1025 := Nat.min_le_right _ _
  generalize wordsOf z0 (min len0 1025) = fs at *
  generalize min len0 1025 = n at *
  subst hlen
  have hbadw : (∀ w1, FR w1 w.heap.size 0 fs → Calls Talg.prog 34 #[.slice (some ⟨w.heap.size, 0, none⟩) fs.length fs.length] w1 fun e w' => e = .returned (.bool true) ∧ w' = w1) →
      (∀ w1, FR w1 w.heap.size 0 fs → Calls Talg.prog 30 #[.slice (some ⟨w.heap.size, 0, none⟩) fs.length fs.length] w1 fun e w' => e = .returned (.bool true) ∧ w' = w1) →
      (∀ w1, FR w1 w.heap.size 0 fs → Calls Talg.prog 7 #[.slice (some ⟨w.heap.size, 0, none⟩) fs.length fs.length] w1 fun e w' => e = .returned (.bool false) ∧ w' = w1) →
      Calls Talg.prog 5 #[.slice a0 len0 cap0] w fun e w' => e = .returned (.bool true) ∧ Below w.heap.size w w' := by
    intro g1 g2 g3
    exact refusalsAgree_at true a0 len0 cap0 fs w (hide hfl) hT g3
      (tells_bad fun w1 h => naive_bad _ _ _ _ (g1 w1 h)) (tells_bad fun w1 h => pairwise_bad _ _ _ _ (g1 w1 h)) (tells_bad fun w1 h => neumaier_bad _ _ _ _ (g1 w1 h)) (tells_bad fun w1 h => fsum_sum_bad _ _ _ _ (g2 w1 h)) (tells_bad fun w1 h => exact_bad _ _ _ _ (g1 w1 h))
  by_cases hn : fs.length ≤ 1024
  · by_cases hA : Fl.Adm fs
    · refine refusalsAgree_at false a0 len0 cap0 fs w (hide hfl) hT ?_ (tells_naive _ _ hn hwds hA) (tells_pairwise _ _ hn hwds hA) (tells_neumaier _ _ hn hwds hA) (tells_fsum _ _ hn hwds hA) (tells_exact _ _ hn hwds hA)
      intro w1 hfr
      have := admitted_short _ _ fs.length fs w1 hn hfr hwds
      rwa [(admitted_iff hwds).2 hA] at this
    · have hb : fs.any badB = true := by
        cases h : fs.any badB
        · exact absurd ((refused_iff hwds).1 h) hA
        · rfl
      have hb2 : fs.all atMostB = false := by
        cases h : fs.all atMostB
        · rfl
        · exact absurd ((admitted_iff hwds).1 h) hA
      refine hbadw ?_ ?_ ?_
      · intro w1 hfr
        have := refused_sum_short _ _ fs.length fs w1 hn hfr
        rwa [hb] at this
      · intro w1 hfr
        have := refused_shew_short _ _ fs.length fs w1 hn hfr
        rwa [hb] at this
      · intro w1 hfr
        have := admitted_short _ _ fs.length fs w1 hn hfr hwds
        rwa [hb2] at this
  · refine hbadw ?_ ?_ ?_
    · intro w1 _; exact refused_sum_long _ _ _ (by omega) hmn w1
    · intro w1 _; exact refused_shew_long _ _ _ (by omega) hmn w1
    · intro w1 _; exact admitted_long _ _ _ (by omega) hmn w1
end Go.Proofs.YgctalDoor
