import Derived.Test.YgctalWm
namespace Go.Proofs.Ygctal
open Go.RowKit
set_option maxHeartbeats 2000000
set_option linter.unusedVariables false

theorem FR.below {w w' : World} {b off B : Nat} {fs : List Nat} (h : FR w b off fs) (hb : Below B w w') (hB : b < B) : FR w' b off fs := by
  intro i hi
  rw [hb.cell (p := ⟨b, off + i, none⟩) hB]
  exact h i hi

/-- The refused lists. -/
theorem fsumIsGrow_bad (a0 : Option Addr) (len0 cap0 : Nat) (fs : List Nat) (w : World)
    (HF : Hid (Calls Talg.prog 19 #[.slice a0 len0 cap0, .int .i64 (1025 : Nat)] w fun e w' => e = .returned (.slice (some ⟨w.heap.size, 0, none⟩) fs.length fs.length) ∧ Blk w' w.heap.size 29 (fs.map (.float .f64)) ∧ Below w.heap.size w w'))
    (hbad : ∀ w1, FR w1 w.heap.size 0 fs → Calls Talg.prog 53 #[.slice (some ⟨w.heap.size, 0, none⟩) fs.length fs.length] w1 fun e w' => e = .returned (.bool true) ∧ w' = w1)
    (hadm : ∀ w1, FR w1 w.heap.size 0 fs → Calls Talg.prog 24 #[.slice (some ⟨w.heap.size, 0, none⟩) fs.length fs.length] w1 fun e w' => e = .returned (.bool false) ∧ w' = w1) :
    Calls Talg.prog 4 #[.slice a0 len0 cap0] w fun e w' => e = .returned (.bool true) ∧ Below w.heap.size w w' := by
  have HBad := hide hbad
  have HAdm := hide hadm
  clear hbad hadm
  go_enter Talg.func4, Talg.ntmps4
  go_wp2_with fail
  refine (Hid.out HF).mono ?_
  rintro e w1 ⟨rfl, hB, hbel⟩
  have HFr := hide hB.fr
  have HBel := hide hbel
  clear hB hbel
  go_wp2_with fail
  refine (fsum_sum_bad _ _ _ _ (HBad.out _ HFr.out)).mono ?_
  rintro e w2 ⟨x, hx, rfl, rfl⟩
  go_wp2_with fail
  refine (fsum_shew_bad _ _ _ _ (HBad.out w1.drew HFr.out)).mono ?_
  rintro e w2 ⟨y, hy, rfl, rfl⟩
  go_wp2_with fail
  refine (same_nan x y hx hy _).mono ?_
  rintro e w2 ⟨rfl, hw2⟩
  rw [hw2]
  clear hw2 w2
  go_wp2_with fail
  refine (finish_nil _ _ _).mono ?_
  rintro e w2 ⟨rfl, hw2⟩
  rw [hw2]
  clear hw2 w2
  go_wp2_with (first | (go_at_call 18; refine (b64_any _ _).mono ?_; rintro e w' ⟨rfl, hw2⟩; rw [hw2]; clear hw2 w') | (go_at_call 24; refine (HAdm.out w1.drew.drew HFr.out).mono ?_; rintro e w' ⟨rfl, hw2⟩; rw [hw2]; clear hw2 w'))
  go_ret
  exact ⟨rfl, HBel.out.drew.drew⟩

set_option maxRecDepth 100000 in
theorem fsumIsGrow_good (a0 : Option Addr) (len0 cap0 : Nat) (fs : List Nat) (w : World)
    (HF : Hid (Calls Talg.prog 19 #[.slice a0 len0 cap0, .int .i64 (1025 : Nat)] w fun e w' => e = .returned (.slice (some ⟨w.heap.size, 0, none⟩) fs.length fs.length) ∧ Blk w' w.heap.size 29 (fs.map (.float .f64)) ∧ Below w.heap.size w w'))
    (hn : fs.length ≤ 1024) (hwds : Wds fs) (hA : Fl.Adm fs) :
    Calls Talg.prog 4 #[.slice a0 len0 cap0] w fun e w' => e = .returned (.bool true) ∧ Below w.heap.size w w' := by
  have had : fs.all atMostB = true := (admitted_iff hwds).2 hA
  go_enter Talg.func4, Talg.ntmps4
  go_wp2_with fail
  refine (Hid.out HF).mono ?_
  rintro e w1 ⟨rfl, hB, hbel⟩
  have hlt := hB.lt
  have HFr := hide hB.fr
  have HBel := hide hbel
  clear hB hbel
  go_wp2_with fail
  refine (fsum_sum_any _ _ _ fs _ hn HFr.out hlt hwds hA).mono ?_
  rintro e w2 ⟨rfl, hb2⟩
  have hlt2 : w.heap.size < w2.heap.size := by have := hb2.size; omega
  have HFr2 := hide (HFr.out.below hb2 hlt)
  have HBel2 := hide (HBel.out.trans (hb2.mono (by omega)))
  clear hb2 HFr HBel
  go_wp2_with fail
  refine (fsum_shew _ _ _ fs _ hn HFr2.out hlt2 hwds hA).mono ?_
  rintro e w3 ⟨rfl, hb3⟩
  have hlt3 : w.heap.size < w3.heap.size := by have := hb3.size; omega
  have HFr3 := hide (HFr2.out.below hb3 hlt2)
  have HBel3 := hide (HBel2.out.trans (hb3.mono (by omega)))
  clear hb3 HFr2 HBel2 hlt hlt2
  have ha := admitted_short _ _ fs.length fs w3 hn HFr3.out hwds
  rw [had] at ha
  have HA := hide ha
  clear ha had
  go_wp2_with (first | (go_at_call 20; refine (same_eq _ _).mono ?_; rintro e w' ⟨rfl, rfl⟩) | (go_at_call 23; refine (finish_nil _ _ _).mono ?_; rintro e w' ⟨rfl, rfl⟩) | (go_at_call 18; refine (b64_any _ _).mono ?_; rintro e w' ⟨rfl, rfl⟩) | (go_at_call 24; refine (Hid.out HA).mono ?_; rintro e w' ⟨rfl, rfl⟩))
  have HO := hide (show Own w' w'.heap.size (.slice none 0 0) [] from World.ownsRow_nil _ _ _ _)
  clear HA
  go_loopw [4, 5] (fun v i wr => ∃ k : Nat, k ≤ fs.length ∧ i = .int .i64 k ∧ Hid (Own wr w'.heap.size v (Fl.growAll [] (fs.take k)) ∧ Below w'.heap.size w' wr)) (fun _ i _ => fs.length - (intOf i).toNat)
  case atStart => exact ⟨0, by omega, rfl, HO.out, Below.refl _ _⟩
  case round =>
    clear HO
    obtain ⟨k, hk, rfl, HG⟩ := hrel
    have hinv := Fl.growAll_inv hA (by omega) k hk
    by_cases hltk : k < fs.length
    · have hcell := (HG.out.2.cell (p := ⟨w.heap.size, 0 + k, none⟩) hlt3).trans (HFr3.out k hltk)
      rw [Nat.zero_add] at hcell
      have hx := hA k hltk
      have HGrow := hide (grow_any w'.heap.size _ _ (fs.getD k 0) wr HG.out.1 HG.out.2.size (by have := hinv.len; omega) (hinv.room (by omega) hx))
      have HS := hide (Fl.growAll_succ fs k hltk)
      have HB := hide HG.out.2
      clear HG hinv hx
      generalize fs.getD k 0 = x at *
      go_wp2_with (go_at_call 25; refine (Hid.out HGrow).mono ?_; rintro e w2 ⟨v', rfl, ho', hb'⟩)
      go_roundw
      case rel => exact ⟨k + 1, by omega, by go_num, by rw [HS.out]; exact ho', HB.out.trans hb'⟩
      case measure => simp [intOf]; omega
    · obtain rfl : k = fs.length := by omega
      rw [List.take_length] at HG hinv
      have hsz := HG.out.2.size
      have HFr4 := hide (HFr3.out.below HG.out.2 hlt3)
      have HBel4 := hide (HBel3.out.trans (HG.out.2.mono (by omega)))
      have HO := hide HG.out.1
      have HInv := hide hinv
      clear HG hinv
      go_wp2_with fail
      refine (fsum_shew _ _ _ fs _ hn HFr4.out (by omega) hwds hA).mono ?_
      rintro e w5 ⟨rfl, hb5⟩
      have HFin := hide (finish_any w'.heap.size _ _ w5 (HO.out.below hb5 (Nat.le_refl _)) HInv.out (by omega))
      have HBel5 := hide (HBel4.out.trans (hb5.mono (by omega)))
      clear hb5
      have HE := hide (show fsumB fs = Fl.finB (Fl.growAll [] fs) from rfl)
      rw [HE.out]
      go_wp2_with (first | (go_at_call 23; refine (Hid.out HFin).mono ?_; rintro e w' ⟨rfl, rfl⟩) | (go_at_call 20; refine (same_eq _ _).mono ?_; rintro e w' ⟨rfl, rfl⟩))
      go_ret
      exact ⟨rfl, HBel5.out⟩

theorem fsumIsGrow_walk (a0 : Option Addr) (len0 cap0 : Nat) (z0 : List Int) (w : World) (w0 : IsRow .u64 w a0 len0 cap0 z0) :
    Calls Talg.prog 4 #[.slice a0 len0 cap0] w fun e w' => e = .returned (.bool true) ∧ Below w.heap.size w w' := by
  have hlen := w0.len 1025
  have hwds := words_wds (k := min len0 1025) w0.wf
  have hfl := floats_any a0 len0 cap0 1025 z0 w w0 (by omega) (by omega)
  have hmn : min len0 1025 ≤ 1025 := Nat.min_le_right _ _
  generalize wordsOf z0 (min len0 1025) = fs at *
  generalize min len0 1025 = n at *
  subst hlen
  by_cases hn : fs.length ≤ 1024
  · by_cases hA : Fl.Adm fs
    · exact fsumIsGrow_good a0 len0 cap0 fs w (hide hfl) hn hwds hA
    · refine fsumIsGrow_bad a0 len0 cap0 fs w (hide hfl) ?_ ?_
      · intro w1 hfr
        have := refused_shew_short _ _ fs.length fs w1 hn hfr
        have hb : fs.any badB = true := by
          cases h : fs.any badB
          · exact absurd ((refused_iff hwds).1 h) hA
          · rfl
        rwa [hb] at this
      · intro w1 hfr
        have := admitted_short _ _ fs.length fs w1 hn hfr hwds
        have hb : fs.all atMostB = false := by
          cases h : fs.all atMostB
          · rfl
          · exact absurd ((admitted_iff hwds).1 h) hA
        rwa [hb] at this
  · refine fsumIsGrow_bad a0 len0 cap0 fs w (hide hfl) ?_ ?_
    · intro w1 _; exact refused_shew_long _ _ _ (by omega) hmn w1
    · intro w1 _; exact admitted_long _ _ _ (by omega) hmn w1
end Go.Proofs.Ygctal
