import Derived.Test.YgctalDoorXh
namespace Go.Proofs.YgctalDoor
open Go.RowKit
set_option maxHeartbeats 2000000
set_option linter.unusedVariables false

theorem FR.below {w w' : World} {b off B : Nat} {fs : List Nat} (h : FR w b off fs) (hb : Below B w w') (hB : b < B) : FR w' b off fs := by
  intro i hi
  rw [hb.cell (p := ⟨b, off + i, none⟩) hB]
  exact h i hi
/-- What floats leaves. -/
def FloatsLeft (w : World) (a0 : Option Addr) (len0 cap0 lim : Nat) (fs : List Nat) : Prop :=
  Calls Talg.prog 6 #[.slice a0 len0 cap0, .int .i64 (lim : Nat)] w fun e w' => e = .returned (.slice (some ⟨w.heap.size, 0, none⟩) fs.length fs.length) ∧ Blk w' w.heap.size 30 (fs.map (.float .f64)) ∧ Below w.heap.size w w'

theorem fsumRight_bad (a0 : Option Addr) (len0 cap0 : Nat) (fs : List Nat) (w : World)
    (HF : Hid (FloatsLeft w a0 len0 cap0 1024 fs))
    (hadm : ∀ w1, FR w1 w.heap.size 0 fs → Calls Talg.prog 7 #[.slice (some ⟨w.heap.size, 0, none⟩) fs.length fs.length] w1 fun e w' => e = .returned (.bool false) ∧ w' = w1) :
    Calls Talg.prog 3 #[.slice a0 len0 cap0] w fun e w' => e = .returned (.bool true) ∧ Below w.heap.size w w' := by
  have HAdm := hide hadm
  clear hadm
  go_enter Talg.func3, Talg.ntmps3
  go_wp2_with fail
  refine (Hid.out HF).mono ?_
  rintro e w1 ⟨rfl, hB, hbel⟩
  have HFr := hide hB.fr
  have HBel := hide hbel
  clear hB hbel
  go_wp2_with fail
  refine (HAdm.out _ HFr.out).mono ?_
  rintro e w2 ⟨rfl, hw2⟩
  subst w2
  go_wp2_with fail
  go_ret
  exact ⟨rfl, HBel.out⟩

set_option maxRecDepth 100000 in
theorem fsumRight_good (a0 : Option Addr) (len0 cap0 : Nat) (fs : List Nat) (w : World)
    (HF : Hid (FloatsLeft w a0 len0 cap0 1024 fs))
    (hn : fs.length ≤ 1024) (hwds : Wds fs) (hA : Fl.Adm fs) (hT : Tab w) :
    Calls Talg.prog 3 #[.slice a0 len0 cap0] w fun e w' => e = .returned (.bool true) ∧ Below w.heap.size w w' := by
  have had : fs.all atMostB = true := (admitted_iff hwds).2 hA
  have HRb := hide (adm_rbd hA (show fs.length ≤ 1025 by omega))
  rw [vTo_sum] at HRb
  have HFin := hide (fun i (hi : i < fs.length) => (hA i hi).1)
  have HFs := hide (fsum_right hA (show fs.length ≤ 1025 by omega))
  have HT := hide hT
  have HAd := hide hA
  clear hA hT
  go_enter Talg.func3, Talg.ntmps3
  go_wp2_with fail
  refine (Hid.out HF).mono ?_
  rintro e w1 ⟨rfl, hB, hbel⟩
  have hlt := hB.lt
  have HFr := hide hB.fr
  have HBel := hide hbel
  have HA1 := hide (admitted_short _ _ fs.length fs w1 hn hB.fr hwds)
  rw [had] at HA1
  clear hB hbel had
  go_wp2_with fail
  refine (Hid.out HA1).mono ?_
  rintro e w2 ⟨rfl, hw2⟩
  subst w2
  clear HA1
  go_wp2_with fail
  refine (accTotal_some _ _ _ fs _ (by omega) HFr.out hlt HFin.out).mono ?_
  rintro e w2 ⟨ws, rfl, hacc, hb2⟩
  rw [vTo_sum] at hacc
  have hlt2 : w.heap.size < w2.heap.size := by have := hb2.size; omega
  have HFr2 := hide (HFr.out.below hb2 hlt)
  have HBel2 := hide (HBel.out.trans (hb2.mono (by omega)))
  have HAcc := hide hacc
  clear hb2 HFr HBel hacc
  have HN := hide (AccB.new w2)
  have HNb := hide ((Below.refl w2.heap.size w2).alloc (Nat.le_refl _) (.cells Talg.zeroCells28 28))
  go_wp2_with (refine wpList_store_row rfl 28 _ _ rfl w2.heap.size (accArr ws) rfl rfl 28 (accArr zeros68) HN.out.heap (by rw [accArr_size, HAcc.out.1]; exact acc_info) (by rw [accArr_size, accArr_size, HAcc.out.1]; decide) (accArr_one _) ?_)
  have HN3 := hide (HN.out.setRow ws)
  have HNb3 := hide (HNb.out.grown (gb_setRow _ w2.heap.size (accArr ws)) HNb.out.size (fun q hq => by simp at hq; omega))
  clear HN HNb
  generalize ((w2.alloc (.cells Talg.zeroCells28 28)).setRow w2.heap.size (accArr ws)) = w3 at HN3 HNb3 ⊢
  have hlt3 : w.heap.size < w3.heap.size := by have := HNb3.out.size; omega
  have HFr3 := hide (HFr2.out.below HNb3.out hlt2)
  have HBel3 := hide (HBel2.out.trans (HNb3.out.mono (by omega)))
  clear HFr2 HBel2
  go_wp2_with fail
  refine (round_any w2.heap.size ws (Fl.vSum fs) w3 HN3.out HAcc.out HRb.out (HT.out.below HBel3.out)).mono ?_
  rintro e w4 ⟨rfl, hb4⟩
  have hlt4 : w.heap.size < w4.heap.size := by have := hb4.size; omega
  have HFr4 := hide (HFr3.out.below hb4 hlt3)
  have HBel4 := hide (HBel3.out.trans (hb4.mono (by omega)))
  clear hb4 HFr3 HBel3 HN3 HNb3
  go_wp2_with fail
  refine (fsum_shew _ _ _ fs _ hn HFr4.out hlt4 hwds HAd.out).mono ?_
  rintro e w5 ⟨rfl, hb5⟩
  rw [HFs.out]
  have hlt5 : w.heap.size < w5.heap.size := by have := hb5.size; omega
  have HFr5 := hide (HFr4.out.below hb5 hlt4)
  have HBel5 := hide (HBel4.out.trans (hb5.mono (by omega)))
  clear hb5 HFr4 HBel4
  go_wp2_with fail
  refine (same_eq _ _).mono ?_
  rintro e wx ⟨rfl, hwx⟩
  subst wx
  go_wp2_with fail
  refine (fsum_sum_any _ _ _ fs _ hn HFr5.out hlt5 hwds HAd.out).mono ?_
  rintro e w6 ⟨rfl, hb6⟩
  rw [HFs.out]
  have hlt6 : w.heap.size < w6.heap.size := by have := hb6.size; omega
  have HFr6 := hide (HFr5.out.below hb6 hlt5)
  have HBel6 := hide (HBel5.out.trans (hb6.mono (by omega)))
  clear hb6 HFr5 HBel5
  go_wp2_with fail
  refine (same_eq _ _).mono ?_
  rintro e wx ⟨rfl, hwx⟩
  subst wx
  go_wp2_with fail
  refine (exact_some _ _ _ fs _ hn HFr6.out hlt6 hwds HAd.out (HT.out.below HBel6.out)).mono ?_
  rintro e w7 ⟨rfl, hb7⟩
  have HBel7 := hide (HBel6.out.trans (hb7.mono (by omega)))
  clear hb7 HFr6 HBel6
  go_wp2_with fail
  refine (same_eq _ _).mono ?_
  rintro e wx ⟨rfl, hwx⟩
  subst wx
  go_wp2_with fail
  go_ret
  exact ⟨rfl, HBel7.out⟩

theorem fsumRight_walk (a0 : Option Addr) (len0 cap0 : Nat) (z0 : List Int) (w : World) (w0 : IsRow .u64 w a0 len0 cap0 z0) (hT : Tab w) :
    Calls Talg.prog 3 #[.slice a0 len0 cap0] w fun e w' => e = .returned (.bool true) ∧ Below w.heap.size w w' := by
  have hlen := w0.len 1024
  have hwds := words_wds (k := min len0 1024) w0.wf
  have hfl := floats_any a0 len0 cap0 1024 z0 w w0 (by omega) (by omega)
  have hmn : min len0 1024 ≤ 1024 := Nat.min_le_right _ _
  generalize wordsOf z0 (min len0 1024) = fs at *
  generalize min len0 1024 = n at *
  subst hlen
  by_cases hA : Fl.Adm fs
  · exact fsumRight_good a0 len0 cap0 fs w (hide hfl) hmn hwds hA hT
  · refine fsumRight_bad a0 len0 cap0 fs w (hide hfl) ?_
    intro w1 hfr
    have := admitted_short _ _ fs.length fs w1 hmn hfr hwds
    have hb : fs.all atMostB = false := by
      cases h : fs.all atMostB
      · rfl
      · exact absurd ((admitted_iff hwds).1 h) hA
    rwa [hb] at this
end Go.Proofs.YgctalDoor
