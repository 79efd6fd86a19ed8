import Derived.Test.YgctalWh
import Derived.Deep.QuietTactic
import Derived.BigQuiet
import Derived.Deep.RegionWith
namespace Go.Proofs.Ygctal
open Go.RowKit
set_option maxHeartbeats 1000000
set_option linter.unusedVariables false

theorem foldB_last (fs : List Nat) (h : 0 < fs.length) : Fl.fadd (Fl.foldB (fs.take (fs.length - 1))) (fs.getD (fs.length - 1) 0) = Fl.foldB fs := by
  have := Fl.foldB_succ fs (fs.length - 1) (by omega)
  rw [show fs.length - 1 + 1 = fs.length from by omega, List.take_length] at this
  exact this.symm

set_option maxRecDepth 100000 in
theorem naiveIsFold_walk (a0 : Option Addr) (len0 cap0 : Nat) (z0 : List Int) (w : World) (w0 : IsRow .u64 w a0 len0 cap0 z0) :
    Calls Talg.prog 6 #[.slice a0 len0 cap0] w fun e w' => e = .returned (.bool true) ∧ Below w.heap.size w w' := by
  have hlen := w0.len 1024
  have hwds := words_wds (k := min len0 1024) w0.wf
  have hfl := floats_any a0 len0 cap0 1024 z0 w w0 (by omega) (by omega)
  have hmn : min len0 1024 ≤ 1024 := Nat.min_le_right _ _
  generalize wordsOf z0 (min len0 1024) = fs at *
  generalize min len0 1024 = n at *
  have HLEN := hide hlen
  have HF := hide hfl
  clear hfl hlen
  match n, HLEN with
  | 0, HLEN =>
    go_enter Talg.func6, Talg.ntmps6
    go_wp2_with fail
    refine (Hid.out HF).mono ?_
    rintro e w1 ⟨rfl, hB, hbel⟩
    have hfr := hB.fr
    have HBel := hide hbel
    clear hB hbel
    go_wp2_with fail
    refine (naive_nil _).mono ?_
    rintro e w2 ⟨rfl, rfl⟩
    go_wp2_with (go_at_call 18; refine (b64_any _ _).mono ?_; rintro e w' ⟨rfl, rfl⟩)
    go_ret
    exact ⟨rfl, HBel.out⟩
  | m + 1, HLEN =>
    have hz' : ((m : Int) + 1 == 0) = false := by simp; omega
    cases had : fs.all atMostB
    · go_enter Talg.func6, Talg.ntmps6
      go_wp2_with fail
      refine (Hid.out HF).mono ?_
      rintro e w1 ⟨rfl, hB, hbel⟩
      have hfr := hB.fr
      have HBel := hide hbel
      clear hB hbel
      go_wp2_with fail
      refine (naive_nil _).mono ?_
      rintro e w2 ⟨rfl, rfl⟩
      have ha := admitted_short _ _ (m + 1) fs w2 (by rw [HLEN.out]; exact hmn) hfr hwds
      rw [had, HLEN.out] at ha
      have HA := hide ha
      clear ha
      go_wp2_with (first | (go_at_call 18; refine (b64_any _ _).mono ?_; rintro e w' ⟨rfl, rfl⟩) | (go_at_call 24; refine (Hid.out HA).mono ?_; rintro e w' ⟨rfl, rfl⟩))
      go_ret
      exact ⟨rfl, HBel.out⟩
    · have hA := (admitted_iff hwds).1 had
      have HL := hide (foldB_last fs (by rw [HLEN.out]; omega))
      rw [HLEN.out, Nat.add_sub_cancel] at HL
      go_enter Talg.func6, Talg.ntmps6
      go_wp2_with fail
      refine (Hid.out HF).mono ?_
      rintro e w1 ⟨rfl, hB, hbel⟩
      have hfr := hB.fr
      have HBel := hide hbel
      clear hB hbel
      go_wp2_with fail
      refine (naive_nil _).mono ?_
      rintro e w2 ⟨rfl, rfl⟩
      have ha := admitted_short _ _ (m + 1) fs w2 (by rw [HLEN.out]; exact hmn) hfr hwds
      rw [had, HLEN.out] at ha
      have HA := hide ha
      clear ha
      have hN := fun nq => naive_any _ _ (m + 1) fs (w2.drewN nq) (by rw [HLEN.out]; exact hmn) hfr hwds hA
      have hN' := fun nq => naive_any _ _ m (fs.take m) (w2.drewN nq) (by rw [List.length_take, HLEN.out]; omega) (hfr.take m) (hwds.take _) (hA.take _)
      rw [HLEN.out] at hN
      rw [List.length_take, HLEN.out, Nat.min_eq_left (by omega)] at hN'
      have hadd := run_add (Fl.foldB_bd hA (by rw [HLEN.out]; omega) m (by rw [HLEN.out]; omega)).1 (hA m (by rw [HLEN.out]; omega)).1
      rw [HL.out] at hadd
      have hcell := hfr m (by rw [HLEN.out]; omega)
      rw [Nat.zero_add] at hcell
      have HN := hide hN
      have HN' := hide hN'
      clear hN hN'
      generalize fs.getD m 0 = x at *
      generalize Fl.foldB (fs.take m) = s at *
      generalize Fl.foldB fs = t at *
      go_wp2_with (first | (go_at_call 18; refine (b64_any _ _).mono ?_; rintro e w' ⟨rfl, rfl⟩) | (go_at_call 24; refine (Hid.out HA).mono ?_; rintro e w' ⟨rfl, rfl⟩))
      refine wp_region_quiet_lit (by kernel_rfl) (by kernel_rfl) ?_
      repeat (go_big_quiet_step (fail))
      go_big_quiet_step ((go_at_call 29; exact Calls.quiet_of_same (Hid.out HN _)))
      repeat (go_big_quiet_step (fail))
      go_big_quiet_step ((go_at_call 29; exact Calls.quiet_of_same (Hid.out HN' _)))
      repeat (go_big_quiet_step ((go_at_call 20; exact Calls.quiet_of_same (same_eq _ _))))
      refine wpQuiet_nil ?_
      intro _ hw'
      obtain ⟨nq, hw''⟩ := hw'
      subst hw''
      go_wp2
      go_ret
      exact ⟨rfl, Below.drewN HBel.out _⟩
end Go.Proofs.Ygctal
