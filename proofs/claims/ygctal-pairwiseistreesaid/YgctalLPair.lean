import Derived.Test.YgctalWj
namespace Go.Proofs.Ygctal
open Go.RowKit
set_option maxHeartbeats 1000000
set_option linter.unusedVariables false

set_option maxRecDepth 100000 in
theorem pairwiseIsTree_walk (a0 : Option Addr) (len0 cap0 : Nat) (z0 : List Int) (w : World) (w0 : IsRow .u64 w a0 len0 cap0 z0) :
    Calls Talg.prog 7 #[.slice a0 len0 cap0] w fun e w' => e = .returned (.bool true) ∧ Below w.heap.size w w' := by
  have hlen := w0.len 1024
  have hwds := words_wds (k := min len0 1024) w0.wf
  have hfl := floats_any a0 len0 cap0 1024 z0 w w0 (by omega) (by omega)
  have hmn : min len0 1024 ≤ 1024 := Nat.min_le_right _ _
  generalize wordsOf z0 (min len0 1024) = fs at *
  generalize min len0 1024 = n at *
  subst hlen
  have HF := hide hfl
  clear hfl
  cases had : fs.all atMostB
  · go_enter Talg.func7, Talg.ntmps7
    go_wp2_with fail
    refine (Hid.out HF).mono ?_
    rintro e w1 ⟨rfl, hB, hbel⟩
    have hfr := hB.fr
    have HBel := hide hbel
    clear hB hbel
    have ha := admitted_short _ _ fs.length fs w1 hmn hfr hwds
    rw [had] at ha
    have HA := hide ha
    clear ha
    go_wp2_with (go_at_call 24; refine (Hid.out HA).mono ?_; rintro e w' ⟨rfl, rfl⟩)
    go_ret
    exact ⟨rfl, HBel.out⟩
  · have hA := (admitted_iff hwds).1 had
    by_cases h8 : fs.length ≤ 8
    · have HS := hide (Fl.pairB_small 7 fs h8)
      go_enter Talg.func7, Talg.ntmps7
      go_wp2_with fail
      refine (Hid.out HF).mono ?_
      rintro e w1 ⟨rfl, hB, hbel⟩
      have hfr := hB.fr
      have HBel := hide hbel
      clear hB hbel
      have ha := admitted_short _ _ fs.length fs w1 hmn hfr hwds
      rw [had] at ha
      have HA := hide ha
      clear ha
      have HN := hide (fun nq => naive_any w.heap.size 0 fs.length fs (w1.drewN nq) hmn hfr hwds hA)
      have hP := Pairwise_any _ _ fs.length fs w1 hmn (Nat.le_refl _) hfr hwds hA
      rw [HS.out] at hP
      have HP := hide hP
      clear hP
      go_wp2_with (first | (go_at_call 24; refine (Hid.out HA).mono ?_; rintro e w' ⟨rfl, rfl⟩) | (go_at_call 30; refine (Hid.out HP).mono ?_; rintro e w2 ⟨rfl, m, rfl⟩) | (go_at_call 29; refine (Hid.out HN _).mono ?_; rintro e w' ⟨rfl, rfl⟩) | (go_at_call 20; refine (same_eq _ _).mono ?_; rintro e w' ⟨rfl, rfl⟩))
      go_ret
      exact ⟨rfl, Below.drewN HBel.out _⟩
    · have hd8 : decide ((fs.length : Int) ≤ 8) = false := by simp; omega
      have HS := hide (Fl.pairB_tree fs h8 hmn)
      go_enter Talg.func7, Talg.ntmps7
      go_wp2_with fail
      refine (Hid.out HF).mono ?_
      rintro e w1 ⟨rfl, hB, hbel⟩
      have hfr := hB.fr
      have HBel := hide hbel
      clear hB hbel
      have ha := admitted_short _ _ fs.length fs w1 hmn hfr hwds
      rw [had] at ha
      have HA := hide ha
      clear ha
      have hP := fun nq => Pairwise_any _ _ fs.length fs (w1.drewN nq) hmn (Nat.le_refl _) hfr hwds hA
      have h1 := fun nq => Pairwise_any _ _ (fs.length / 2) (fs.take (fs.length / 2)) (w1.drewN nq) (by simp; omega) (by simp; omega) (hfr.take _) (hwds.take _) (hA.take _)
      have h2 := fun nq => Pairwise_any _ _ (fs.length - fs.length / 2) (fs.drop (fs.length / 2)) (w1.drewN nq) (by simp; omega) (by simp) (hfr.drop _) (hwds.drop _) (hA.drop _)
      rw [List.length_take, Nat.min_eq_left (by omega)] at h1
      rw [List.length_drop, Nat.zero_add] at h2
      have b1 := Fl.pairB_bd 7 _ (hA.take (fs.length / 2)) (by simp; omega)
      have b2 := Fl.pairB_bd 7 _ (hA.drop (fs.length / 2)) (by simp; omega)
      have hadd := run_add b1.1 b2.1
      rw [HS.out] at hadd
      have HP := hide hP
      have H1 := hide h1
      have H2 := hide h2
      clear hP h1 h2 b1 b2
      generalize Fl.pairB 7 (fs.take (fs.length / 2)) = p at *
      generalize Fl.pairB 7 (fs.drop (fs.length / 2)) = q at *
      generalize Fl.pairB 7 fs = r at *
      go_wp2_with (go_at_call 24; refine (Hid.out HA).mono ?_; rintro e w' ⟨rfl, rfl⟩)
      refine wp_region_quiet_lit (by kernel_rfl) (by kernel_rfl) ?_
      repeat (go_big_quiet_step (fail))
      go_big_quiet_step ((go_at_call 30; exact Calls.quiet_of (Hid.out HP _)))
      repeat (go_big_quiet_step (fail))
      go_big_quiet_step ((go_at_call 30; exact Calls.quiet_of (Hid.out H1 _)))
      repeat (go_big_quiet_step (fail))
      go_big_quiet_step ((go_at_call 30; exact Calls.quiet_of (Hid.out H2 _)))
      repeat (go_big_quiet_step ((go_at_call 20; exact Calls.quiet_of_same (same_eq _ _))))
      refine wpQuiet_nil ?_
      intro _ hw'
      obtain ⟨nq, hw''⟩ := hw'
      subst hw''
      go_wp2
      go_ret
      exact ⟨rfl, Below.drewN HBel.out _⟩
end Go.Proofs.Ygctal
