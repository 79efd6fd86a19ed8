import Derived.Test.YgctalDoorWi
import Derived.Test.YgctalDoorFl5
import Derived.Deep.QuietTactic
import Derived.BigQuiet
namespace Go.Proofs.YgctalDoor
open Go.RowKit
set_option maxHeartbeats 1000000
set_option linter.unusedVariables false

set_option maxRecDepth 100000 in
theorem pairwise_any (l : Nat) : l ≤ 7 → ∀ (b off c : Nat) (fs : List Nat) (w : World), fs.length ≤ 1024 → fs.length ≤ c → FR w b off fs → Fl.Adm fs →
    Calls Talg.prog 38 #[.slice (some ⟨b, off, none⟩) fs.length c, .int .u8 l] w fun e w' => e = .returned (.float .f64 (Fl.pairB l fs)) ∧ ∃ m, w' = w.drewN m := by
  induction l with
  | zero =>
    intro hl b off c fs w hn hc hr had
    have HFold := hide (fold_any b off c fs w hn hr had)
    go_enter Talg.func38, Talg.ntmps38
    go_wp2_with (go_at_call 37; refine (Hid.out HFold).mono ?_; rintro e w' ⟨rfl, rfl⟩)
    all_goals
      go_ret
      exact ⟨rfl, 0, rfl⟩
  | succ l ih =>
    intro hl b off c fs w hn hc hr had
    have IH := hide (ih (by omega))
    clear ih
    by_cases h8 : fs.length ≤ 8
    · rw [Fl.pairB_small _ _ h8]
      have HFold := hide (fold_any b off c fs w hn hr had)
      go_enter Talg.func38, Talg.ntmps38
      go_wp2_with (go_at_call 37; refine (Hid.out HFold).mono ?_; rintro e w' ⟨rfl, rfl⟩)
      go_ret
      exact ⟨rfl, 0, rfl⟩
    · have hd8 : decide ((fs.length : Int) ≤ 8) = false := by simp; omega
      have hl0 : ((l : Int) + 1 == 0) = false := by simp; omega
      have h1 := fun nq => (Hid.out IH) b off (fs.length / 2) (fs.take (fs.length / 2)) (w.drewN nq) (by simp; omega) (by simp; omega) (hr.take _) (had.take _)
      have h2 := fun nq => (Hid.out IH) b (off + fs.length / 2) (fs.length - fs.length / 2) (fs.drop (fs.length / 2)) (w.drewN nq) (by simp; omega) (by simp) (hr.drop _) (had.drop _)
      rw [List.length_take, Nat.min_eq_left (by omega)] at h1
      rw [List.length_drop] at h2
      have b1 := Fl.pairB_bd l _ (had.take (fs.length / 2)) (by simp; omega)
      have b2 := Fl.pairB_bd l _ (had.drop (fs.length / 2)) (by simp; omega)
      have ha := run_add b1.1 b2.1
      have HE := hide (show Fl.pairB (l + 1) fs = Fl.fadd (Fl.pairB l (fs.take (fs.length / 2))) (Fl.pairB l (fs.drop (fs.length / 2))) from if_neg h8)
      rw [HE.out]
      have H1 := hide h1
      have H2 := hide h2
      clear h1 h2 b1 b2 IH
      generalize Fl.pairB l (fs.take (fs.length / 2)) = p at *
      generalize Fl.pairB l (fs.drop (fs.length / 2)) = q at *
      go_enter Talg.func38, Talg.ntmps38
      go_wp2_with fail
      refine wp_region_quiet_lit (by kernel_rfl) (by kernel_rfl) ?_
      repeat (go_big_quiet_step (fail))
      go_big_quiet_step ((go_at_call 38; exact Calls.quiet_of (Hid.out H1 _)))
      repeat (go_big_quiet_step (fail))
      go_big_quiet_step ((go_at_call 38; exact Calls.quiet_of (Hid.out H2 _)))
      repeat (go_big_quiet_step (fail))
      refine wpQuiet_nil ?_
      intro _ hw'
      obtain ⟨nq, hw''⟩ := hw'
      subst hw''
      go_wp2
      go_ret
      exact ⟨rfl, nq, rfl⟩

theorem Pairwise_any (b off c : Nat) (fs : List Nat) (w : World) (hn : fs.length ≤ 1024) (hc : fs.length ≤ c) (hr : FR w b off fs) (hw : Wds fs) (had : Fl.Adm fs) :
    Calls Talg.prog 16 #[.slice (some ⟨b, off, none⟩) fs.length c] w fun e w' => e = .returned (.float .f64 (Fl.pairB 7 fs)) ∧ ∃ m, w' = w.drewN m := by
  have h1 := refused_sum_short b off c fs w hn hr
  rw [(refused_iff hw).2 had] at h1
  have H1 := hide h1
  have H2 := hide (fun wx hrx => pairwise_any 7 (by omega) b off c fs wx hn hc hrx had)
  clear h1
  go_enter Talg.func16, Talg.ntmps16
  go_wp2_with (first | (go_at_call 34; refine (Hid.out H1).mono ?_; rintro e w' ⟨rfl, rfl⟩) | (go_at_call 38; refine (Hid.out H2 _ hr).mono ?_; rintro e w2 ⟨rfl, hw2⟩))
  go_ret
  exact ⟨rfl, hw2⟩
end Go.Proofs.YgctalDoor
