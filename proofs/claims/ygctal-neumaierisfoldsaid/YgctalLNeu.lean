import Derived.Test.YgctalWi
namespace Go.Proofs.Ygctal
open Go.RowKit
set_option maxHeartbeats 1000000
set_option linter.unusedVariables false

set_option maxRecDepth 100000 in
theorem neumaierIsFold_walk (a0 : Option Addr) (len0 cap0 : Nat) (z0 : List Int) (w : World) (w0 : IsRow .u64 w a0 len0 cap0 z0) :
    Calls Talg.prog 8 #[.slice a0 len0 cap0] w fun e w' => e = .returned (.bool true) ∧ Below w.heap.size w w' := by
  have hlen := w0.len 1024
  have hwds := words_wds (k := min len0 1024) w0.wf
  have hfl := floats_any a0 len0 cap0 1024 z0 w w0 (by omega) (by omega)
  have hmn : min len0 1024 ≤ 1024 := Nat.min_le_right _ _
  generalize wordsOf z0 (min len0 1024) = fs at *
  generalize min len0 1024 = n at *
  subst hlen
  have HF := hide hfl
  clear hfl
  cases had : fs.all atMostB
  · go_enter Talg.func8, Talg.ntmps8
    go_wp2_with fail
    refine (Hid.out HF).mono ?_
    rintro e w1 ⟨rfl, hB, hbel⟩
    have hfr := hB.fr
    have HBel := hide hbel
    clear hB hbel
    have ha := admitted_short _ _ fs.length fs w1 hmn hfr hwds
    rw [had] at ha
    have HA := hide ha
    clear ha
    go_wp2_with (go_at_call 24; refine (Hid.out HA).mono ?_; rintro e w' ⟨rfl, rfl⟩)
    go_ret
    exact ⟨rfl, HBel.out⟩
  · have hA := (admitted_iff hwds).1 had
    go_enter Talg.func8, Talg.ntmps8
    go_wp2_with fail
    refine (Hid.out HF).mono ?_
    rintro e w1 ⟨rfl, hB, hbel⟩
    have hfr := hB.fr
    have HBel := hide hbel
    clear hB hbel
    have ha := admitted_short _ _ fs.length fs w1 hmn hfr hwds
    rw [had] at ha
    have HA := hide ha
    clear ha
    have HN := hide (neumaier_any _ _ fs.length fs w1 hmn hfr hwds hA)
    go_wp2_with (go_at_call 24; refine (Hid.out HA).mono ?_; rintro e w' ⟨rfl, rfl⟩)
    go_loop [4, 5, 6] (fun s c i => ∃ k : Nat, k ≤ fs.length ∧ i = .int .i64 k ∧ s = .float .f64 (Fl.foldB (fs.take k)) ∧ c = .float .f64 (Fl.neuC fs k)) (fun _ _ i => fs.length - (intOf i).toNat)
    case atStart => exact ⟨0, by omega, rfl, rfl, rfl⟩
    case round =>
      obtain ⟨k, hk, rfl, rfl, rfl⟩ := hrel
      have hs := Fl.foldB_bd hA (by omega) k hk
      have hcc := Fl.neuC_bd hA (by omega) k hk
      by_cases hlt : k < fs.length
      · have hcell := hfr k hlt
        rw [Nat.zero_add] at hcell
        have HS := hide (Fl.foldB_succ fs k hlt)
        have HC := hide (show Fl.neuC fs (k + 1) = Fl.fadd (Fl.neuC fs k) (Fl.tsE (Fl.foldB (fs.take k)) (fs.getD k 0)) from rfl)
        have hx := hA k hlt
        have HT := hide (fun wx => two_any hs hx (by omega) wx)
        have hadd := run_add hcc.1 (Fl.tsE_bd hs hx (by omega)).1
        clear hs hx hcc
        generalize fs.getD k 0 = x at *
        generalize Fl.neuC fs k = cc at *
        go_wp2_with (go_at_call 31; refine (Hid.out HT _).mono ?_; rintro e w' ⟨rfl, rfl⟩)
        go_round
        case rel => exact ⟨k + 1, by omega, by go_num, by rw [HS.out], by rw [HC.out]⟩
        case measure => simp [intOf]; omega
      · obtain rfl : k = fs.length := by omega
        rw [List.take_length] at hs ⊢
        have hadd := run_add hs.1 hcc.1
        have HNE := hide (show Fl.neuB fs = Fl.fadd (Fl.foldB fs) (Fl.neuC fs fs.length) from rfl)
        rw [HNE.out] at HN
        clear hs hcc
        go_wp2_with (first | (go_at_call 32; refine (Hid.out HN).mono ?_; rintro e w' ⟨rfl, rfl⟩) | (go_at_call 20; refine (same_eq _ _).mono ?_; rintro e w' ⟨rfl, rfl⟩))
        go_ret
        exact ⟨rfl, HBel.out⟩
end Go.Proofs.Ygctal
