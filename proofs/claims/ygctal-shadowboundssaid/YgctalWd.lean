import Derived.Test.YgctalWc
namespace Go.Proofs.Ygctal
open Go.RowKit
set_option maxHeartbeats 400000

/-- The floats of a slice, in memory. -/
def FR (w : World) (b off : Nat) (fs : List Nat) : Prop := ∀ i, i < fs.length → w.cell? ⟨b, off + i, none⟩ = some (.float .f64 (fs.getD i 0))
/-- Words all. -/
def Wds (fs : List Nat) : Prop := ∀ i, i < fs.length → fs.getD i 0 < 18446744073709551616

def admittedB (fs : List Nat) : Bool := decide (fs.length ≤ 1024) && fs.all atMostB

theorem all_take_succ {p : Nat → Bool} (fs : List Nat) (k : Nat) (hk : k < fs.length) : (fs.take (k + 1)).all p = ((fs.take k).all p && p (fs.getD k 0)) := by
  rw [List.take_succ_eq_append_getElem hk, List.all_append]
  simp [List.getD_eq_getElem?_getD, List.getElem?_eq_getElem hk]
theorem all_false_of {p : Nat → Bool} (fs : List Nat) (k : Nat) (hk : k < fs.length) (h : p (fs.getD k 0) = false) : fs.all p = false := by
  rw [List.all_eq_false]
  refine ⟨fs[k], List.getElem_mem hk, ?_⟩
  rw [List.getD_eq_getElem?_getD, List.getElem?_eq_getElem hk] at h
  simpa using h

theorem admitted_long (a : Option Addr) (n c : Nat) (hn : 1024 < n) (hn' : n ≤ 1025) (w : World) :
    Calls Talg.prog 24 #[.slice a n c] w fun e w' => e = .returned (.bool false) ∧ w' = w := by
  go_enter Talg.func24, Talg.ntmps24
  go_wp2
  go_ret
  exact ⟨rfl, rfl⟩

theorem admitted_short (b off c : Nat) (fs : List Nat) (w : World) (hn : fs.length ≤ 1024) (hr : FR w b off fs) (hw : Wds fs) :
    Calls Talg.prog 24 #[.slice (some ⟨b, off, none⟩) fs.length c] w fun e w' => e = .returned (.bool (fs.all atMostB)) ∧ w' = w := by
  go_enter Talg.func24, Talg.ntmps24
  go_wp2
  go_loop [3] (fun i => ∃ k : Nat, k ≤ fs.length ∧ i = .int .i64 k ∧ (fs.take k).all atMostB = true) (fun i => fs.length - (intOf i).toNat)
  case atStart => exact ⟨0, by omega, rfl, rfl⟩
  case round =>
    obtain ⟨k, hk, rfl, hall⟩ := hrel
    have HA := hide hall
    clear hall
    by_cases hlt : k < fs.length
    · have hcell := hr k hlt
      have hwd := hw k hlt
      have HS := hide (all_take_succ (p := atMostB) fs k hlt)
      have HF := hide (all_false_of (p := atMostB) fs k hlt)
      generalize fs.getD k 0 = x at *
      cases hat : atMostB x
      · go_wp2_with (go_at_call 56; refine (atMost_any x hwd _).mono ?_; rintro e w' ⟨rfl, rfl⟩)
        go_ret
        exact ⟨ret_bool (HF.out hat).symm, rfl⟩
      · go_wp2_with (go_at_call 56; refine (atMost_any x hwd _).mono ?_; rintro e w' ⟨rfl, rfl⟩)
        go_round
        case rel => exact ⟨k + 1, by omega, by go_num, by rw [HS.out, HA.out, hat]; rfl⟩
        case measure => simp [intOf]; omega
    · obtain rfl : k = fs.length := by omega
      rw [List.take_length] at HA
      go_wp2
      go_ret
      exact ⟨ret_bool HA.out.symm, rfl⟩
end Go.Proofs.Ygctal
