import Derived.Test.YgctalSs
namespace Go.Proofs.Ygctal
open Go.RowKit
set_option maxHeartbeats 2000000
set_option linter.unusedVariables false

theorem u8_wf {n : Int} (h : (Lit.int .u8 n).wf = true) : 0 ≤ n ∧ n < 256 := by
  simp [Lit.wf, IntKind.min, IntKind.max, IntKind.bits, IntKind.signed] at h
  omega
theorem u64_wf {n : Int} (h : (Lit.int .u64 n).wf = true) : 0 ≤ n ∧ n < 18446744073709551616 := by
  simp [Lit.wf, IntKind.min, IntKind.max, IntKind.bits, IntKind.signed] at h
  omega
set_option maxRecDepth 1000000 in
theorem shadowBounds_none (a : Option Addr) (cap : Nat) (a1 a2 : Int) (w : World) :
    Calls Talg.prog 3 #[.slice a 0 cap, .int .u64 a1, .int .u8 a2] w fun e w' => e = .returned (.bool true) ∧ Below w.heap.size w w' := by
  go_enter Talg.func3, Talg.ntmps3
  go_wp2_with fail
  refine (cut_none _).mono ?_
  rintro e wx ⟨rfl, hwx⟩
  subst wx
  go_wp2
  go_ret
  exact ⟨rfl, Below.refl _ _⟩
theorem shadowBounds_walk (a0 : Option Addr) (len0 cap0 : Nat) (z0 : List Int) (a1 a2 : Int) (w : World) (w0 : IsRow .u64 w a0 len0 cap0 z0) (w1 : (Lit.int .u64 a1).wf = true) (w2 : (Lit.int .u8 a2).wf = true) :
    Calls Talg.prog 3 #[.slice a0 len0 cap0, .int .u64 a1, .int .u8 a2] w fun e w' => e = .returned (.bool true) ∧ Below w.heap.size w w' := by
  have h1 := u64_wf w1
  have h2 := u8_wf w2
  obtain ⟨b1, rfl⟩ := Int.eq_ofNat_of_zero_le h1.1
  obtain ⟨b2, rfl⟩ := Int.eq_ofNat_of_zero_le h2.1
  by_cases hl : len0 = 0
  · subst hl; exact shadowBounds_none a0 cap0 _ _ w
  · rcases w0 with ⟨_, h, _⟩ | ⟨x, rfl, hlc, hcm, hzl, hcell, hwf⟩
    · exact absurd h hl
    · obtain ⟨b, off, spot⟩ := x
      have hspot : spot = none := by simpa [Addr.add] using World.cell?_spot (hcell 0 (by omega))
      subst hspot
      have hm : ∀ i, i < len0 → 0 ≤ z0.getD i 0 ∧ z0.getD i 0 < 18446744073709551616 := by
        intro i hi
        refine u64_wf (hwf _ ?_)
        rw [List.getD_eq_getElem?_getD, List.getElem?_eq_getElem (show i < z0.length by omega)]
        exact List.getElem_mem _
      have hc : ∀ i, i < len0 → w.cell? ⟨b, off + i, none⟩ = some (.int .u64 (((z0.getD i 0).toNat : Nat) : Int)) := fun i hi => by
        rw [Int.toNat_of_nonneg (hm i hi).1, ← hcell i (by omega), addr_add]
      have hbw : b < w.heap.size := by
        have := hc 0 (by omega)
        simp only [World.cell?] at this
        refine Decidable.byContradiction fun hn => ?_
        rw [Array.getElem?_eq_none (by omega)] at this
        cases this
      exact shadowBounds_some b off len0 cap0 b1 b2 (fun i => (z0.getD i 0).toNat) w (by omega) hlc hcm (by omega) (by omega) hbw hc (fun i hi => by have := hm i hi; omega)
end Go.Proofs.Ygctal
