import Derived.Test.YgctalDoorFl9
namespace Fl
set_option linter.unusedVariables false
set_option maxHeartbeats 2000000

/-! Finish of partials that lie apart is their exact sum, rounded once. -/
structure FinAt (ps : List Nat) (n hi lo : Nat) : Prop where
  lt : n < ps.length
  room : FRoom ps n hi
  lob : Bd 16384 lo
  sum : V hi + V lo = hd ps n
  rnd : V hi = rnd (hd ps n)
theorem FinAt.step {ps : List Nat} {n hi lo : Nat} (ha : Apart ps) (h : FinAt ps (n + 1) hi lo) (h0 : V lo = 0) : FinAt ps n (fadd hi (ps.getD n 0)) (ftE hi (ps.getD n 0)) := by
  have hlt := h.lt
  have hn : n < ps.length := by omega
  obtain ⟨n1, n2, n3, n4, n5⟩ := h.room.next
  have hs := h.sum
  rw [h0, Int.add_zero] at hs
  have hle : (V (ps.getD n 0)).natAbs ≤ (V hi).natAbs := by
    rw [hs]
    have h1 := hd_dvd ha hn (ps.length - (n + 1)) (n + 1) (by omega) (by omega)
    have h2 := hd_ne ha hlt
    have h3 := Nat.le_of_dvd (by omega) ((dvd_natAbs_iff _ _).2 h1)
    have := lt_ov (V (ps.getD n 0))
    omega
  obtain ⟨_, f2, _, _, f5⟩ := fast_words h.room.bd n1 (by omega) hle
  refine ⟨hn, n2, n4, ?_, ?_⟩
  · rw [f5, hd_step hn, ← hs]; omega
  · rw [f2, hd_step hn, ← hs, Int.add_comm]
theorem finLoop_at {ps : List Nat} (ha : Apart ps) : ∀ n hi lo, FinAt ps n hi lo → FinAt ps (finLoop ps n hi lo).1 (finLoop ps n hi lo).2.1 (finLoop ps n hi lo).2.2 ∧ ((finLoop ps n hi lo).1 = 0 ∨ V (finLoop ps n hi lo).2.2 ≠ 0) := by
  intro n
  induction n with
  | zero => intro hi lo h; exact ⟨h, .inl rfl⟩
  | succ n ih =>
    intro hi lo h
    unfold finLoop
    by_cases h0 : V lo = 0
    · rw [if_pos h0]; exact ih _ _ (h.step ha h0)
    · rw [if_neg h0]; exact ⟨h, .inr h0⟩
theorem isF_dbl {z : Int} (h : IsF z) : IsF (2 * z) := by
  obtain ⟨e, h1, h2⟩ := h
  refine ⟨e + 1, ?_, ?_⟩
  · rw [Int.natAbs_mul, Nat.pow_succ, Nat.mul_comm (2 ^ e)]; exact Nat.mul_dvd_mul_left 2 h1
  · rw [Int.natAbs_mul, show 53 + (e + 1) = 53 + e + 1 from rfl, Nat.pow_succ, Nat.mul_comm (2 ^ (53 + e))]; exact Nat.mul_le_mul_left 2 h2
theorem finEnd_at {ps : List Nat} (ha : Apart ps) {n hi lo : Nat} (h : FinAt ps n hi lo) (he : n = 0 ∨ V lo ≠ 0) : Fin (finEnd ps n hi lo) ∧ V (finEnd ps n hi lo) = rnd (vSum ps) := by
  have hhi := h.room.bd
  rcases Nat.eq_zero_or_pos n with rfl | hpos
  · unfold finEnd
    have : finTake ps 0 lo = false := by unfold finTake; simp
    rw [this, if_neg (by decide)]
    exact ⟨hhi.1, by rw [h.rnd, hd_zero]⟩
  · obtain ⟨m, rfl⟩ : ∃ m, n = m + 1 := ⟨n - 1, by omega⟩
    have hlo : V lo ≠ 0 := by omega
    have hlt := h.lt
    obtain ⟨t1, t2, t3, t4⟩ := tl_sign ha m (by omega)
    have hdv := hd_dvd ha (show m < ps.length by omega) (ps.length - (m + 1)) (m + 1) (by omega) (by omega)
    have hloe : V lo = hd ps (m + 1) - Fl.rnd (hd ps (m + 1)) := by have := h.sum; have := h.rnd; omega
    have hT := tail_int (R := tl ps (m + 1)) hdv (by have := h.rnd; omega) t1 t4 hloe
    have hS : hd ps (m + 1) + tl ps (m + 1) = vSum ps := by rw [Int.add_comm]; exact hd_tl ps (m + 1)
    unfold Tail at hT
    rw [hS, ← h.rnd] at hT
    obtain ⟨d1, d2⟩ := bd_dbl h.lob (by omega)
    rw [rnd_of_F (isF_dbl (V_F lo))] at d2
    obtain ⟨s1, s2⟩ := bd_add hhi d1 (by omega)
    rw [d2] at s2
    obtain ⟨r1, r2⟩ := bd_sub s1 hhi (by omega)
    have hle : (2 * V lo).natAbs ≤ (V hi).natAbs := by
      have hrel := rnd_rel (hd ps (m + 1))
      rw [← h.rnd] at hrel hloe
      clear hT
      omega
    have hF : IsF (Fl.rnd (V hi + 2 * V lo) - V hi) := fast_F (V_F hi) (by have := V_F (fdbl lo); rwa [d2] at this) hle
    rw [s2, rnd_of_F hF] at r2
    unfold finEnd
    have htk : finTake ps (m + 1) lo = true ↔ ((0 < V lo ∧ 0 < tl ps (m + 1)) ∨ (V lo < 0 ∧ tl ps (m + 1) < 0)) := by
      unfold finTake
      rw [t2, t3]
      simp only [Nat.add_sub_cancel, Bool.and_eq_true, Bool.or_eq_true, decide_eq_true_eq]
      omega
    by_cases hc : finTake ps (m + 1) lo = true
    · rw [if_pos hc]
      have hq := hT.1 (htk.1 hc)
      rw [r2, d2]
      by_cases hv : Fl.rnd (V hi + 2 * V lo) - V hi = 2 * V lo
      · rw [if_pos hv] at hq ⊢
        exact ⟨s1.1, by rw [s2, hq]⟩
      · rw [if_neg hv] at hq ⊢
        exact ⟨hhi.1, hq.symm⟩
    · rw [if_neg hc]
      exact ⟨hhi.1, (hT.2 (fun g => hc (htk.2 g))).symm⟩
end Fl
