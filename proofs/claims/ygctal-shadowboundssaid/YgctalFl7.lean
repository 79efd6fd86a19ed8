import Derived.Test.YgctalFl6
namespace Fl
open Ieee

/-! A product with 2, and Finish's steps. -/
theorem nearest_scale (s : Bool) (m j k : Nat) (hm : m ≠ 0) : double.nearest s (m * 2 ^ j) (double.leastPlace + k - j) = double.nearest s m (double.leastPlace + k) := by
  have hmj : m * 2 ^ j ≠ 0 := Nat.mul_ne_zero hm (Nat.pos_iff_ne_zero.1 (Nat.two_pow_pos j))
  unfold Format.nearest
  rw [if_neg hm, if_neg hmj]
  dsimp only
  rw [leastPlace_eq, show (double.fractionBits : Int) = 52 from rfl, log2_mul_pow m j hm]
  have hlast : max (-1074 + (k : Int) - j + ((m.log2 + j : Nat) : Int) - 52) (-1074) = max (-1074 + (k : Int) + (m.log2 : Int) - 52) (-1074) := by omega
  rw [hlast]
  generalize hL : max (-1074 + (k : Int) + (m.log2 : Int) - 52) (-1074) = L
  congr 3
  by_cases h1 : L ≤ -1074 + (k : Int)
  · rw [show (L - (-1074 + (k : Int))).toNat = 0 from by omega, cut_even _ 0 (by omega), rne_zero]
    by_cases h2 : L ≤ -1074 + (k : Int) - j
    · rw [show (L - (-1074 + (k : Int) - j)).toNat = 0 from by omega, cut_even _ 0 (by omega), rne_zero, Nat.shiftLeft_eq, Nat.shiftLeft_eq, Nat.mul_assoc, ← Nat.pow_add]
      congr 2; omega
    · rw [show (-1074 + (k : Int) - j - L).toNat = 0 from by omega, Nat.shiftLeft_zero]
      have hd : (L - (-1074 + (k : Int) - j)).toNat ≤ j := by omega
      rw [cut_even _ _ (by rw [log2_mul_pow m j hm]; omega), Nat.shiftLeft_eq]
      have e : m * 2 ^ j = m * 2 ^ (j - (L - (-1074 + (k : Int) - j)).toNat) * 2 ^ (L - (-1074 + (k : Int) - j)).toNat := by
        rw [Nat.mul_assoc, ← Nat.pow_add, Nat.sub_add_cancel hd]
      rw [e, rne_of_dvd (Nat.dvd_mul_left _ _), Nat.mul_div_cancel _ (Nat.two_pow_pos _)]
      congr 2; omega
  · rw [show (-1074 + (k : Int) - j - L).toNat = 0 from by omega, show (-1074 + (k : Int) - L).toNat = 0 from by omega, Nat.shiftLeft_zero, Nat.shiftLeft_zero,
      show (L - (-1074 + (k : Int) - j)).toNat = (L - (-1074 + (k : Int))).toNat + j from by omega, cut_even _ _ (by rw [log2_mul_pow m j hm]; omega), cut_even _ _ (by omega)]
    exact rne_scale m j _

def fdbl (x : Nat) : Nat := enc (sgn x) (2 * V x)
theorem read_two : double.read 4611686018427387904 = .number false 4503599627370496 (-51) := by decide +kernel
theorem mul_two {x : Nat} (hx : Fin x) : double.mul 4611686018427387904 x = some (fdbl x) := by
  obtain ⟨m, k, hr, hv⟩ := read_fin hx
  unfold Format.mul
  rw [read_two, hr]
  simp only [Datum.product, Option.map_some, Bool.false_bne]
  have hV : V x = sv (sgn x) (m * 2 ^ k) := by rw [hv]; rfl
  show some (double.nearest _ _ _) = _
  congr 1
  by_cases hm : m = 0
  · subst hm
    have hV0 : V x = 0 := by rw [hV]; unfold sv; split <;> simp
    unfold fdbl enc Format.nearest
    rw [hV0]
    simp [rd_zero]
  · have h2 : 2 * m ≠ 0 := by omega
    rw [show 4503599627370496 * m = 2 * m * 2 ^ 51 from by omega, show (-51 : Int) + (double.leastPlace + (k : Int)) = double.leastPlace + k - (51 : Nat) from by omega,
      nearest_scale _ _ _ _ h2, nearest_eq _ _ _ h2]
    unfold fdbl enc
    have hp := Nat.two_pow_pos k
    have hpos : 0 < m * 2 ^ k := Nat.mul_pos (by omega) hp
    have ha : (2 * V x).natAbs = 2 * m * 2 ^ k := by
      rw [hV, Nat.mul_assoc]
      generalize m * 2 ^ k = N
      unfold sv; split <;> omega
    have hs : (if 2 * V x = 0 then sgn x else decide (2 * V x < 0)) = sgn x := by
      rw [hV]
      unfold sv
      generalize m * 2 ^ k = N at *
      cases sgn x
      · simp only [Bool.false_eq_true, if_false]
        rw [if_neg (by omega)]; simp; omega
      · simp only [if_true]
        rw [if_neg (by omega)]; simp; omega
    rw [ha, hs]
theorem bd_dbl {c x : Nat} (h : Bd c x) (hc : 2 * c ≤ 4194304) : Bd (2 * c) (fdbl x) ∧ V (fdbl x) = rnd (2 * V x) := by
  refine enc_bd hc ?_
  have := h.2
  rw [Int.natAbs_mul, Nat.mul_assoc]
  exact Nat.mul_le_mul_left 2 this

/-! Finish. -/
def finLoop (ps : List Nat) : Nat → Nat → Nat → Nat × Nat × Nat
  | 0, hi, lo => (0, hi, lo)
  | n + 1, hi, lo => if V lo = 0 then finLoop ps n (fadd hi (ps.getD n 0)) (ftE hi (ps.getD n 0)) else (n + 1, hi, lo)
def finTake (ps : List Nat) (n : Nat) (lo : Nat) : Bool := decide (0 < n) && ((decide (V lo < 0) && decide (V (ps.getD (n - 1) 0) < 0)) || (decide (0 < V lo) && decide (0 < V (ps.getD (n - 1) 0))))
def finEnd (ps : List Nat) (n hi lo : Nat) : Nat :=
  if finTake ps n lo = true then (if V (fsub (fadd hi (fdbl lo)) hi) = V (fdbl lo) then fadd hi (fdbl lo) else hi) else hi
def finOf (ps : List Nat) (t : Nat × Nat × Nat) : Nat := finEnd ps t.1 t.2.1 t.2.2
def finB (ps : List Nat) : Nat := if ps.length = 0 then 0 else finOf ps (finLoop ps (ps.length - 1) (ps.getD (ps.length - 1) 0) 0)

/-- Room for Finish's steps. -/
def FRoom (ps : List Nat) (n hi : Nat) : Prop := (∀ p ∈ ps, Fin p) ∧ Fin hi ∧ n ≤ ps.length ∧ (V hi).natAbs + absSum (ps.take n) + n * eps < lid
theorem absSum_take_succ (ps : List Nat) (n : Nat) (h : n < ps.length) : absSum (ps.take (n + 1)) = absSum (ps.take n) + (V (ps.getD n 0)).natAbs := by
  rw [List.take_succ_eq_append_getElem h, absSum_append]
  simp [absSum, List.getD_eq_getElem?_getD, List.getElem?_eq_getElem h]
theorem getD_mem {ps : List Nat} {n : Nat} (h : n < ps.length) : ps.getD n 0 ∈ ps := by
  rw [List.getD_eq_getElem?_getD, List.getElem?_eq_getElem h]; exact List.getElem_mem h
theorem FRoom.bd {ps : List Nat} {n hi : Nat} (h : FRoom ps n hi) : Bd 4096 hi := Bd.of_unit h.2.1 (by have := h.2.2.2; rw [lid_unit] at this; omega)
theorem FRoom.next {ps : List Nat} {n hi : Nat} (h : FRoom ps (n + 1) hi) :
    Bd 4096 (ps.getD n 0) ∧ FRoom ps n (fadd hi (ps.getD n 0)) ∧ Fin (fsub (fadd hi (ps.getD n 0)) hi) ∧ Bd 16384 (ftE hi (ps.getD n 0)) ∧ V (fadd hi (ps.getD n 0)) = rnd (V hi + V (ps.getD n 0)) := by
  obtain ⟨h1, h2, h3, h4⟩ := h
  have hb : Bd 4096 hi := FRoom.bd ⟨h1, h2, h3, h4⟩
  rw [absSum_take_succ ps n (by omega), Nat.succ_mul] at h4
  have hp : Bd 4096 (ps.getD n 0) := Bd.of_unit (h1 _ (getD_mem (by omega))) (by rw [lid_unit] at h4; omega)
  obtain ⟨s1, s2⟩ := bd_add hb hp (by omega)
  obtain ⟨b1, _⟩ := bd_sub s1 hb (by omega)
  obtain ⟨e1, _⟩ := bd_sub hp b1 (by omega)
  have hz : (V hi + V (ps.getD n 0)).natAbs < lid := by omega
  have he := rnd_eps hz
  refine ⟨hp, ⟨h1, s1.1, by omega, ?_⟩, b1.1, e1.mono (by omega), s2⟩
  rw [s2]; omega
theorem froom_start {k : Nat} {ps : List Nat} {t : Int} (h : GrowInv k ps t) (hk : k ≤ 1025) (h0 : ps.length ≠ 0) : FRoom ps (ps.length - 1) (ps.getD (ps.length - 1) 0) := by
  have hr := h.room hk (bd_zero 1)
  have hl := hr.2.2
  have hs := absSum_take_succ ps (ps.length - 1) (by omega)
  rw [show ps.length - 1 + 1 = ps.length from by omega, List.take_length] at hs
  refine ⟨h.fin, h.fin _ (getD_mem (by omega)), by omega, ?_⟩
  have hm : (ps.length - 1) * eps ≤ ps.length * eps := Nat.mul_le_mul_right _ (by omega)
  omega
end Fl
