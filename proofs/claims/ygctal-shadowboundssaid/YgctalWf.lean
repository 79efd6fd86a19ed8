import Derived.Test.YgctalWe
import Derived.Test.YgctalFl3
namespace Go.Proofs.Ygctal
open Go.RowKit

/-! What the two tests say: a number of at most 2^1000. -/
theorem fld_rung (x : Nat) : fldOf x = Fl.rung x / 4503599627370496 ∧ frcOf x = Fl.rung x % 4503599627370496 := by
  unfold fldOf frcOf Fl.rung; omega
theorem fin_iff {x : Nat} (hx : x < 18446744073709551616) : Fl.Fin x ↔ fldOf x ≠ 2047 := by
  have := fld_rung x
  have : Fl.rung x < 9223372036854775808 := Nat.mod_lt _ (by decide)
  unfold Fl.Fin
  omega
theorem man_fin {x : Nat} (h : fldOf x ≠ 2047) : manOf x = if fldOf x = 0 then frcOf x else frcOf x + 4503599627370496 := by
  unfold manOf; rw [if_neg h]
  by_cases h0 : fldOf x = 0
  · rw [if_neg (by omega), if_pos h0]
  · rw [if_pos h0, if_neg h0]
theorem cls_fin {x : Nat} (h : fldOf x ≠ 2047) : clsOf x = if fldOf x = 0 then (if frcOf x = 0 then 0 else 1) else 1 := by
  unfold clsOf; rw [if_neg h]
  by_cases h0 : fldOf x = 0
  · rw [if_neg (by omega), if_pos h0]
  · rw [if_pos h0, if_neg h0]
theorem exp_fin {x : Nat} (h : fldOf x ≠ 2047) : expOf x = if fldOf x = 0 then (if frcOf x = 0 then 0 else -1074) else (fldOf x : Int) - 1075 := by
  unfold expOf; rw [if_neg h]
  by_cases h0 : fldOf x = 0
  · rw [if_neg (by omega), if_pos h0]
  · rw [if_pos h0, if_neg h0]
theorem val_man {x : Nat} (h : fldOf x ≠ 2047) : ∃ k : Nat, Fl.val (Fl.rung x) = manOf x * 2 ^ k ∧ (clsOf x = 1 → expOf x = (k : Int) - 1074) := by
  obtain ⟨h1, h2⟩ := fld_rung x
  rw [man_fin h, cls_fin h, exp_fin h]
  unfold Fl.val
  by_cases h0 : fldOf x = 0
  · refine ⟨0, ?_, ?_⟩
    · rw [if_pos (by omega), if_pos h0]; omega
    · rw [if_pos h0, if_pos h0]
      split <;> simp
  · refine ⟨Fl.rung x / 2 ^ 52 - 1, ?_, ?_⟩
    · rw [if_neg (by omega), if_neg h0, h2, Nat.add_comm]
    · rw [if_neg h0]
      intro _; omega
theorem absV (x : Nat) : (Fl.V x).natAbs = Fl.val (Fl.rung x) := by unfold Fl.V; split <;> simp
theorem cls_inf {x : Nat} (h : fldOf x = 2047) : clsOf x = if frcOf x = 0 then 2 else 3 := by
  unfold clsOf; rw [if_pos h]
  by_cases h0 : frcOf x = 0
  · rw [if_neg (by omega), if_pos h0]
  · rw [if_pos h0, if_neg h0]
theorem cls_cases {x : Nat} : (fldOf x = 2047 ∧ clsOf x ≠ 0 ∧ clsOf x ≠ 1) ∨ (fldOf x ≠ 2047 ∧ clsOf x = 0 ∧ manOf x = 0) ∨ (fldOf x ≠ 2047 ∧ clsOf x = 1 ∧ 0 < manOf x) := by
  by_cases h : fldOf x = 2047
  · left; rw [cls_inf h]; split <;> exact ⟨h, by decide, by decide⟩
  · right
    rw [cls_fin h, man_fin h]
    by_cases h0 : fldOf x = 0
    · rw [if_pos h0, if_pos h0]
      by_cases hm : frcOf x = 0
      · left; rw [if_pos hm]; exact ⟨h, rfl, hm⟩
      · right; rw [if_neg hm]; exact ⟨h, rfl, by omega⟩
    · right; rw [if_neg h0, if_neg h0]; exact ⟨h, rfl, by omega⟩

theorem pow_lt_pow_iff (a b : Nat) : 2 ^ a < 2 ^ b ↔ a < b := Nat.pow_lt_pow_iff_right (by omega)
theorem pow_le_pow_iff (a b : Nat) : 2 ^ a ≤ 2 ^ b ↔ a ≤ b := Nat.pow_le_pow_iff_right (by omega)

theorem atMost_iff {x : Nat} (hx : x < 18446744073709551616) : atMostB x = true ↔ Fl.Bd 1 x := by
  unfold atMostB Fl.Bd
  have hXp : ∀ a, a ≤ 2074 → 2 ^ a ≤ 2 ^ 2074 := fun a h => (pow_le_pow_iff a 2074).2 h
  have hXr : ∀ a, 2 ^ a ≤ 2 ^ 2074 → a ≤ 2074 := fun a h => (pow_le_pow_iff a 2074).1 h
  have hXe : ∀ a, a = 2074 → 2 ^ 2074 = 2 ^ a := fun a h => by rw [h]
  generalize 2 ^ 2074 = X at *
  rw [fin_iff hx, absV, Nat.one_mul]
  rcases cls_cases (x := x) with ⟨h1, h2, h3⟩ | ⟨h1, h2, h3⟩ | ⟨h1, h2, h3⟩
  · rw [if_neg h3, decide_eq_false h2]
    exact Iff.intro (fun h => by cases h) (fun h => absurd h1 h.1)
  · obtain ⟨k, hv, _⟩ := val_man h1
    rw [if_neg (by omega), hv, h3, Nat.zero_mul]
    simp only [h2, decide_true, true_iff]
    exact ⟨h1, Nat.zero_le _⟩
  · obtain ⟨k, hv, he⟩ := val_man h1
    have he := he h2
    have hm := man_lt x
    obtain ⟨lo, hi, e1, e2, e3, e4, e5, e6, e7, e8⟩ := ends_spec (manOf x) h3 (by omega)
    rw [if_pos h2, hv, e1, e2, he]
    generalize manOf x = m at *
    simp only [Bool.or_eq_true, Bool.and_eq_true, decide_eq_true_eq]
    constructor
    · rintro (h | ⟨h, h'⟩)
      · refine ⟨h1, ?_⟩
        refine Nat.le_of_lt (Nat.lt_of_lt_of_le (Nat.mul_lt_mul_of_pos_right e6 (Nat.two_pow_pos k)) ?_)
        rw [← Nat.pow_add]; exact hXp _ (by omega)
      · refine ⟨h1, ?_⟩
        have hlo : lo = hi := by omega
        subst hlo
        obtain ⟨c, hc⟩ := e7
        have hc1 : c = 1 := by
          have : 2 ^ lo * c < 2 ^ lo * 2 := by rw [← hc, ← Nat.pow_succ]; exact e6
          have := Nat.lt_of_mul_lt_mul_left this
          have : c ≠ 0 := by rintro rfl; omega
          omega
        rw [hc, hc1, Nat.mul_one, ← Nat.pow_add]; exact hXp _ (by omega)
    · rintro ⟨_, h⟩
      have hle : 2 ^ (hi + k) ≤ X := by
        refine Nat.le_trans ?_ h
        rw [Nat.pow_add]; exact Nat.mul_le_mul_right _ e5
      have hle := hXr _ hle
      by_cases ht : hi + k = 2074
      · right
        refine ⟨by omega, ?_⟩
        rw [hXe _ ht, Nat.pow_add] at h
        have hm1 : m ≤ 2 ^ hi := Nat.le_of_mul_le_mul_right h (Nat.two_pow_pos k)
        have hm2 : m = 2 ^ hi := by omega
        rw [hm2] at e8
        have : 2 ^ hi / 2 ^ lo = 2 ^ (hi - lo) := Nat.pow_div e3 (by omega)
        rw [this] at e8
        by_cases hz : hi - lo = 0
        · omega
        · obtain ⟨j, hj⟩ := Nat.exists_eq_succ_of_ne_zero hz
          rw [hj, Nat.pow_succ] at e8
          omega
      · left; omega

theorem nan_or {x : Nat} (hx : x < 18446744073709551616) : Fl.Fin x ∨ NaNw x ∨ (Fl.rung x = 9218868437227405312) := by
  unfold Fl.Fin NaNw; omega
theorem read_inf {x : Nat} (h : Fl.rung x = 9218868437227405312) : Ieee.double.read x = .infinity (Fl.sgn x) := by
  have h2 : x % 9223372036854775808 = 9218868437227405312 := h
  unfold Ieee.Format.read
  rw [Fl.signWeight_eq, Fl.binade_eq, Fl.infRung_eq]
  dsimp only
  rw [if_neg (by omega), if_neg (by omega), if_pos h2]
  rfl
theorem order_inf {x y : Nat} (h : Fl.rung x = 9218868437227405312) (hy : Fl.Fin y) : Ieee.double.order x y = some (if Fl.sgn x then .lt else .gt) := by
  obtain ⟨m, k, hr, _⟩ := Fl.read_fin hy
  unfold Ieee.Format.order
  rw [read_inf h, hr]
  rfl
theorem c1_fin : Fl.Fin 9110782046170513408 ∧ Fl.Fin 18334154083025289216 := by unfold Fl.Fin Fl.rung; omega
theorem c1_V : Fl.V 9110782046170513408 = ((2 ^ 2074 : Nat) : Int) := by decide +kernel
theorem c2_V : Fl.V 18334154083025289216 = -((2 ^ 2074 : Nat) : Int) := by decide +kernel
theorem bad_iff {x : Nat} (hx : x < 18446744073709551616) : badB x = false ↔ Fl.Bd 1 x := by
  have e : FloatKind.f64.format = Ieee.double := rfl
  unfold badB
  rw [e]
  rcases nan_or hx with h | h | h
  · rw [Fl.order_fin h h, Fl.order_fin h c1_fin.1, Fl.order_fin h c1_fin.2, c1_V, c2_V]
    unfold Fl.Bd
    generalize 2 ^ 2074 = X
    rw [Nat.one_mul]
    generalize Fl.V x = v
    rw [if_neg (by omega), if_pos rfl]
    simp only [h, true_and]
    by_cases h1 : v < (X : Int)
    · rw [if_pos h1]
      by_cases h2 : v < -(X : Int)
      · rw [if_pos h2]; simp; omega
      · rw [if_neg h2]; split <;> simp <;> omega
    · rw [if_neg h1]
      by_cases h2 : v = (X : Int)
      · rw [if_pos h2, if_neg (by omega)]; split <;> simp <;> omega
      · rw [if_neg h2]; simp; omega
  · have hnf : ¬ Fl.Bd 1 x := fun hb => by have := hb.1.2; have := h.2; omega
    rw [order_nan h x]
    simp [hnf]
  · have hnf : ¬ Fl.Bd 1 x := fun hb => by have := hb.1.2; omega
    simp only [hnf, iff_false, Bool.not_eq_false]
    rw [order_inf h c1_fin.1, order_inf h c1_fin.2]
    cases Fl.sgn x <;> simp
theorem admitted_iff {fs : List Nat} (hw : Wds fs) : fs.all atMostB = true ↔ Fl.Adm fs := by
  rw [List.all_eq_true]
  constructor
  · intro h i hi
    have hm : fs.getD i 0 ∈ fs := by rw [List.getD_eq_getElem?_getD, List.getElem?_eq_getElem hi]; exact List.getElem_mem hi
    exact (atMost_iff (hw i hi)).1 (h _ hm)
  · intro h x hx
    obtain ⟨i, hi, rfl⟩ := List.getElem_of_mem hx
    have := h i hi
    have hw' := hw i hi
    rw [List.getD_eq_getElem?_getD, List.getElem?_eq_getElem hi] at this hw'
    exact (atMost_iff hw').2 this
theorem refused_iff {fs : List Nat} (hw : Wds fs) : fs.any badB = false ↔ Fl.Adm fs := by
  rw [List.any_eq_false]
  constructor
  · intro h i hi
    have hm : fs.getD i 0 ∈ fs := by rw [List.getD_eq_getElem?_getD, List.getElem?_eq_getElem hi]; exact List.getElem_mem hi
    exact (bad_iff (hw i hi)).1 (by simpa using h _ hm)
  · intro h x hx
    obtain ⟨i, hi, rfl⟩ := List.getElem_of_mem hx
    have := h i hi
    have hw' := hw i hi
    rw [List.getD_eq_getElem?_getD, List.getElem?_eq_getElem hi] at this hw'
    simpa using (bad_iff hw').2 this
end Go.Proofs.Ygctal
