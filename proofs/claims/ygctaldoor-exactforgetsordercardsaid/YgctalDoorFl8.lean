import Derived.Test.YgctalDoorFl7
namespace Fl
set_option linter.unusedVariables false
set_option maxHeartbeats 8000000

/-! Finish is right: the plain side. -/
theorem between {q d s : Nat} (hq1 : 4503599627370496 ≤ q) (hq2 : q < 9007199254740992) (h1 : q * 2 ^ d < s) (h2 : s < (q + 1) * 2 ^ d) : ex s = d ∧ s / 2 ^ d = q ∧ s % 2 ^ d = s - q * 2 ^ d := by
  have hp := Nat.two_pow_pos d
  have hlo : 2 ^ (52 + d) ≤ s := by
    rw [pow52]
    exact Nat.le_trans (Nat.mul_le_mul_right _ hq1) (Nat.le_of_lt h1)
  have hhi : s < 2 ^ (53 + d) := by
    rw [pow53]
    exact Nat.lt_of_lt_of_le h2 (Nat.mul_le_mul_right _ hq2)
  have hex : ex s = d := by
    have a := ex_le_of_lt hhi
    rcases Nat.lt_or_ge (ex s) d with h | h
    · have := lt_ex s
      have hm : 2 ^ (53 + ex s) ≤ 2 ^ (52 + d) := Nat.pow_le_pow_right (by omega) (by omega)
      omega
    · omega
  have hdiv : s / 2 ^ d = q := by
    apply Nat.le_antisymm
    · exact Nat.le_of_lt_succ ((Nat.div_lt_iff_lt_mul hp).2 h2)
    · exact (Nat.le_div_iff_mul_le hp).2 (Nat.le_of_lt h1)
  refine ⟨hex, hdiv, ?_⟩
  have := (parts s d).1
  rw [hdiv] at this
  omega
/-- Rounding between two neighbours. -/
theorem rnv_between {q d s : Nat} (hq1 : 4503599627370496 ≤ q) (hq2 : q < 9007199254740992) (h1 : q * 2 ^ d < s) (h2 : s < (q + 1) * 2 ^ d) :
    (2 * (s - q * 2 ^ d) < 2 ^ d → rnv s = q * 2 ^ d) ∧ (2 ^ d < 2 * (s - q * 2 ^ d) → rnv s = q * 2 ^ d + 2 ^ d) ∧ (2 ^ d = 2 * (s - q * 2 ^ d) → rnv s = if q % 2 = 1 then q * 2 ^ d + 2 ^ d else q * 2 ^ d) := by
  obtain ⟨e1, e2, e3⟩ := between hq1 hq2 h1 h2
  unfold rnv rne up
  rw [e1, e2, e3]
  refine ⟨fun h => ?_, fun h => ?_, fun h => ?_⟩
  · rw [if_neg (by omega)]; simp
  · rw [if_pos (Or.inl h)]; rw [Nat.add_mul, Nat.one_mul]
  · by_cases ho : q % 2 = 1
    · rw [if_pos (Or.inr ⟨h, ho⟩), if_pos ho, Nat.add_mul, Nat.one_mul]
    · rw [if_neg (by omega), if_neg ho]; simp
theorem rnv_two {q d s : Nat} (hq1 : 4503599627370496 ≤ q) (hq2 : q < 9007199254740992) (h1 : q * 2 ^ d < s) (h2 : s < (q + 1) * 2 ^ d) : rnv s = q * 2 ^ d ∨ rnv s = q * 2 ^ d + 2 ^ d := by
  obtain ⟨a, b, c⟩ := rnv_between hq1 hq2 h1 h2
  rcases Nat.lt_trichotomy (2 ^ d) (2 * (s - q * 2 ^ d)) with h | h | h
  · exact .inr (b h)
  · rw [c h]; split
    · exact .inr rfl
    · exact .inl rfl
  · exact .inl (a h)
/-- The numbers of a sum that is no float: n = f0 + a, between neighbours f0 and f0 + 2m, all but f0 multiples of P. -/
theorem grid {n T : Nat} (hT : 2 ^ T ∣ n) (hne : rnv n ≠ n) : ∃ q d a m : Nat, 4503599627370496 ≤ q ∧ q < 9007199254740992 ∧ n = q * 2 ^ d + a ∧ 2 ^ d = 2 * m ∧ 2 ^ T ≤ a ∧ a + 2 ^ T ≤ 2 * m ∧ (a < m → a + 2 ^ T ≤ m) ∧ (m < a → m + 2 ^ T ≤ a) := by
  have hd0 : 0 < ex n := Nat.pos_of_ne_zero fun h => hne (rnv_exact h)
  have hp := parts n (ex n)
  have hr0 : n % 2 ^ ex n ≠ 0 := by
    intro h
    apply hne
    unfold rnv
    rw [rne_of_dvd (Nat.dvd_of_mod_eq_zero h)]
    omega
  have hTd : T < ex n := by
    rcases Nat.lt_or_ge T (ex n) with h | h
    · exact h
    · exact absurd (Nat.mod_eq_zero_of_dvd (Nat.dvd_trans (Nat.pow_dvd_pow 2 h) hT)) hr0
  obtain ⟨k, hk⟩ : ∃ k, ex n = T + 1 + k := ⟨ex n - T - 1, by omega⟩
  have hD : 2 ^ ex n = 2 * (2 ^ T * 2 ^ k) := by rw [hk, Nat.pow_add, Nat.pow_succ]; ac_rfl
  have hdr : 2 ^ T ∣ n % 2 ^ ex n := (Nat.dvd_mod_iff (Nat.pow_dvd_pow 2 (by omega))).2 hT
  obtain ⟨b, hb⟩ := hdr
  have hP := Nat.two_pow_pos T
  refine ⟨n / 2 ^ ex n, ex n, n % 2 ^ ex n, 2 ^ T * 2 ^ k, quot_ge hd0, quot_lt n, hp.1, hD, ?_, ?_, ?_, ?_⟩
  · exact Nat.le_of_dvd (by omega) ⟨b, hb⟩
  · have h2 := hp.2
    rw [hD] at h2 ⊢
    rw [hD] at hb
    rw [hb] at h2 ⊢
    rw [show 2 * (2 ^ T * 2 ^ k) = 2 ^ T * (2 * 2 ^ k) from by ac_rfl] at h2 ⊢
    rw [← Nat.mul_succ]
    exact Nat.mul_le_mul_left _ (Nat.lt_of_mul_lt_mul_left h2)
  · intro h
    rw [hb] at h ⊢
    rw [← Nat.mul_succ]
    exact Nat.mul_le_mul_left _ (Nat.lt_of_mul_lt_mul_left h)
  · intro h
    rw [hb] at h ⊢
    rw [← Nat.mul_succ]
    exact Nat.mul_le_mul_left _ (Nat.lt_of_mul_lt_mul_left h)
theorem rnd_nat (n : Nat) : rnd (n : Int) = (rnv n : Int) := by unfold rnd; rw [if_neg (by omega), Int.natAbs_natCast]
/-- What Finish reckons, of a positive head. -/
theorem tail_pos {n T : Nat} {R : Int} (hT : 2 ^ T ∣ n) (hne : rnv n ≠ n) (hR : R.natAbs < 2 ^ T) (hR0 : R ≠ 0) (lo : Int) (hlo : lo = (n : Int) - rnv n) :
    ((0 < lo ∧ 0 < R) ∨ (lo < 0 ∧ R < 0) → rnd (n + R) = if rnd ((rnv n : Int) + 2 * lo) - rnv n = 2 * lo then rnd ((rnv n : Int) + 2 * lo) else (rnv n : Int)) ∧
    (¬ ((0 < lo ∧ 0 < R) ∨ (lo < 0 ∧ R < 0)) → rnd (n + R) = (rnv n : Int)) := by
  obtain ⟨q, d, a, m, hq1, hq2, hn, hD, h1, h2, h3, h4⟩ := grid hT hne
  have hf1 : (q + 1) * 2 ^ d = q * 2 ^ d + 2 ^ d := by rw [Nat.add_mul, Nat.one_mul]
  obtain ⟨s, hs⟩ : ∃ s : Nat, (n : Int) + R = s := ⟨((n : Int) + R).toNat, by omega⟩
  have bn := rnv_between (q := q) (d := d) (s := n) hq1 hq2 (by omega) (by rw [hf1]; omega)
  have bs := rnv_between (q := q) (d := d) (s := s) hq1 hq2 (by omega) (by rw [hf1]; omega)
  have two := fun (x : Nat) (hx1 : q * 2 ^ d < x) (hx2 : x < (q + 1) * 2 ^ d) => rnv_two (s := x) hq1 hq2 hx1 hx2
  have hFe : rnd (((q + 1) * 2 ^ d : Nat) : Int) = (((q + 1) * 2 ^ d : Nat) : Int) := rnd_of_F (isF_mul _ _ (by omega))
  have hF0 : rnd ((q * 2 ^ d : Nat) : Int) = ((q * 2 ^ d : Nat) : Int) := rnd_of_F (isF_mul _ _ (by omega))
  rw [hs, rnd_nat]
  rw [hf1] at hFe two
  generalize q * 2 ^ d = f at *
  rw [hD] at bn bs two hFe
  generalize 2 ^ T = P at *
  obtain ⟨b1, b2, b3⟩ := bn
  obtain ⟨c1, c2, c3⟩ := bs
  rcases Nat.lt_trichotomy a m with h | h | h
  · have h3' := h3 h
    clear h3 h4 b2 b3 c2 c3
    have e1 := b1 (by clear c1 b1 two; omega)
    have e2 := c1 (by clear c1 b1 two; omega)
    have e3 := two (f + 2 * a) (by clear c1 b1 two; omega) (by clear c1 b1 two; omega)
    clear c1 b1 two
    have hl : lo = a := by omega
    rw [e1, e2]
    refine ⟨fun _ => ?_, fun _ => rfl⟩
    rw [show (f : Int) + 2 * lo = ((f + 2 * a : Nat) : Int) from by omega, rnd_nat]
    rw [if_neg (by omega)]
  · clear h3 h4 b1 b2 two c3
    have e1 := b3 (by clear b3 c1 c2; omega)
    clear b3
    by_cases ho : q % 2 = 1
    · rw [if_pos ho] at e1
      have hl : lo = -(m : Int) := by clear c1 c2; omega
      rw [e1]
      refine ⟨fun hc => ?_, fun hc => ?_⟩
      · have e2 := c1 (by clear c1 c2; omega)
        clear c1 c2
        rw [show ((f + 2 * m : Nat) : Int) + 2 * lo = (f : Int) from by omega, hF0, if_pos (by omega), e2]
      · have e2 := c2 (by clear c1 c2; omega)
        rw [e2]
    · rw [if_neg ho] at e1
      have hl : lo = (m : Int) := by clear c1 c2; omega
      rw [e1]
      refine ⟨fun hc => ?_, fun hc => ?_⟩
      · have e2 := c2 (by clear c1 c2; omega)
        clear c1 c2
        rw [show (f : Int) + 2 * lo = ((f + 2 * m : Nat) : Int) from by omega, hFe, if_pos (by omega), e2]
      · have e2 := c1 (by clear c1 c2; omega)
        rw [e2]
  · have h4' := h4 h
    clear h3 h4 b1 b3 c1 c3
    have e1 := b2 (by clear c2 b2 two; omega)
    have e2 := c2 (by clear c2 b2 two; omega)
    have e3 := two (2 * a + f - 2 * m) (by clear c2 b2 two; omega) (by clear c2 b2 two; omega)
    clear c2 b2 two
    have hl : lo = (a : Int) - 2 * m := by omega
    rw [e1, e2]
    refine ⟨fun _ => ?_, fun _ => rfl⟩
    rw [show ((f + 2 * m : Nat) : Int) + 2 * lo = ((2 * a + f - 2 * m : Nat) : Int) from by omega, rnd_nat]
    rw [if_neg (by omega)]
/-- The same, of a head of either sign. -/
def Tail (z R lo : Int) : Prop :=
  ((0 < lo ∧ 0 < R) ∨ (lo < 0 ∧ R < 0) → rnd (z + R) = if rnd (rnd z + 2 * lo) - rnd z = 2 * lo then rnd (rnd z + 2 * lo) else rnd z) ∧
  (¬ ((0 < lo ∧ 0 < R) ∨ (lo < 0 ∧ R < 0)) → rnd (z + R) = rnd z)
theorem tail_int {z R lo : Int} {T : Nat} (hT : ((2 ^ T : Nat) : Int) ∣ z) (hne : rnd z ≠ z) (hR : R.natAbs < 2 ^ T) (hR0 : R ≠ 0) (hlo : lo = z - rnd z) : Tail z R lo := by
  rcases Int.lt_or_le z 0 with hz | hz
  · obtain ⟨n, hn⟩ : ∃ n : Nat, -z = n := ⟨(-z).toNat, by omega⟩
    have hr : rnd z = -(rnv n : Int) := by rw [show z = -(n : Int) from by omega, rnd_neg, rnd_nat]
    have ht := tail_pos (n := n) (T := T) (R := -R) (Int.ofNat_dvd.1 (by rw [← hn]; exact Int.dvd_neg.2 hT)) (by omega) (by omega) (by omega) (-lo) (by omega)
    have e1 : rnd (z + R) = -rnd ((n : Int) + -R) := by rw [← rnd_neg]; congr 1; omega
    have e2 : rnd (rnd z + 2 * lo) = -rnd ((rnv n : Int) + 2 * -lo) := by rw [← rnd_neg, hr]; congr 1; omega
    refine ⟨fun h => ?_, fun h => ?_⟩
    · have := ht.1 (by omega)
      rw [e1, e2, this, hr]
      split
      · rw [if_pos (by omega)]
      · rw [if_neg (by omega)]
    · have := ht.2 (by omega)
      rw [e1, this, hr]
  · obtain ⟨n, rfl⟩ := Int.eq_ofNat_of_zero_le hz
    rw [rnd_nat] at hne hlo
    have ht := tail_pos (n := n) (T := T) (R := R) (Int.ofNat_dvd.1 hT) (by omega) hR hR0 lo hlo
    unfold Tail
    rw [rnd_nat n]
    exact ht
end Fl
