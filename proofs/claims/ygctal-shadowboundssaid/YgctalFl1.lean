import Ieee.Arith
namespace Fl

/-! Rounding over the naturals: magnitudes in units of the least subnormal number. -/

/-- How many low digits a magnitude loses. -/
def ex (n : Nat) : Nat := n.log2 - 52

/-- The kept digits: nearest, ties to even. -/
def up (n d : Nat) : Nat := if 2 ^ d < 2 * (n % 2 ^ d) ∨ (2 ^ d = 2 * (n % 2 ^ d) ∧ n / 2 ^ d % 2 = 1) then 1 else 0
def rne (n d : Nat) : Nat := n / 2 ^ d + up n d
def rnv (n : Nat) : Nat := rne n (ex n) * 2 ^ ex n
def rd (n : Nat) : Nat := ex n * 2 ^ 52 + rne n (ex n)
/-- The magnitude that a rung stands for. -/
def val (r : Nat) : Nat := if r < 2 ^ 52 then r else (2 ^ 52 + r % 2 ^ 52) * 2 ^ (r / 2 ^ 52 - 1)

theorem up_le (n d : Nat) : up n d ≤ 1 := by unfold up; split <;> omega
theorem up_zero (n : Nat) : up n 0 = 0 := by unfold up; rw [if_neg]; simp [Nat.mod_one]
theorem rne_zero (n : Nat) : rne n 0 = n := by unfold rne; simp [up_zero]

theorem log2_mul_pow (m k : Nat) (h : m ≠ 0) : (m * 2 ^ k).log2 = m.log2 + k := by
  have hk : m * 2 ^ k ≠ 0 := Nat.mul_ne_zero h (Nat.pos_iff_ne_zero.1 (Nat.two_pow_pos k))
  rw [Nat.log2_eq_iff hk]
  have h1 := Nat.log2_self_le h
  have h2 := @Nat.lt_log2_self m
  constructor
  · rw [Nat.pow_add]; exact Nat.mul_le_mul_right _ h1
  · rw [show m.log2 + k + 1 = (m.log2 + 1) + k from by omega, Nat.pow_add]
    exact Nat.mul_lt_mul_of_pos_right h2 (Nat.two_pow_pos k)

theorem lt_ex (n : Nat) : n < 2 ^ (53 + ex n) := by
  by_cases h : n = 0
  · subst h; exact Nat.two_pow_pos _
  · refine Nat.lt_of_lt_of_le (@Nat.lt_log2_self n) (Nat.pow_le_pow_right (by omega) ?_)
    unfold ex; omega
theorem ex_le_of_lt {n d : Nat} (h : n < 2 ^ (53 + d)) : ex n ≤ d := by
  by_cases h0 : n = 0
  · subst h0; simp [ex]
  · have := (Nat.log2_lt h0).2 h; unfold ex; omega
theorem le_of_ex {n : Nat} (h : 0 < ex n) : 2 ^ (52 + ex n) ≤ n := by
  have h0 : n ≠ 0 := by rintro rfl; simp [ex] at h
  refine Nat.le_trans (Nat.pow_le_pow_right (by omega) ?_) (Nat.log2_self_le h0)
  unfold ex at *; omega
theorem lt_ex_of_le {n d : Nat} (h : 2 ^ (53 + d) ≤ n) : d < ex n := by
  have h0 : n ≠ 0 := by have := Nat.two_pow_pos (53 + d); omega
  have := (Nat.le_log2 h0).2 h; unfold ex; omega
theorem ex_mono {a b : Nat} (h : a ≤ b) : ex a ≤ ex b := ex_le_of_lt (Nat.lt_of_le_of_lt h (lt_ex b))

theorem pow52 (d : Nat) : 2 ^ (52 + d) = 4503599627370496 * 2 ^ d := by rw [Nat.pow_add]
theorem pow53 (d : Nat) : 2 ^ (53 + d) = 9007199254740992 * 2 ^ d := by rw [Nat.pow_add]

theorem rne_of_dvd {n d : Nat} (h : 2 ^ d ∣ n) : rne n d = n / 2 ^ d := by
  have := Nat.two_pow_pos d
  unfold rne up
  rw [Nat.mod_eq_zero_of_dvd h, if_neg (by omega), Nat.add_zero]

/-- The quotient at the kept place: at least 2^52 where anything is dropped, always below 2^53. -/
theorem quot_lt (n : Nat) : n / 2 ^ ex n < 9007199254740992 := by
  have h := lt_ex n
  rw [pow53] at h
  exact (Nat.div_lt_iff_lt_mul (Nat.two_pow_pos _)).2 h
theorem quot_ge {n : Nat} (h : 0 < ex n) : 4503599627370496 ≤ n / 2 ^ ex n := by
  have h := le_of_ex h
  rw [pow52] at h
  exact (Nat.le_div_iff_mul_le (Nat.two_pow_pos _)).2 h
theorem rne_le (n : Nat) : rne n (ex n) ≤ 9007199254740992 := by
  have := quot_lt n; have := up_le n (ex n); unfold rne; omega

theorem val_rd (n : Nat) : val (rd n) = rnv n := by
  unfold rnv rd
  have hk := rne_le n
  by_cases h : ex n = 0
  · have hn := lt_ex n
    rw [h] at hn
    rw [h, rne_zero]
    simp only [Nat.zero_mul, Nat.zero_add, Nat.pow_zero, Nat.mul_one]
    unfold val
    split
    · rfl
    · rw [show n / 2 ^ 52 - 1 = 0 from by omega]; omega
  · have hq := quot_ge (n := n) (by omega)
    have hk2 : 4503599627370496 ≤ rne n (ex n) := by unfold rne; omega
    generalize rne n (ex n) = k at *
    generalize ex n = d at *
    unfold val
    rw [if_neg (by omega)]
    by_cases hk3 : k = 9007199254740992
    · subst hk3
      rw [show (d * 2 ^ 52 + 9007199254740992) % 2 ^ 52 = 0 from by omega, show (d * 2 ^ 52 + 9007199254740992) / 2 ^ 52 - 1 = d + 1 from by omega, Nat.pow_succ]
      omega
    · rw [show 2 ^ 52 + (d * 2 ^ 52 + k) % 2 ^ 52 = k from by omega, show (d * 2 ^ 52 + k) / 2 ^ 52 - 1 = d from by omega]

/-! Rounding over the integers, and the floats among them. -/
def rnd (z : Int) : Int := if z < 0 then -(rnv z.natAbs : Int) else (rnv z.natAbs : Int)
/-- A float of unbounded range: at most 53 digits. -/
def IsF (z : Int) : Prop := ∃ e : Nat, (2 ^ e : Nat) ∣ z.natAbs ∧ z.natAbs ≤ 2 ^ (53 + e)

theorem rnv_of {n e : Nat} (h1 : 2 ^ e ∣ n) (h2 : n ≤ 2 ^ (53 + e)) : rnv n = n := by
  have hd : 2 ^ ex n ∣ n := by
    by_cases h : n < 2 ^ (53 + e)
    · exact Nat.dvd_trans (Nat.pow_dvd_pow 2 (ex_le_of_lt h)) h1
    · have hn : n = 2 ^ (53 + e) := by omega
      rw [hn]
      refine Nat.pow_dvd_pow 2 ?_
      unfold ex; rw [Nat.log2_two_pow]; omega
  unfold rnv
  rw [rne_of_dvd hd, Nat.div_mul_cancel hd]

theorem rnd_of_F {z : Int} (h : IsF z) : rnd z = z := by
  obtain ⟨e, h1, h2⟩ := h
  unfold rnd
  rw [rnv_of h1 h2]
  split <;> omega

theorem natAbs_rnd (z : Int) : (rnd z).natAbs = rnv z.natAbs := by unfold rnd; split <;> omega

theorem dvd_rnv (n : Nat) : 2 ^ ex n ∣ rnv n := Nat.dvd_mul_left _ _
theorem rnv_le (n : Nat) : rnv n ≤ 2 ^ (53 + ex n) := by rw [pow53]; exact Nat.mul_le_mul_right _ (rne_le n)
theorem rnd_F (z : Int) : IsF (rnd z) := ⟨ex z.natAbs, by rw [natAbs_rnd]; exact dvd_rnv _, by rw [natAbs_rnd]; exact rnv_le _⟩

theorem rnd_neg (z : Int) : rnd (-z) = -rnd z := by
  by_cases h : z = 0
  · subst h; decide
  · unfold rnd; rw [Int.natAbs_neg]; split <;> split <;> omega
theorem IsF.neg {z : Int} (h : IsF z) : IsF (-z) := by unfold IsF at *; rwa [Int.natAbs_neg]
theorem rnd_zero : rnd 0 = 0 := by decide
theorem IsF.zero : IsF 0 := ⟨0, by simp, by simp⟩

theorem IsF.ex_dvd {z : Int} (h : IsF z) : 2 ^ ex z.natAbs ∣ z.natAbs := by
  have := dvd_rnv z.natAbs
  obtain ⟨e, h1, h2⟩ := h
  rwa [rnv_of h1 h2] at this
theorem IsF.of {z : Int} {e : Nat} (h1 : 2 ^ e ∣ z.natAbs) (h2 : z.natAbs ≤ 2 ^ (53 + e)) : IsF z := ⟨e, h1, h2⟩
theorem dvd_natAbs_iff (e : Nat) (z : Int) : 2 ^ e ∣ z.natAbs ↔ ((2 ^ e : Nat) : Int) ∣ z := Int.ofNat_dvd_left.symm

/-- What is divided by 2^e stays so. -/
theorem rnv_dvd {n e : Nat} (h : 2 ^ e ∣ n) : 2 ^ e ∣ rnv n := by
  by_cases hx : ex n ≤ e
  · rw [rnv_of h]
    · exact h
    · exact Nat.le_of_lt (Nat.lt_of_lt_of_le (lt_ex n) (Nat.pow_le_pow_right (by omega) (by omega)))
  · exact Nat.dvd_trans (Nat.pow_dvd_pow 2 (by omega)) (dvd_rnv n)
theorem rnd_dvd {z : Int} {e : Nat} (h : ((2 ^ e : Nat) : Int) ∣ z) : ((2 ^ e : Nat) : Int) ∣ rnd z := by
  rw [← dvd_natAbs_iff] at *
  rw [natAbs_rnd]
  exact rnv_dvd h

/-- A magnitude, parted at its kept place. -/
theorem parts (n : Nat) (d : Nat) : n = n / 2 ^ d * 2 ^ d + n % 2 ^ d ∧ n % 2 ^ d < 2 ^ d := by
  refine ⟨?_, Nat.mod_lt _ (Nat.two_pow_pos d)⟩
  rw [Nat.mul_comm]; exact (Nat.div_add_mod n (2 ^ d)).symm

/-- The rounding is one of the two neighbours, the nearer one. -/
theorem rnv_cases (n : Nat) : (rnv n = n / 2 ^ ex n * 2 ^ ex n ∧ 2 * (n % 2 ^ ex n) ≤ 2 ^ ex n) ∨ (rnv n = n / 2 ^ ex n * 2 ^ ex n + 2 ^ ex n ∧ 2 ^ ex n ≤ 2 * (n % 2 ^ ex n)) := by
  unfold rnv rne up
  split
  · right
    refine ⟨by rw [Nat.add_mul, Nat.one_mul], by omega⟩
  · left
    refine ⟨by rw [Nat.add_zero], by omega⟩

theorem rnv_err (n : Nat) : 2 * ((rnv n : Int) - n).natAbs ≤ 2 ^ ex n := by
  have h := rnv_cases n
  have p := parts n (ex n)
  generalize n / 2 ^ ex n * 2 ^ ex n = Q at *
  generalize n % 2 ^ ex n = r at *
  generalize 2 ^ ex n = P at *
  omega
theorem rnv_exact {n : Nat} (h : ex n = 0) : rnv n = n := by unfold rnv; rw [h, rne_zero]; simp
theorem rnv_rel (n : Nat) : 9007199254740992 * ((rnv n : Int) - n).natAbs ≤ n := by
  by_cases h : ex n = 0
  · rw [rnv_exact h]; omega
  · have h1 := rnv_err n
    have h2 := le_of_ex (n := n) (by omega)
    rw [pow52] at h2
    generalize 2 ^ ex n = P at *
    omega
theorem rnd_err (z : Int) : 2 * (rnd z - z).natAbs ≤ 2 ^ ex z.natAbs := by
  have := rnv_err z.natAbs
  unfold rnd
  generalize 2 ^ ex z.natAbs = P at *
  generalize rnv z.natAbs = m at *
  split <;> omega
theorem rnd_exact {z : Int} (h : ex z.natAbs = 0) : rnd z = z := by
  unfold rnd; rw [rnv_exact h]; split <;> omega
theorem rnd_rel (z : Int) : 9007199254740992 * (rnd z - z).natAbs ≤ z.natAbs := by
  have := rnv_rel z.natAbs
  unfold rnd
  generalize rnv z.natAbs = m at *
  split <;> omega

/-- A float of at least 2^(52+d) is a multiple of 2^d. -/
theorem F_dvd_of_ge {f d : Nat} (hf : IsF (f : Int)) (h : 2 ^ (52 + d) ≤ f) : 2 ^ d ∣ f := by
  obtain ⟨e, h1, h2⟩ := hf
  simp only [Int.natAbs_natCast] at h1 h2
  by_cases he : d ≤ e
  · exact Nat.dvd_trans (Nat.pow_dvd_pow 2 he) h1
  · have : 2 ^ (53 + e) ≤ 2 ^ (52 + d) := Nat.pow_le_pow_right (by omega) (by omega)
    have : f = 2 ^ (52 + d) := by omega
    rw [this]
    exact Nat.pow_dvd_pow 2 (by omega)

/-- No float lies strictly between the two neighbours of a magnitude. -/
theorem F_gap {n f : Nat} (hf : IsF (f : Int)) : f ≤ n / 2 ^ ex n * 2 ^ ex n ∨ n / 2 ^ ex n * 2 ^ ex n + 2 ^ ex n ≤ f := by
  by_cases h0 : ex n = 0
  · rw [h0]; simp; omega
  · by_cases h : 2 ^ (52 + ex n) ≤ f
    · obtain ⟨k, hk⟩ := F_dvd_of_ge hf h
      rw [hk, Nat.mul_comm _ k]
      by_cases hc : k ≤ n / 2 ^ ex n
      · left; exact Nat.mul_le_mul_right _ hc
      · right
        have : (n / 2 ^ ex n + 1) * 2 ^ ex n ≤ k * 2 ^ ex n := Nat.mul_le_mul_right _ (by omega)
        rwa [Nat.add_mul, Nat.one_mul] at this
    · left
      have hq := Nat.mul_le_mul_right (2 ^ ex n) (quot_ge (n := n) (by omega))
      rw [pow52] at h
      omega

/-- The rounding is nearest. -/
theorem rnv_near {n f : Nat} (hf : IsF (f : Int)) : ((rnv n : Int) - n).natAbs ≤ ((f : Int) - n).natAbs := by
  have h := rnv_cases n
  have p := parts n (ex n)
  have g := F_gap (n := n) hf
  generalize n / 2 ^ ex n * 2 ^ ex n = Q at *
  generalize n % 2 ^ ex n = r at *
  generalize 2 ^ ex n = P at *
  omega
theorem rnd_near {z f : Int} (hf : IsF f) : (rnd z - z).natAbs ≤ (f - z).natAbs := by
  have h0 := rnv_near (n := z.natAbs) (f := 0) IsF.zero
  have h1 := rnv_near (n := z.natAbs) (f := f.natAbs) (by unfold IsF at *; simpa using hf)
  unfold rnd
  generalize rnv z.natAbs = m at *
  split <;> omega
theorem rnd_mono {x y : Int} (h : x ≤ y) : rnd x ≤ rnd y := by
  by_cases he : x = y
  · rw [he]; omega
  · have h1 := rnd_near (z := x) (rnd_F y)
    have h2 := rnd_near (z := y) (rnd_F x)
    omega
theorem F_pow (k : Nat) : IsF ((2 ^ k : Nat) : Int) := ⟨k, by simp, by simp only [Int.natAbs_natCast]; exact Nat.pow_le_pow_right (by omega) (by omega)⟩
theorem rnd_bound {z : Int} {k : Nat} (h : z.natAbs ≤ 2 ^ k) : (rnd z).natAbs ≤ 2 ^ k := by
  have h1 := rnd_mono (x := z) (y := ((2 ^ k : Nat) : Int)) (by omega)
  have h2 := rnd_mono (x := -((2 ^ k : Nat) : Int)) (y := z) (by omega)
  rw [rnd_neg, rnd_of_F (F_pow k)] at h2
  rw [rnd_of_F (F_pow k)] at h1
  omega
theorem rnd_pos {z : Int} (h : 0 ≤ z) : 0 ≤ rnd z := by have := rnd_mono h; rwa [rnd_zero] at this
theorem rnd_eq_zero {z : Int} (h : rnd z = 0) : z = 0 := by
  have := rnd_rel z; rw [h] at this; omega

/-! Divisibility of sums. -/
theorem dvd_add' {e : Nat} {a b : Int} (ha : ((2 ^ e : Nat) : Int) ∣ a) (hb : ((2 ^ e : Nat) : Int) ∣ b) : ((2 ^ e : Nat) : Int) ∣ a + b := Int.dvd_add ha hb
theorem dvd_sub' {e : Nat} {a b : Int} (ha : ((2 ^ e : Nat) : Int) ∣ a) (hb : ((2 ^ e : Nat) : Int) ∣ b) : ((2 ^ e : Nat) : Int) ∣ a - b := Int.dvd_sub ha hb
theorem dvd_down {e d : Nat} {a : Int} (h : d ≤ e) (ha : ((2 ^ e : Nat) : Int) ∣ a) : ((2 ^ d : Nat) : Int) ∣ a :=
  Int.dvd_trans (Int.natCast_dvd_natCast.2 (Nat.pow_dvd_pow 2 h)) ha
theorem IsF.dvd {z : Int} (h : IsF z) : ((2 ^ ex z.natAbs : Nat) : Int) ∣ z := (dvd_natAbs_iff _ _).1 h.ex_dvd
theorem IsF.mk' {z : Int} {e : Nat} (h1 : ((2 ^ e : Nat) : Int) ∣ z) (h2 : z.natAbs ≤ 2 ^ (53 + e)) : IsF z := ⟨e, (dvd_natAbs_iff _ _).2 h1, h2⟩
/-- A multiple of P that is smaller than P is nothing; below Q a multiple stays a whole P below. -/
theorem mult_lt {P : Nat} {z : Int} (h : (P : Int) ∣ z) (hz : z.natAbs < P) : z = 0 := Int.eq_zero_of_dvd_of_natAbs_lt_natAbs h (by simpa using hz)

theorem mult_below {n P c : Nat} (h : P ∣ n) (hn : n < c * P) : n + P ≤ c * P := by
  obtain ⟨k, rfl⟩ := h
  rw [Nat.mul_comm P k] at *
  have : k < c := Nat.lt_of_mul_lt_mul_right hn
  have := Nat.mul_le_mul_right P this
  rwa [Nat.succ_mul] at this

/-- The error of a sum is a float. -/
theorem err_F {a b : Int} (ha : IsF a) (hb : IsF b) : IsF (a + b - rnd (a + b)) := by
  have key : ∀ {a b : Int}, IsF a → IsF b → b.natAbs ≤ a.natAbs → IsF (a + b - rnd (a + b)) := by
    intro a b ha hb h
    have hd := dvd_down (ex_mono h) ha.dvd
    have hs := dvd_add' hd hb.dvd
    refine IsF.mk' (dvd_sub' hs (rnd_dvd hs)) ?_
    have h1 := rnd_near (z := a + b) ha
    have h2 := lt_ex b.natAbs
    omega
  by_cases h : b.natAbs ≤ a.natAbs
  · exact key ha hb h
  · have := key hb ha (by omega)
    rwa [Int.add_comm b a] at this

/-- Dekker: of |b| <= |a| the sum less a is a float. -/
theorem fast_F {a b : Int} (ha : IsF a) (hb : IsF b) (h : b.natAbs ≤ a.natAbs) : IsF (rnd (a + b) - a) := by
  by_cases hx : ex (a + b).natAbs ≤ ex b.natAbs
  · have hd := dvd_add' (dvd_down (ex_mono h) ha.dvd) hb.dvd
    have : rnd (a + b) = a + b := rnd_of_F (IsF.mk' hd (by
      refine Nat.le_of_lt (Nat.lt_of_lt_of_le (lt_ex _) (Nat.pow_le_pow_right (by omega) (by omega)))))
    rw [this, show a + b - a = b from by omega]
    exact hb
  · have he := rnd_err (a + b)
    have hsd : ((2 ^ ex (a + b).natAbs : Nat) : Int) ∣ rnd (a + b) := by rw [← dvd_natAbs_iff, natAbs_rnd]; exact dvd_rnv _
    have hbl := lt_ex b.natAbs
    rw [pow53] at hbl
    by_cases hc : ex (a + b).natAbs ≤ ex a.natAbs
    · refine IsF.mk' (dvd_sub' hsd (dvd_down hc ha.dvd)) ?_
      rw [pow53]
      have hp : 2 ^ (ex b.natAbs + 1) ≤ 2 ^ ex (a + b).natAbs := Nat.pow_le_pow_right (by omega) (by omega)
      rw [Nat.pow_succ] at hp
      generalize rnd (a + b) = s at *
      generalize 2 ^ ex (a + b).natAbs = P at *
      generalize 2 ^ ex b.natAbs = B at *
      omega
    · refine IsF.mk' (dvd_sub' (dvd_down (by omega) hsd) ha.dvd) ?_
      have hal := lt_ex a.natAbs
      have had := ha.ex_dvd
      have h2 : ex (a + b).natAbs ≤ ex a.natAbs + 1 := by
        refine ex_le_of_lt ?_
        have hal' := hal
        rw [pow53] at hal'
        rw [pow53, Nat.pow_succ]
        omega
      have h3 : ex (a + b).natAbs = ex a.natAbs + 1 := by omega
      rw [h3, Nat.pow_succ] at he
      rw [pow53] at *
      have hk3 := mult_below had hal
      generalize rnd (a + b) = s at *
      generalize 2 ^ ex a.natAbs = A at *
      omega

theorem tri1 {s a b : Int} {D : Nat} (he : 2 * (s - (a + b)).natAbs ≤ D) : 2 * (s - a).natAbs ≤ 2 * b.natAbs + D ∧ 2 * b.natAbs ≤ 2 * (s - a).natAbs + D := by omega
theorem tri2 {s a r : Int} {G : Nat} (he : 2 * (r - (s - a)).natAbs ≤ G) : 2 * (s - r).natAbs ≤ 2 * a.natAbs + G := by omega
theorem tri3 {s a b r : Int} {D : Nat} (he : 2 * (s - (a + b)).natAbs ≤ D) (hn : (r - (s - a)).natAbs ≤ (b - (s - a)).natAbs) : (b - r).natAbs ≤ D := by omega
theorem pow_step (e : Nat) : 2 ^ (e + 1) = 2 * 2 ^ e := by rw [Nat.pow_succ, Nat.mul_comm]

/-- Knuth: where |a| < |b|, the steps behind the sum are exact. -/
theorem two_F {a b : Int} (ha : IsF a) (hb : IsF b) (h : a.natAbs < b.natAbs) :
    IsF (rnd (a + b) - rnd (rnd (a + b) - a)) ∧ IsF (b - rnd (rnd (a + b) - a)) := by
  by_cases hex : rnd (a + b) = a + b
  · rw [hex, show a + b - a = b from by omega, rnd_of_F hb, show a + b - b = a from by omega, Int.sub_self]
    exact ⟨ha, IsF.zero⟩
  · have hd0 : 0 < ex (a + b).natAbs := Nat.pos_of_ne_zero fun h0 => hex (rnd_exact h0)
    have he := rnd_err (a + b)
    have hsd : ((2 ^ ex (a + b).natAbs : Nat) : Int) ∣ rnd (a + b) := by rw [← dvd_natAbs_iff, natAbs_rnd]; exact dvd_rnv _
    have hbl := lt_ex b.natAbs
    have hbd := hb.ex_dvd
    rw [pow53] at hbl
    have hup : ex (a + b).natAbs ≤ ex b.natAbs + 1 := by
      refine ex_le_of_lt ?_
      rw [pow53, pow_step]
      omega
    have hhalf : 2 * a.natAbs < b.natAbs ∨ b.natAbs < (a + b).natAbs := by
      refine Decidable.byContradiction fun hn => hex ?_
      have hda := ha.dvd
      have hdb := dvd_down (ex_mono (Nat.le_of_lt h)) hb.dvd
      refine rnd_of_F (IsF.mk' (dvd_add' hda hdb) ?_)
      have := lt_ex a.natAbs
      omega
    have hs2 := le_of_ex hd0
    rw [pow52] at hs2
    have hsl := lt_ex (a + b).natAbs
    rw [pow53] at hsl
    have hlow : ex b.natAbs ≤ ex (a + b).natAbs + 1 := by
      refine ex_le_of_lt ?_
      rw [pow53, pow_step]
      omega
    generalize hs : rnd (a + b) = s at *
    have he2 := rnd_err (s - a)
    have hbbd : ((2 ^ ex (s - a).natAbs : Nat) : Int) ∣ rnd (s - a) := by rw [← dvd_natAbs_iff, natAbs_rnd]; exact dvd_rnv _
    have hnear := rnd_near (z := s - a) hb
    have haF : IsF (a.natAbs : Int) := by unfold IsF at *; simpa using ha
    have t1 := tri1 he
    have t3 := tri3 he hnear
    have t2 := tri2 he2
    clear he he2 hnear hs
    have hx0 : ex (s - a).natAbs = 0 → rnd (s - a) = s - a := rnd_exact
    have hsaF : ∀ e, (s - a).natAbs = 2 ^ e → rnd (s - a) = s - a := fun e h2 => by
      have hF := F_pow e
      rw [← h2] at hF
      exact rnd_of_F (by unfold IsF at *; simpa using hF)
    have hb52 : 0 < ex b.natAbs → 4503599627370496 * 2 ^ ex b.natAbs ≤ b.natAbs := fun h0 => by have := le_of_ex h0; rwa [pow52] at this
    have hsa := lt_ex (s - a).natAbs
    have hsa52 : 0 < ex (s - a).natAbs → 4503599627370496 * 2 ^ ex (s - a).natAbs ≤ (s - a).natAbs := fun h0 => by have := le_of_ex h0; rwa [pow52] at this
    rw [pow53] at hsa
    have hbP := mult_below hbd hbl
    have haD : ∀ g, 2 ^ (52 + g) ≤ a.natAbs → 2 ^ g ∣ a.natAbs := fun g hg => F_dvd_of_ge haF hg
    have hbv := hb.dvd
    generalize hS : rnd (s - a) = r at *
    generalize hzz : (s - a).natAbs = Z at *
    generalize hxx : (a + b).natAbs = X at *
    generalize hbb : b.natAbs = Bn at *
    generalize haa : a.natAbs = An at *
    generalize ex X = d at *
    generalize ex Bn = β at *
    generalize hg : ex Z = g at *
    have hDpos := Nat.two_pow_pos d
    have hBpos := Nat.two_pow_pos β
    have hGpos := Nat.two_pow_pos g
    have hDB : 2 ^ d ≤ 2 * 2 ^ β := by rw [← pow_step]; exact Nat.pow_le_pow_right (by omega) hup
    have hBD : 2 ^ β ≤ 2 * 2 ^ d := by rw [← pow_step]; exact Nat.pow_le_pow_right (by omega) hlow
    have hdg : d ≤ g + 2 := by
      refine Decidable.byContradiction fun hn => ?_
      have h2 := Nat.pow_le_pow_right (n := 2) (by omega) (show g + 1 + 1 + 1 ≤ d by omega)
      rw [pow_step, pow_step, pow_step] at h2
      have h3 := hb52 (by omega)
      clear hsaF hsa52 hb52 haD
      generalize 2 ^ d = D at *
      generalize 2 ^ β = B at *
      generalize 2 ^ g = G at *
      omega
    have hDG : 2 ^ d ≤ 4 * 2 ^ g := by
      have := Nat.pow_le_pow_right (n := 2) (by omega) (show d ≤ g + 1 + 1 by omega)
      rw [pow_step, pow_step] at this; omega
    refine ⟨?_, ?_⟩
    · by_cases hx2 : r = s - a
      · rw [hx2, show s - (s - a) = a from by omega]; exact ha
      · have hg0 : 0 < g := Nat.pos_of_ne_zero fun h0 => hx2 (hx0 h0)
        have hga := hsa52 hg0
        have hgb : g ≤ β := by
          refine Decidable.byContradiction fun hn => hx2 (hsaF (53 + β) ?_)
          have h1 := Nat.pow_le_pow_right (n := 2) (by omega) (show β + 1 ≤ g by omega)
          rw [pow_step] at h1
          rw [pow53]
          clear hsaF hsa52 hb52 haD
          generalize 2 ^ d = D at *
          generalize 2 ^ β = B at *
          generalize 2 ^ g = G at *
          omega
        by_cases hgd : g ≤ d
        · refine IsF.mk' (dvd_sub' (dvd_down hgd hsd) hbbd) ?_
          rw [pow53]
          by_cases hgb2 : g = β
          · subst hgb2
            clear hsaF hsa52 hb52 haD
            generalize (s - r).natAbs = T at *
            generalize 2 ^ d = D at *
            generalize 2 ^ g = G at *
            omega
          · have h1 := Nat.pow_le_pow_right (n := 2) (by omega) (show g + 1 ≤ β by omega)
            rw [pow_step] at h1
            have h3 := hb52 (by omega)
            have hB2 : 2 ^ β < 2 ^ (g + 1 + 1) := by
              rw [pow_step, pow_step]
              clear hsaF hsa52 hb52 haD
              generalize 2 ^ d = D at *
              generalize 2 ^ β = B at *
              generalize 2 ^ g = G at *
              omega
            have hbg : β = g + 1 := by
              have := (Nat.pow_lt_pow_iff_right (a := 2) (by omega)).1 hB2
              omega
            have hBG : 2 ^ β = 2 * 2 ^ g := by rw [hbg, pow_step]
            have hb3 : Bn < 4503599627370497 * 2 ^ β := by
              clear hsaF hsa52 hb52 haD
              generalize 2 ^ d = D at *
              generalize 2 ^ β = B at *
              generalize 2 ^ g = G at *
              omega
            have hb4 := mult_below hbd hb3
            have ha4 : An + 2 ^ g ≤ 9007199254740992 * 2 ^ g := by
              by_cases hc : 2 ^ (52 + g) ≤ An
              · refine mult_below (haD g hc) ?_
                clear hsaF hsa52 hb52 haD hc
                generalize 2 ^ d = D at *
                generalize 2 ^ β = B at *
                generalize 2 ^ g = G at *
                omega
              · rw [pow52] at hc; omega
            clear hsaF hsa52 hb52 haD
            generalize (s - r).natAbs = T at *
            generalize 2 ^ d = D at *
            generalize 2 ^ β = B at *
            generalize 2 ^ g = G at *
            omega
        · have hgD : 2 ^ g = 2 * 2 ^ d := by rw [show g = d + 1 from by omega, pow_step]
          have hgB : β = g := by omega
          subst hgB
          have h3 := hb52 (by omega)
          refine IsF.mk' (dvd_sub' hsd (dvd_down (by omega) hbbd)) ?_
          rw [pow53]
          clear hsaF hsa52 hb52 haD
          generalize (s - r).natAbs = T at *
          generalize 2 ^ d = D at *
          generalize 2 ^ β = G at *
          omega
    · have hb' := dvd_sub' (dvd_down (Nat.min_le_left β g) hbv) (dvd_down (Nat.min_le_right β g) hbbd)
      refine IsF.mk' hb' ?_
      have hm : 2 ^ d ≤ 4 * 2 ^ min β g := by
        have := Nat.pow_le_pow_right (n := 2) (by omega) (show d ≤ min β g + 1 + 1 by omega)
        rw [pow_step, pow_step] at this; omega
      rw [pow53]
      generalize 2 ^ min β g = M at *
      generalize 2 ^ d = D at *
      omega

theorem err_F' {a b : Int} (ha : IsF a) (hb : IsF b) : IsF (rnd (a - b) - (a - b)) := by
  have := (err_F ha hb.neg).neg
  rw [← Int.sub_eq_add_neg] at this
  rwa [Int.neg_sub] at this

/-- Knuth's sum: the error, exactly. -/
theorem twoSum {a b : Int} (ha : IsF a) (hb : IsF b) :
    rnd (rnd (a - rnd (rnd (a + b) - rnd (rnd (a + b) - a))) + rnd (b - rnd (rnd (a + b) - a))) = a + b - rnd (a + b) := by
  by_cases h : b.natAbs ≤ a.natAbs
  · rw [rnd_of_F (fast_F ha hb h), show rnd (a + b) - (rnd (a + b) - a) = a from by omega, rnd_of_F ha, Int.sub_self, rnd_zero,
      show b - (rnd (a + b) - a) = a + b - rnd (a + b) from by omega, Int.zero_add, rnd_of_F (err_F ha hb), rnd_of_F (err_F ha hb)]
  · obtain ⟨h1, h2⟩ := two_F ha hb (by omega)
    have h3 := err_F' (rnd_F (a + b)) ha
    rw [rnd_of_F h1, rnd_of_F h2, show a - (rnd (a + b) - rnd (rnd (a + b) - a)) = rnd (rnd (a + b) - a) - (rnd (a + b) - a) from by omega, rnd_of_F h3,
      show rnd (rnd (a + b) - a) - (rnd (a + b) - a) + (b - rnd (rnd (a + b) - a)) = a + b - rnd (a + b) from by omega]
    exact rnd_of_F (err_F ha hb)

/-- Dekker's sum. -/
theorem fastTwoSum {a b : Int} (ha : IsF a) (hb : IsF b) (h : b.natAbs ≤ a.natAbs) : rnd (b - rnd (rnd (a + b) - a)) = a + b - rnd (a + b) := by
  rw [rnd_of_F (fast_F ha hb h), show b - (rnd (a + b) - a) = a + b - rnd (a + b) from by omega, rnd_of_F (err_F ha hb)]
end Fl
