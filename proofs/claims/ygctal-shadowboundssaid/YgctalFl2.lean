import Derived.Test.YgctalFl1
namespace Fl
open Ieee

/-! Words of a double: what they stand for, in units of the least subnormal number. -/
def sgn (x : Nat) : Bool := x / 9223372036854775808 % 2 == 1
def rung (x : Nat) : Nat := x % 9223372036854775808
/-- A word that is a number. -/
def Fin (x : Nat) : Prop := x < 18446744073709551616 ∧ rung x < 9218868437227405312
def V (x : Nat) : Int := if sgn x then -(val (rung x) : Int) else (val (rung x) : Int)
/-- The word of a rounded sum. -/
def enc (s : Bool) (t : Int) : Nat := double.word (if t = 0 then s else decide (t < 0)) (min (rd t.natAbs) double.infRung)

theorem leastPlace_eq : double.leastPlace = -1074 := by decide
theorem binade_eq : double.binade = 4503599627370496 := by decide
theorem infRung_eq : double.infRung = 9218868437227405312 := by decide
theorem signWeight_eq : double.signWeight = 9223372036854775808 := by decide

theorem read_fin {x : Nat} (h : Fin x) : ∃ m k : Nat, double.read x = .number (sgn x) m (double.leastPlace + k) ∧ m * 2 ^ k = val (rung x) := by
  obtain ⟨h1, h2⟩ := h
  unfold Format.read
  rw [signWeight_eq, binade_eq, infRung_eq]
  show ∃ m k : Nat, (if rung x < _ then _ else _) = _ ∧ _
  unfold val
  by_cases hr : rung x < 4503599627370496
  · rw [if_pos hr, if_pos (show rung x < 2 ^ 52 from hr)]
    refine ⟨rung x, 0, ?_, by simp⟩
    simp [sgn, rung]
  · rw [if_neg hr, if_neg (show ¬ rung x < 2 ^ 52 from hr)]
    have : x % 9223372036854775808 < 9218868437227405312 := h2
    rw [if_pos this]
    refine ⟨4503599627370496 + rung x % 4503599627370496, rung x / 4503599627370496 - 1, ?_, rfl⟩
    simp [sgn, rung]

theorem signed_eq (s : Bool) (m k : Nat) : signed s m k = if s then -((m * 2 ^ k : Nat) : Int) else ((m * 2 ^ k : Nat) : Int) := by
  unfold signed
  rw [Nat.shiftLeft_eq]

theorem cut_even (n d : Nat) (h : d ≤ n.log2 + 2) (s : Bool) : Toward.even.cut s n d = rne n d := by
  unfold Toward.cut rne up
  simp only [Nat.min_eq_left h, Nat.one_shiftLeft]
  congr 1
  generalize n / 2 ^ d % 2 = q
  generalize n % 2 ^ d = r
  generalize 2 ^ d = P
  by_cases h1 : P < 2 * r <;> by_cases h2 : P = 2 * r <;> by_cases h3 : q = 1 <;> simp [h1, h2, h3]

theorem rne_scale (m k d : Nat) : rne (m * 2 ^ k) (d + k) = rne m d := by
  have hk := Nat.two_pow_pos k
  have e1 : m * 2 ^ k / 2 ^ (d + k) = m / 2 ^ d := by rw [Nat.pow_add, Nat.mul_div_mul_right _ _ hk]
  have e2 : m * 2 ^ k % 2 ^ (d + k) = m % 2 ^ d * 2 ^ k := by rw [Nat.pow_add, Nat.mul_mod_mul_right]
  unfold rne up
  rw [e1, e2]
  congr 1
  have c1 : 2 ^ (d + k) < 2 * (m % 2 ^ d * 2 ^ k) ↔ 2 ^ d < 2 * (m % 2 ^ d) := by
    rw [Nat.pow_add, ← Nat.mul_assoc]
    exact ⟨fun h => Nat.lt_of_mul_lt_mul_right h, fun h => Nat.mul_lt_mul_of_pos_right h hk⟩
  have c2 : 2 ^ (d + k) = 2 * (m % 2 ^ d * 2 ^ k) ↔ 2 ^ d = 2 * (m % 2 ^ d) := by
    rw [Nat.pow_add, ← Nat.mul_assoc]
    exact ⟨fun h => Nat.eq_of_mul_eq_mul_right hk h, fun h => congrArg (· * 2 ^ k) h⟩
  simp only [c1, c2]

/-- The word nearest to a number that the least place divides. -/
theorem nearest_eq (s : Bool) (m k : Nat) (hm : m ≠ 0) : double.nearest s m (double.leastPlace + k) = double.word s (min (rd (m * 2 ^ k)) double.infRung) := by
  unfold Format.nearest
  rw [if_neg hm]
  dsimp only
  rw [leastPlace_eq, show (double.fractionBits : Int) = 52 from rfl, binade_eq]
  have hex : ex (m * 2 ^ k) = m.log2 + k - 52 := by unfold ex; rw [log2_mul_pow m k hm]
  have hlast : max (-1074 + (k : Int) + (m.log2 : Int) - 52) (-1074) = -1074 + (ex (m * 2 ^ k) : Int) := by rw [hex]; omega
  rw [hlast]
  have e1 : (-1074 + (k : Int) - (-1074 + (ex (m * 2 ^ k) : Int))).toNat = k - ex (m * 2 ^ k) := by omega
  have e2 : (-1074 + (ex (m * 2 ^ k) : Int) - (-1074 + (k : Int))).toNat = ex (m * 2 ^ k) - k := by omega
  have e3 : (-1074 + (ex (m * 2 ^ k) : Int) - -1074).toNat = ex (m * 2 ^ k) := by omega
  rw [e1, e2, e3, Nat.shiftLeft_eq]
  congr 2
  unfold rd
  congr 1
  by_cases h : ex (m * 2 ^ k) ≤ k
  · rw [show ex (m * 2 ^ k) - k = 0 from by omega, cut_even _ _ (by omega), rne_zero]
    have hk : m * 2 ^ k = m * 2 ^ (k - ex (m * 2 ^ k)) * 2 ^ ex (m * 2 ^ k) := by
      rw [Nat.mul_assoc, ← Nat.pow_add, Nat.sub_add_cancel h]
    rw [rne_of_dvd (by rw (occs := .pos [2]) [hk]; exact Nat.dvd_mul_left _ _)]
    rw (occs := .pos [2]) [hk]
    exact (Nat.mul_div_cancel _ (Nat.two_pow_pos _)).symm
  · rw [show k - ex (m * 2 ^ k) = 0 from by omega, Nat.pow_zero, Nat.mul_one, cut_even _ _ (by omega)]
    rw (occs := .pos [2]) [show ex (m * 2 ^ k) = (ex (m * 2 ^ k) - k) + k from by omega]
    exact (rne_scale m k _).symm

/-- A magnitude with its sign. -/
def sv (s : Bool) (n : Nat) : Int := if s then -(n : Int) else (n : Int)

theorem rd_zero : rd 0 = 0 := by decide
theorem sv_scale (s : Bool) (m i b : Nat) (h : b ≤ i) : signed s m (i - b) * (2 ^ b : Nat) = sv s (m * 2 ^ i) := by
  have : m * 2 ^ (i - b) * 2 ^ b = m * 2 ^ i := by rw [Nat.mul_assoc, ← Nat.pow_add, Nat.sub_add_cancel h]
  rw [signed_eq]
  unfold sv
  split
  · rw [Int.neg_mul, ← Int.natCast_mul, this]
  · rw [← Int.natCast_mul, this]

theorem sum_enc (s t : Bool) (m n i j : Nat) :
    (Datum.sum (.number s m (double.leastPlace + i)) (.number t n (double.leastPlace + j))).map double.write = some (enc (s && t) (sv s (m * 2 ^ i) + sv t (n * 2 ^ j))) := by
  unfold Datum.sum
  simp only [Option.map_some]
  rw [leastPlace_eq]
  have hb : min (-1074 + (i : Int)) (-1074 + (j : Int)) = -1074 + (min i j : Nat) := by omega
  rw [hb, show (-1074 + (i : Int) - (-1074 + ((min i j : Nat) : Int))).toNat = i - min i j from by omega, show (-1074 + (j : Int) - (-1074 + ((min i j : Nat) : Int))).toNat = j - min i j from by omega]
  have h1 := sv_scale s m i (min i j) (Nat.min_le_left _ _)
  have h2 := sv_scale t n j (min i j) (Nat.min_le_right _ _)
  have hT : (signed s m (i - min i j) + signed t n (j - min i j)) * (2 ^ min i j : Nat) = sv s (m * 2 ^ i) + sv t (n * 2 ^ j) := by rw [Int.add_mul, h1, h2]
  have hpos := Nat.two_pow_pos (min i j)
  generalize sv s (m * 2 ^ i) + sv t (n * 2 ^ j) = T at *
  generalize signed s m (i - min i j) + signed t n (j - min i j) = u at *
  generalize hbb : min i j = b at *
  rw [← leastPlace_eq]
  unfold Format.write enc
  dsimp only
  by_cases hu : u = 0
  · subst hu
    rw [Int.zero_mul] at hT
    subst hT
    simp [Format.nearest, rd_zero]
  · have hT0 : T ≠ 0 := by rw [← hT]; exact Int.mul_ne_zero hu (by omega)
    have hTa : T.natAbs = u.natAbs * 2 ^ b := by rw [← hT, Int.natAbs_mul, Int.natAbs_natCast]
    have hlt : decide (u < 0) = decide (T < 0) := by
      refine decide_eq_decide.2 ?_
      rw [← hT]
      refine ⟨fun hn => Int.mul_neg_of_neg_of_pos hn (by omega), fun h => Decidable.byContradiction fun hn => ?_⟩
      have : 0 ≤ u * (2 ^ b : Nat) := Int.mul_nonneg (by omega) (by omega)
      omega
    rw [if_neg hu, if_neg hT0, nearest_eq _ _ _ (by omega), hTa, hlt]

/-- The sum of two finite words. -/
theorem add_fin {x y : Nat} (hx : Fin x) (hy : Fin y) : double.add x y = some (enc (sgn x && sgn y) (V x + V y)) := by
  obtain ⟨m, i, hm, hv⟩ := read_fin hx
  obtain ⟨n, j, hn, hu⟩ := read_fin hy
  unfold Format.add
  rw [hm, hn, sum_enc, hv, hu]
  rfl
theorem sub_fin {x y : Nat} (hx : Fin x) (hy : Fin y) : double.sub x y = some (enc (sgn x && !sgn y) (V x - V y)) := by
  obtain ⟨m, i, hm, hv⟩ := read_fin hx
  obtain ⟨n, j, hn, hu⟩ := read_fin hy
  unfold Format.sub
  rw [hm, hn]
  show (Datum.sum _ (.number (!sgn y) n _)).map double.write = _
  rw [sum_enc, hv, hu, show sv (!sgn y) (val (rung y)) = - V y from by unfold sv V; cases sgn y <;> simp]
  rfl

/-- How two finite words stand to each other. -/
theorem order_fin {x y : Nat} (hx : Fin x) (hy : Fin y) : double.order x y = some (if V x < V y then .lt else if V x = V y then .eq else .gt) := by
  obtain ⟨m, i, hm, hv⟩ := read_fin hx
  obtain ⟨n, j, hn, hu⟩ := read_fin hy
  unfold Format.order
  rw [hm, hn]
  unfold Datum.order
  dsimp only
  rw [leastPlace_eq]
  have hb : min (-1074 + (i : Int)) (-1074 + (j : Int)) = -1074 + (min i j : Nat) := by omega
  rw [hb, show (-1074 + (i : Int) - (-1074 + ((min i j : Nat) : Int))).toNat = i - min i j from by omega, show (-1074 + (j : Int) - (-1074 + ((min i j : Nat) : Int))).toNat = j - min i j from by omega]
  have h1 := sv_scale (sgn x) m i (min i j) (Nat.min_le_left _ _)
  have h2 := sv_scale (sgn y) n j (min i j) (Nat.min_le_right _ _)
  rw [hv, show sv (sgn x) (val (rung x)) = V x from rfl] at h1
  rw [hu, show sv (sgn y) (val (rung y)) = V y from rfl] at h2
  have hpos := Nat.two_pow_pos (min i j)
  have hp : (0 : Int) < ((2 ^ min i j : Nat) : Int) := by omega
  rw [← h1, ← h2]
  generalize signed (sgn x) m (i - min i j) = u at *
  generalize signed (sgn y) n (j - min i j) = v at *
  generalize ((2 ^ min i j : Nat) : Int) = P at *
  unfold compare instOrdInt
  simp only [compareOfLessAndEq]
  have c1 : u * P < v * P ↔ u < v := ⟨fun h => Int.lt_of_mul_lt_mul_right h (by omega), fun h => Int.mul_lt_mul_of_pos_right h hp⟩
  have c2 : u * P = v * P ↔ u = v := ⟨fun h => Int.eq_of_mul_eq_mul_right (by omega) h, fun h => by rw [h]⟩
  simp only [c1, c2]

/-! A word made of a sign and a rung. -/
theorem word_eq (s : Bool) (r : Nat) : double.word s r = if s then 9223372036854775808 + r else r := by unfold Format.word; rw [signWeight_eq]
theorem sgn_word (s : Bool) {r : Nat} (h : r < 9223372036854775808) : sgn (double.word s r) = s := by
  rw [word_eq]; unfold sgn; cases s <;> simp <;> omega
theorem rung_word (s : Bool) {r : Nat} (h : r < 9223372036854775808) : rung (double.word s r) = r := by
  rw [word_eq]; unfold rung; cases s <;> simp <;> omega
theorem fin_word (s : Bool) {r : Nat} (h : r < 9218868437227405312) : Fin (double.word s r) := by
  refine ⟨?_, by rw [rung_word s (by omega)]; exact h⟩
  rw [word_eq]; cases s <;> simp <;> omega
theorem V_word (s : Bool) {r : Nat} (h : r < 9223372036854775808) : V (double.word s r) = sv s (val r) := by
  unfold V; rw [sgn_word s h, rung_word s h]; rfl
theorem word_of (x : Nat) (h : x < 18446744073709551616) : x = double.word (sgn x) (rung x) := by
  rw [word_eq]; unfold sgn rung
  by_cases h1 : x / 9223372036854775808 % 2 = 1 <;> simp [h1] <;> omega

/-- Below the overflow's edge. -/
theorem rd_lt {n : Nat} (h : n < 2 ^ 2097) : rd n < 9218868437227405312 := by
  rw [show (2097 : Nat) = 53 + 2044 from rfl] at h
  have hx : ex n ≤ 2044 := ex_le_of_lt h
  have := rne_le n
  unfold rd
  omega
theorem enc_fin (s : Bool) {t : Int} (h : t.natAbs < 2 ^ 2097) : Fin (enc s t) := by
  unfold enc
  rw [infRung_eq, Nat.min_eq_left (Nat.le_of_lt (rd_lt h))]
  exact fin_word _ (rd_lt h)
theorem V_enc (s : Bool) {t : Int} (h : t.natAbs < 2 ^ 2097) : V (enc s t) = rnd t := by
  have hr := rd_lt h
  unfold enc
  rw [infRung_eq, Nat.min_eq_left (Nat.le_of_lt hr), V_word _ (by omega), val_rd]
  unfold sv rnd
  by_cases h0 : t = 0
  · subst h0
    rw [show rnv (Int.natAbs 0) = 0 from by decide]
    cases s <;> simp
  · simp [h0]
theorem val_F (r : Nat) : IsF (val r : Int) := by
  unfold val
  split
  · exact ⟨0, by simp, by simp; omega⟩
  · refine ⟨r / 2 ^ 52 - 1, ?_, ?_⟩
    · rw [Int.natAbs_natCast]; exact Nat.dvd_mul_left _ _
    · rw [Int.natAbs_natCast, pow53]; exact Nat.mul_le_mul_right _ (by omega)
theorem V_F (x : Nat) : IsF (V x) := by unfold V; split <;> first | exact (val_F _).neg | exact val_F _

/-- The rung is the rung of its magnitude. -/
theorem rd_val (r : Nat) : rd (val r) = r := by
  unfold val
  by_cases h : r < 2 ^ 52
  · rw [if_pos h]
    unfold rd
    rw [show ex r = 0 from Nat.le_zero.1 (ex_le_of_lt (by omega)), rne_zero]; omega
  · rw [if_neg h]
    have hex : ex ((2 ^ 52 + r % 2 ^ 52) * 2 ^ (r / 2 ^ 52 - 1)) = r / 2 ^ 52 - 1 := by
      unfold ex
      rw [log2_mul_pow _ _ (by omega), show Nat.log2 (2 ^ 52 + r % 2 ^ 52) = 52 from (Nat.log2_eq_iff (by omega)).2 (by omega)]
      omega
    unfold rd
    rw [hex, rne_of_dvd (Nat.dvd_mul_left _ _), Nat.mul_div_cancel _ (Nat.two_pow_pos _)]
    omega
theorem val_eq_zero {r : Nat} (h : val r = 0) : r = 0 := by rw [← rd_val r, h]; exact rd_zero
/-- A finite word that is no zero is the word of its value. -/
theorem enc_V {x : Nat} (hx : Fin x) (h : V x ≠ 0) (s : Bool) : enc s (V x) = x := by
  have hv : (V x).natAbs = val (rung x) := by unfold V; split <;> simp
  have hs : decide (V x < 0) = sgn x := by
    unfold V at *
    cases hc : sgn x
    · simp
    · rw [hc] at h; simp at h; simp; omega
  unfold enc
  rw [if_neg h, hv, rd_val, hs, infRung_eq, Nat.min_eq_left (Nat.le_of_lt hx.2)]
  exact (word_of x hx.1).symm
theorem V_inj {x y : Nat} (hx : Fin x) (hy : Fin y) (h : V x ≠ 0) (he : V x = V y) : x = y := by
  rw [← enc_V hx h true, he, enc_V hy (he ▸ h) true]
end Fl
