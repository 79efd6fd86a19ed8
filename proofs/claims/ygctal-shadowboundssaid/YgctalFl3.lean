import Derived.Test.YgctalFl2
namespace Fl
open Ieee

/-! Sums of bounded words: nothing overflows. -/
def fadd (x y : Nat) : Nat := enc (sgn x && sgn y) (V x + V y)
def fsub (x y : Nat) : Nat := enc (sgn x && !sgn y) (V x - V y)
/-- A number of at most c times 2^1000 in magnitude. -/
def Bd (c : Nat) (x : Nat) : Prop := Fin x ∧ (V x).natAbs ≤ c * 2 ^ 2074

theorem pow_split (a b c : Nat) (h : c = a + b) : 2 ^ c = 2 ^ a * 2 ^ b := by rw [h, Nat.pow_add]
theorem big_lt {c n : Nat} (hc : c ≤ 4194304) (h : n ≤ c * 2 ^ 2074) : n < 2 ^ 2097 := by
  have e : 2 ^ 2097 = 2 ^ 23 * 2 ^ 2074 := pow_split 23 2074 2097 rfl
  rw [e]
  have := Nat.two_pow_pos 2074
  have := Nat.mul_le_mul_right (2 ^ 2074) hc
  generalize 2 ^ 2074 = X at *
  omega
theorem isF_nat {n e : Nat} (h1 : 2 ^ e ∣ n) (h2 : n ≤ 2 ^ (53 + e)) : IsF (n : Int) := ⟨e, by rwa [Int.natAbs_natCast], by rwa [Int.natAbs_natCast]⟩
theorem isF_mul (c e : Nat) (hc : c ≤ 9007199254740992) : IsF ((c * 2 ^ e : Nat) : Int) :=
  isF_nat (Nat.dvd_mul_left _ _) (by rw [pow53]; exact Nat.mul_le_mul_right _ hc)
theorem F_scaled {c : Nat} (hc : c ≤ 4194304) : IsF ((c * 2 ^ 2074 : Nat) : Int) := isF_mul c 2074 (by omega)
/-- Rounding does not pass a bound that is a float. -/
theorem rnd_le_F {z : Int} {n : Nat} (hn : IsF (n : Int)) (h : z.natAbs ≤ n) : (rnd z).natAbs ≤ n := by
  have h1 := rnd_mono (x := z) (y := (n : Int)) (by omega)
  have h2 := rnd_mono (x := -(n : Int)) (y := z) (by omega)
  rw [rnd_neg, rnd_of_F hn] at h2
  rw [rnd_of_F hn] at h1
  omega
theorem enc_bd {c : Nat} {s : Bool} {t : Int} (hc : c ≤ 4194304) (h : t.natAbs ≤ c * 2 ^ 2074) : Bd c (enc s t) ∧ V (enc s t) = rnd t := by
  have hl := big_lt hc h
  refine ⟨⟨enc_fin s hl, ?_⟩, V_enc s hl⟩
  rw [V_enc s hl]
  exact rnd_le_F (F_scaled hc) h
theorem Bd.mono {a b x : Nat} (h : Bd a x) (hab : a ≤ b) : Bd b x := ⟨h.1, Nat.le_trans h.2 (Nat.mul_le_mul_right _ hab)⟩
theorem bd_add {a b x y : Nat} (hx : Bd a x) (hy : Bd b y) (hc : a + b ≤ 4194304) : Bd (a + b) (fadd x y) ∧ V (fadd x y) = rnd (V x + V y) := by
  refine enc_bd hc ?_
  have h1 := hx.2; have h2 := hy.2
  rw [Nat.add_mul]
  generalize a * 2 ^ 2074 = A at *
  generalize b * 2 ^ 2074 = B at *
  omega
theorem bd_sub {a b x y : Nat} (hx : Bd a x) (hy : Bd b y) (hc : a + b ≤ 4194304) : Bd (a + b) (fsub x y) ∧ V (fsub x y) = rnd (V x - V y) := by
  refine enc_bd hc ?_
  have h1 := hx.2; have h2 := hy.2
  rw [Nat.add_mul]
  generalize a * 2 ^ 2074 = A at *
  generalize b * 2 ^ 2074 = B at *
  omega
theorem fin_zero : Fin 0 := ⟨by omega, by unfold rung; omega⟩
theorem V_zero : V 0 = 0 := by decide
theorem bd_zero (c : Nat) : Bd c 0 := ⟨fin_zero, by rw [V_zero]; exact Nat.zero_le _⟩
theorem add_fadd {x y : Nat} (hx : Fin x) (hy : Fin y) : double.add x y = some (fadd x y) := add_fin hx hy
theorem sub_fsub {x y : Nat} (hx : Fin x) (hy : Fin y) : double.sub x y = some (fsub x y) := sub_fin hx hy

/-! The plain fold. -/
def foldB (fs : List Nat) : Nat := fs.foldl fadd 0
theorem foldB_succ (fs : List Nat) (k : Nat) (hk : k < fs.length) : foldB (fs.take (k + 1)) = fadd (foldB (fs.take k)) (fs.getD k 0) := by
  unfold foldB
  rw [List.take_succ_eq_append_getElem hk, List.foldl_append]
  simp [List.getD_eq_getElem?_getD, List.getElem?_eq_getElem hk]
/-- Every term at most 2^1000. -/
def Adm (fs : List Nat) : Prop := ∀ i, i < fs.length → Bd 1 (fs.getD i 0)
theorem Adm.take {fs : List Nat} (h : Adm fs) (k : Nat) : Adm (fs.take k) := by
  intro i hi
  have hi' : i < fs.length := by simp at hi; omega
  have := h i hi'
  rw [List.getD_eq_getElem?_getD] at *
  rwa [List.getElem?_take, if_pos (by simp at hi; omega)]
theorem Adm.drop {fs : List Nat} (h : Adm fs) (k : Nat) : Adm (fs.drop k) := by
  intro i hi
  have hi' : k + i < fs.length := by simp at hi; omega
  have := h (k + i) hi'
  rw [List.getD_eq_getElem?_getD] at *
  rwa [List.getElem?_drop]
theorem foldB_bd {fs : List Nat} (h : Adm fs) (hn : fs.length ≤ 1025) (k : Nat) (hk : k ≤ fs.length) : Bd k (foldB (fs.take k)) := by
  induction k with
  | zero => simpa [foldB] using bd_zero 0
  | succ k ih =>
    rw [foldB_succ fs k (by omega)]
    exact (bd_add (ih (by omega)) (h k (by omega)) (by omega)).1

/-! Knuth's sum, in words. -/
def tsB (x y : Nat) : Nat := fsub (fadd x y) x
def tsE (x y : Nat) : Nat := fadd (fsub x (fsub (fadd x y) (tsB x y))) (fsub y (tsB x y))
/-- What the six operations meet, and what comes of them. -/
theorem two_words {a b x y : Nat} (hx : Bd a x) (hy : Bd b y) (hc : 10 * (a + b) ≤ 4194304) :
    Bd (a + b) (fadd x y) ∧ V (fadd x y) = rnd (V x + V y) ∧ Fin (tsB x y) ∧ Fin (fsub (fadd x y) (tsB x y)) ∧ Fin (fsub x (fsub (fadd x y) (tsB x y))) ∧ Fin (fsub y (tsB x y)) ∧ Fin (tsE x y) ∧
    V (tsE x y) = V x + V y - V (fadd x y) := by
  obtain ⟨s1, s2⟩ := bd_add hx hy (by omega)
  obtain ⟨b1, b2⟩ := bd_sub s1 hx (by omega)
  have hB : tsB x y = fsub (fadd x y) x := rfl
  rw [← hB] at b1 b2
  obtain ⟨a1, a2⟩ := bd_sub s1 b1 (by omega)
  obtain ⟨d1, d2⟩ := bd_sub hx a1 (by omega)
  obtain ⟨c1, c2⟩ := bd_sub hy b1 (by omega)
  obtain ⟨e1, e2⟩ := bd_add d1 c1 (by omega)
  refine ⟨s1, s2, b1.1, a1.1, d1.1, c1.1, e1.1, ?_⟩
  show V (fadd _ _) = _
  rw [e2, d2, c2, a2, b2, s2]
  exact twoSum (V_F x) (V_F y)

/-! Dekker's sum, in words. -/
def ftE (x y : Nat) : Nat := fsub y (fsub (fadd x y) x)
theorem fast_words {a b x y : Nat} (hx : Bd a x) (hy : Bd b y) (hc : 10 * (a + b) ≤ 4194304) (h : (V y).natAbs ≤ (V x).natAbs) :
    Bd (a + b) (fadd x y) ∧ V (fadd x y) = rnd (V x + V y) ∧ Fin (fsub (fadd x y) x) ∧ Fin (ftE x y) ∧ V (ftE x y) = V x + V y - V (fadd x y) := by
  obtain ⟨s1, s2⟩ := bd_add hx hy (by omega)
  obtain ⟨b1, b2⟩ := bd_sub s1 hx (by omega)
  obtain ⟨c1, c2⟩ := bd_sub hy b1 (by omega)
  refine ⟨s1, s2, b1.1, c1.1, ?_⟩
  show V (fsub _ _) = _
  rw [c2, b2, s2]
  exact fastTwoSum (V_F x) (V_F y) h
end Fl
