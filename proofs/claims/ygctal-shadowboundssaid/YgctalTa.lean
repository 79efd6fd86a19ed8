import Derived.Test.YgctalFl7
namespace Fl
open Ieee

/-! Products of words, and the table of roots. -/
def fm (x y : Nat) : Nat := (double.mul x y).getD 0
def fa (x y : Nat) : Nat := (double.add x y).getD 0
def fs (x y : Nat) : Nat := (double.sub x y).getD 0
theorem fa_eq {x y : Nat} (hx : Fin x) (hy : Fin y) : fa x y = fadd x y := by unfold fa; rw [add_fadd hx hy]; rfl
theorem fs_eq {x y : Nat} (hx : Fin x) (hy : Fin y) : fs x y = fsub x y := by unfold fs; rw [sub_fsub hx hy]; rfl
theorem add_fa {x y : Nat} (hx : Fin x) (hy : Fin y) : double.add x y = some (fa x y) := by rw [fa_eq hx hy]; exact add_fadd hx hy
theorem sub_fs {x y : Nat} (hx : Fin x) (hy : Fin y) : double.sub x y = some (fs x y) := by rw [fs_eq hx hy]; exact sub_fsub hx hy
def cmul (x y : Nat × Nat) : Nat × Nat := (fs (fm x.1 y.1) (fm x.2 y.2), fa (fm x.1 y.2) (fm x.2 y.1))
/-- A word below 2^(c-1023) in magnitude. -/
def Sm (c x : Nat) : Prop := x < 18446744073709551616 ∧ rung x < c * 4503599627370496
theorem Sm.fin {c x : Nat} (h : Sm c x) (hc : c ≤ 2047) : Fin x := ⟨h.1, by have := h.2; omega⟩
theorem Sm.mono {a b x : Nat} (h : Sm a x) (hab : a ≤ b) : Sm b x := ⟨h.1, Nat.lt_of_lt_of_le h.2 (Nat.mul_le_mul_right _ hab)⟩
theorem read_sm {c x : Nat} (h : Sm c x) (hc : c ≤ 2047) (h1 : 2 ≤ c) : ∃ m k : Nat, double.read x = .number (sgn x) m (double.leastPlace + k) ∧ m < 9007199254740992 ∧ k + 2 ≤ c := by
  obtain ⟨h2, h3⟩ := h
  unfold Format.read
  rw [signWeight_eq, binade_eq, infRung_eq]
  show ∃ m k : Nat, (if rung x < _ then _ else _) = _ ∧ _
  by_cases hr : rung x < 4503599627370496
  · rw [if_pos hr]
    refine ⟨rung x, 0, ?_, by omega, by omega⟩
    simp [sgn, rung]
  · rw [if_neg hr, if_pos (by show rung x < _; omega)]
    refine ⟨4503599627370496 + rung x % 4503599627370496, rung x / 4503599627370496 - 1, ?_, by omega, by omega⟩
    simp [sgn, rung]
theorem cut_le (s : Bool) (n d : Nat) (h : n < 2 ^ (d + 53)) : Toward.even.cut s n d ≤ 9007199254740992 := by
  by_cases hd : d ≤ n.log2 + 2
  · rw [cut_even n d hd s]
    unfold rne
    have := up_le n d
    have h2 : n / 2 ^ d < 9007199254740992 := (Nat.div_lt_iff_lt_mul (Nat.two_pow_pos d)).2 (by rw [Nat.add_comm, pow53] at h; exact h)
    omega
  · have e : Toward.even.cut s n d = Toward.even.cut s n (n.log2 + 2) := by
      unfold Toward.cut
      rw [Nat.min_eq_right (by omega), Nat.min_self]
    rw [e, cut_even n _ (Nat.le_refl _) s]
    unfold rne
    have := up_le n (n.log2 + 2)
    have h3 := @Nat.lt_log2_self n
    have h2 : n / 2 ^ (n.log2 + 2) = 0 := Nat.div_eq_of_lt (Nat.lt_of_lt_of_le h3 (Nat.pow_le_pow_right (by omega) (by omega)))
    omega
theorem nearest_sm (s : Bool) (m : Nat) (e : Int) (c : Nat) (hc : c ≤ 2044) (he : e + (m.log2 : Int) - 52 ≤ -1074 + (c : Int)) : Sm (c + 3) (double.nearest s m e) := by
  unfold Format.nearest
  by_cases hm : m = 0
  · rw [if_pos hm]
    have : double.word s 0 = if s then 9223372036854775808 else 0 := by rw [word_eq]
    show Sm _ (double.word s 0)
    rw [this]
    unfold Sm rung
    cases s <;> simp
  · rw [if_neg hm]
    dsimp only
    rw [leastPlace_eq, show (double.fractionBits : Int) = 52 from rfl, binade_eq, infRung_eq]
    generalize hL : max (e + (m.log2 : Int) - 52) (-1074) = L
    have hl1 : L ≤ -1074 + (c : Int) := by omega
    have hl2 : -1074 ≤ L := by omega
    have hcut : Toward.even.cut s (m <<< (e - L).toNat) (L - e).toNat ≤ 9007199254740992 := by
      refine cut_le s _ _ ?_
      rw [Nat.shiftLeft_eq]
      have hlt := @Nat.lt_log2_self m
      refine Nat.lt_of_lt_of_le (Nat.mul_lt_mul_of_pos_right hlt (Nat.two_pow_pos _)) ?_
      rw [← Nat.pow_add]
      exact Nat.pow_le_pow_right (by omega) (by omega)
    generalize Toward.even.cut s (m <<< (e - L).toNat) (L - e).toNat = q at *
    have hr : (L - -1074).toNat * 4503599627370496 + q < (c + 3) * 4503599627370496 := by
      have : (L - -1074).toNat ≤ c := by omega
      omega
    have hmin : min ((L - -1074).toNat * 4503599627370496 + q) 9218868437227405312 < (c + 3) * 4503599627370496 := by omega
    have hmin2 : min ((L - -1074).toNat * 4503599627370496 + q) 9218868437227405312 < 9223372036854775808 := by omega
    generalize min ((L - -1074).toNat * 4503599627370496 + q) 9218868437227405312 = r at *
    refine ⟨?_, by rw [rung_word s hmin2]; exact hmin⟩
    rw [word_eq]
    split <;> omega
theorem mul_sm {a b x y : Nat} (hx : Sm a x) (hy : Sm b y) (ha : 1023 ≤ a) (hb : 1023 ≤ b) (hab : a + b ≤ 3060) : double.mul x y = some (fm x y) ∧ Sm (a + b - 1022) (fm x y) := by
  obtain ⟨m, i, hm, hm2, hi⟩ := read_sm hx (by omega) (by omega)
  obtain ⟨n, j, hn, hn2, hj⟩ := read_sm hy (by omega) (by omega)
  have e : double.mul x y = some (double.nearest (sgn x ^^ sgn y) (m * n) (double.leastPlace + i + (double.leastPlace + j))) := by
    unfold Format.mul
    rw [hm, hn]
    rfl
  unfold fm
  rw [e]
  refine ⟨rfl, ?_⟩
  show Sm _ (double.nearest _ _ _)
  have hlog : (m * n).log2 < 106 := by
    by_cases h0 : m * n = 0
    · rw [h0]; decide
    · refine (Nat.log2_lt h0).2 ?_
      exact Nat.lt_of_le_of_lt (Nat.mul_le_mul (Nat.le_of_lt_succ (show m < 9007199254740991 + 1 from hm2)) (Nat.le_of_lt_succ (show n < 9007199254740991 + 1 from hn2))) (by decide)
  have := nearest_sm (sgn x ^^ sgn y) (m * n) (double.leastPlace + i + (double.leastPlace + j)) (a + b - 1025) (by omega) (by rw [leastPlace_eq]; omega)
  rwa [show a + b - 1025 + 3 = a + b - 1022 from by omega] at this
/-- The magnitude of a small word. -/
theorem sm_V {c x : Nat} (h : Sm c x) (hc : 2 ≤ c) : (V x).natAbs < 2 ^ (c + 51) := by
  have e : (V x).natAbs = val (rung x) := by unfold V; cases sgn x <;> simp
  rw [e]
  obtain ⟨_, h2⟩ := h
  generalize rung x = r at *
  unfold val
  split
  · refine Nat.lt_of_lt_of_le (by assumption) (Nat.pow_le_pow_right (by omega) (by omega))
  · have h3 : (2 ^ 52 + r % 2 ^ 52) < 2 ^ 53 := by omega
    refine Nat.lt_of_lt_of_le (Nat.mul_lt_mul_of_pos_right h3 (Nat.two_pow_pos _)) ?_
    rw [← Nat.pow_add]
    refine Nat.pow_le_pow_right (by omega) ?_
    have : r / 2 ^ 52 < c := (Nat.div_lt_iff_lt_mul (by decide)).2 h2
    omega
theorem pow_le_of {a b : Nat} (h : a ≤ b) : 2 ^ a ≤ 2 ^ b := Nat.pow_le_pow_right (by omega) h
theorem sm_sum {c x y : Nat} (hx : Sm c x) (hy : Sm c y) (hc : 2 ≤ c) (hc2 : c ≤ 2000) : Fin (fadd x y) ∧ Fin (fsub x y) := by
  have h1 := sm_V hx hc
  have h2 := sm_V hy hc
  have h5 : c + 51 ≤ 2051 := by omega
  have h3 := pow_le_of h5
  have h4 : 2 ^ 2097 = 2 ^ 46 * 2 ^ 2051 := pow_split 46 2051 2097 rfl
  have hp := Nat.two_pow_pos 2051
  constructor
  · refine enc_fin _ ?_
    rw [h4]
    generalize 2 ^ 2051 = P at *
    generalize 2 ^ (c + 51) = R at *
    omega
  · refine enc_fin _ ?_
    rw [h4]
    generalize 2 ^ 2051 = P at *
    generalize 2 ^ (c + 51) = R at *
    omega

/-! The table of roots. -/
def rootTab : List (Nat × Nat) := [(4607182418800017408, 0), (13830554455654793216, 0), (0, 13830554455654793216), (4604544271217802189, 13827916308072577997),
  (4606496786581982534, 13823937468626282851), (4607009347991985328, 13819568926757594635), (4607139046673687846, 13815099336824566828), (4607171569234046334, 13810604255004710932),
  (4607179706000002317, 13806102785791583870), (4607181740574479067, 13801599718827935620), (4607182249242036882, 13797096252370255985), (4607182376410422530, 13792592686035543226)]
def rootOf (t : Nat) : Nat × Nat := rootTab.getD t (0, 0)
def tabL (k : Nat) : Nat → List (Nat × Nat)
  | 0 => [(4607182418800017408, 0)]
  | b + 1 => tabL k b ++ (tabL k b).map fun z => cmul z (rootOf (k - b))
/-- 1, -1, i or -i: no other word has these values (0 and -0 count as one). -/
def isOne (x : Nat) : Bool := x == 4607182418800017408 || x == 13830554455654793216
def isNil (x : Nat) : Bool := x == 0 || x == 9223372036854775808
def plainB (z : Nat × Nat) : Bool := (isOne z.1 && isNil z.2) || (isNil z.1 && isOne z.2)
def smB (x : Nat) : Bool := decide (x < 18446744073709551616) && decide (rung x < 1024 * 4503599627370496)
def testZ (k i : Nat) (z : Nat × Nat) : Bool := smB z.1 && smB z.2 && (plainB z == (i == 0 || 4 * i == 2 ^ k))
def forceN (n : Nat) (f : Nat → Bool) : Bool := Nat.rec (f 0) (fun m _ => f (m + 1)) n
theorem forceN_eq (n : Nat) (f : Nat → Bool) : forceN n f = f n := by cases n <;> rfl
def cm (z c : Nat × Nat) (f : Nat → Nat → Bool) : Bool := forceN (fm z.1 c.1) fun p => forceN (fm z.2 c.2) fun q => forceN (fm z.1 c.2) fun r => forceN (fm z.2 c.1) fun s => forceN (fs p q) fun re => forceN (fa r s) fun im => f re im
theorem cm_eq (z c : Nat × Nat) (f : Nat → Nat → Bool) : cm z c f = f (cmul z c).1 (cmul z c).2 := by simp only [cm, forceN_eq, cmul]
def goodZ (k : Nat) : Nat → Nat → Nat → Nat × Nat → Bool
  | 0, _, i, z => testZ k i z
  | m + 1, b, i, z => goodZ k m (b + 1) i z && cm z (rootOf (k - b)) fun re im => goodZ k m (b + 1) (i + 2 ^ b) (re, im)
theorem tabL_length (k : Nat) : ∀ b, (tabL k b).length = 2 ^ b
  | 0 => rfl
  | b + 1 => by simp [tabL, tabL_length k b, Nat.pow_succ]; omega
theorem getD_app {α : Type} (a b : List α) (i : Nat) (d : α) : (a ++ b).getD i d = if i < a.length then a.getD i d else b.getD (i - a.length) d := by
  simp only [List.getD_eq_getElem?_getD, List.getElem?_append]
  split <;> rfl
theorem getD_map' {α β : Type} (f : α → β) (l : List α) (i : Nat) (d : α) (e : β) (h : i < l.length) : (l.map f).getD i e = f (l.getD i d) := by
  simp [List.getD_eq_getElem?_getD, List.getElem?_eq_getElem h]
theorem tab_good (k n : Nat) (h : goodZ k n 0 0 (4607182418800017408, 0) = true) : ∀ b, b ≤ n → ∀ i, i < 2 ^ b → goodZ k (n - b) b i ((tabL k b).getD i (0, 0)) = true := by
  intro b
  induction b with
  | zero => intro _ i hi; obtain rfl : i = 0 := by omega
            exact h
  | succ b ih =>
    intro hb i hi
    rw [show tabL k (b + 1) = tabL k b ++ (tabL k b).map fun z => cmul z (rootOf (k - b)) from rfl, getD_app, tabL_length]
    rw [Nat.pow_succ] at hi
    by_cases hlt : i < 2 ^ b
    · rw [if_pos hlt]
      have := ih (by omega) i hlt
      rw [show n - b = (n - (b + 1)) + 1 from by omega] at this
      unfold goodZ at this
      rw [Bool.and_eq_true] at this
      exact this.1
    · rw [if_neg hlt, getD_map' _ _ _ (0, 0) _ (by rw [tabL_length]; omega)]
      have := ih (by omega) (i - 2 ^ b) (by omega)
      rw [show n - b = (n - (b + 1)) + 1 from by omega] at this
      unfold goodZ at this
      rw [Bool.and_eq_true, cm_eq] at this
      rw [show i - 2 ^ b + 2 ^ b = i from by omega] at this
      exact this.2
theorem tab_test (k : Nat) (h : goodZ k (k - 1) 0 0 (4607182418800017408, 0) = true) (i : Nat) (hi : i < 2 ^ (k - 1)) : testZ k i ((tabL k (k - 1)).getD i (0, 0)) = true := by
  have := tab_good k (k - 1) h (k - 1) (Nat.le_refl _) i hi
  rw [Nat.sub_self] at this
  exact this
end Fl
