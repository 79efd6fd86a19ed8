import Derived.Test.YgctalWv
/-! The order of rows, word by word from the top. -/
namespace Ac
theorem accV_drop : ∀ (ws : List Nat) (k : Nat), Wd ws → accV ws / W ^ k = accV (ws.drop k)
  | ws, 0, _ => by simp
  | [], k + 1, _ => by simp [accV]
  | x :: xs, k + 1, hw => by
    have hx := hw x List.mem_cons_self
    have ih := accV_drop xs k (fun y hy => hw y (List.mem_cons_of_mem _ hy))
    simp only [accV, List.drop_succ_cons]
    rw [Nat.pow_succ, Nat.mul_comm (W ^ k) W, ← Nat.div_div_eq_div_mul, Nat.add_mul_div_left _ _ (show 0 < W by decide), Nat.div_eq_of_lt hx, Nat.zero_add, ih]
theorem drop_eq {a b : List Nat} (hl : a.length = b.length) (m : Nat) (h : ∀ j, m ≤ j → j < a.length → a.getD j 0 = b.getD j 0) : a.drop m = b.drop m := by
  apply List.ext_getElem
  · simp [hl]
  · intro i h1 h2
    simp at h1 h2
    have := h (m + i) (by omega) (by omega)
    rw [List.getD_eq_getElem?_getD, List.getElem?_eq_getElem (by omega), List.getD_eq_getElem?_getD, List.getElem?_eq_getElem (by omega)] at this
    simpa using this
theorem lt_of_word {a b : List Nat} (ha : Wd a) (hb : Wd b) (hl : a.length = b.length) {m : Nat} (hm : m < a.length) (h : ∀ j, m + 1 ≤ j → j < a.length → a.getD j 0 = b.getD j 0) (hlt : a.getD m 0 < b.getD m 0) : accV a < accV b := by
  have hd := drop_eq hl (m + 1) h
  have e1 := accV_drop a m ha
  have e2 := accV_drop b m hb
  rw [List.drop_eq_getElem_cons hm] at e1
  rw [List.drop_eq_getElem_cons (show m < b.length by omega)] at e2
  simp only [accV] at e1 e2
  rw [hd] at e1
  rw [List.getD_eq_getElem?_getD, List.getElem?_eq_getElem hm, List.getD_eq_getElem?_getD, List.getElem?_eq_getElem (show m < b.length by omega)] at hlt
  simp at hlt
  have hlt2 : accV a / W ^ m < accV b / W ^ m := by rw [e1, e2]; omega
  refine Nat.lt_of_not_le fun hle => ?_
  have := Nat.div_le_div_right (c := W ^ m) hle
  omega
theorem eq_of_words {a b : List Nat} (hl : a.length = b.length) (h : ∀ j, j < a.length → a.getD j 0 = b.getD j 0) : accV a = accV b := by
  have := drop_eq hl 0 (fun j _ hj => h j hj)
  simp at this
  rw [this]
end Ac
namespace Go.Proofs.Ygctal
open Go.RowKit
set_option maxHeartbeats 2000000
set_option linter.unusedVariables false
set_option linter.unusedSimpArgs false

/-! Cmp of accumulators without a sign; small. -/
theorem drewN_drewN (w : World) (a b : Nat) : (w.drewN a).drewN b = w.drewN (a + b) := by simp [World.drewN, Nat.add_assoc]
theorem xor_top (x : Nat) (hx : x < 9223372036854775808) : bits .xor .u64 (x : Int) 9223372036854775808 = ((x + 9223372036854775808 : Nat) : Int) := by
  have h := u64_xor_nat x 9223372036854775808 (by omega) (by decide)
  have e : x ^^^ 9223372036854775808 = x + 9223372036854775808 := by
    have h1 : x + 2 ^ 63 = 2 ^ 63 ||| x := by rw [Nat.add_comm]; have := Nat.two_pow_add_eq_or_of_lt (i := 63) (b := x) (by omega) 1; rwa [Nat.mul_one] at this
    rw [show (9223372036854775808 : Nat) = 2 ^ 63 from by decide, h1]
    apply Nat.eq_of_testBit_eq
    intro i
    rw [Nat.testBit_xor, Nat.testBit_or, Nat.testBit_two_pow]
    by_cases hi : 63 = i
    · subst hi
      rw [Nat.testBit_lt_two_pow (by omega)]
      simp
    · simp [hi]
  rw [e] at h
  exact h
/-- What Cmp answers. -/
def cmpB (a b : List Nat) : Int := if Ac.accV a < Ac.accV b then -1 else if Ac.accV b < Ac.accV a then 1 else 0

set_option maxRecDepth 100000 in
theorem cmp_any (ga gb : Nat) (a b : List Nat) (w : World) (hA : AccB w ga 31 a) (hB : AccB w gb 31 b) (hla : a.length = 68) (hlb : b.length = 68) (hwa : Ac.Wd a) (hwb : Ac.Wd b) (ta : a.getD 67 0 < 9223372036854775808) (tb : b.getD 67 0 < 9223372036854775808) :
    Calls Talg.prog 40 #[.pointer (some ⟨ga, 0, none⟩), .pointer (some ⟨gb, 0, none⟩)] w fun e w' => e = .returned (.int .i8 (cmpB a b)) ∧ ∃ n, w' = w.drewN n := by
  have ca67 := hA.cell (show 67 < a.length by omega)
  have cb67 := hB.cell (show 67 < b.length by omega)
  have xa := xor_top _ ta
  have xb := xor_top _ tb
  have HC := hide (fun j (hj : j < 68) n => (hA.drewN n).cell (show j < a.length by omega))
  have HD := hide (fun j (hj : j < 68) n => (hB.drewN n).cell (show j < b.length by omega))
  have HE := hide (fun (h : ∀ j, j < 68 → a.getD j 0 = b.getD j 0) => Ac.eq_of_words (hla.trans hlb.symm) (by rw [hla]; exact h))
  have HL := hide (fun m (hm : m < 68) (h : ∀ j, m + 1 ≤ j → j < 68 → a.getD j 0 = b.getD j 0) (hlt : a.getD m 0 < b.getD m 0) => Ac.lt_of_word hwa hwb (hla.trans hlb.symm) (show m < a.length by omega) (by rw [hla]; exact h) hlt)
  have HG := hide (fun m (hm : m < 68) (h : ∀ j, m + 1 ≤ j → j < 68 → a.getD j 0 = b.getD j 0) (hlt : b.getD m 0 < a.getD m 0) => Ac.lt_of_word hwb hwa (hlb.trans hla.symm) (show m < b.length by omega) (by rw [hlb]; exact fun j h1 h2 => (h j h1 h2).symm) hlt)
  generalize hres : cmpB a b = res
  have HRes := hide hres
  clear hres hA hB hla hlb hwa hwb ta tb
  generalize h67a : a.getD 67 0 = a67 at *
  generalize h67b : b.getD 67 0 = b67 at *
  have H67 := hide (And.intro h67a h67b)
  clear h67a h67b
  go_enter Talg.func40, Talg.ntmps40
  go_wp2_with fail
  go_quiet (fail)
  have HW := hide (Exists.intro (p := fun n => w.drewN nq = w.drewN n) nq rfl)
  go_wp2
  clear ca67 cb67
  go_loopw [5, 6, 7] (fun x y i wr => ∃ k : Nat, k ≤ 68 ∧ i = .int .i64 ((k : Int) - 1) ∧ (∃ n, wr = w.drewN n) ∧ Hid (∀ j, k ≤ j → j < 68 → a.getD j 0 = b.getD j 0) ∧ (k = 68 → x = .int .u64 ((a67 : Int) + 9223372036854775808) ∧ y = .int .u64 ((b67 : Int) + 9223372036854775808))) (fun _ _ i _ => (intOf i + 1).toNat)
  case atStart => exact ⟨68, by omega, by rfl, HW.out, fun j h1 h2 => by omega, fun _ => ⟨rfl, rfl⟩⟩
  case round =>
    clear xa xb HW
    obtain ⟨k, hk, rfl, ⟨n, rfl⟩, HK, h68⟩ := hrel
    rcases Nat.eq_zero_or_pos k with rfl | hpos
    · have HR := hide (show res = 0 by
        have := HE.out (fun j hj => HK.out j (by omega) hj)
        rw [← HRes.out]; unfold cmpB; rw [if_neg (by omega), if_neg (by omega)])
      clear h68 hk
      go_wp2
      go_ret
      exact ⟨ret_int (HR.out.symm), n, rfl⟩
    · obtain ⟨m, rfl⟩ : ∃ m, k = m + 1 := ⟨k - 1, by omega⟩
      have hm : m < 68 := by omega
      rw [show ((m + 1 : Nat) : Int) - 1 = (m : Int) from by omega] at *
      have HLt := hide (fun (h : a.getD m 0 < b.getD m 0) => show -1 = res by
        have := HL.out m hm HK.out h
        rw [← HRes.out]; unfold cmpB; rw [if_pos this])
      have HGt := hide (fun (h : b.getD m 0 < a.getD m 0) => show 1 = res by
        have := HG.out m hm HK.out h
        rw [← HRes.out]; unfold cmpB; rw [if_neg (by omega), if_pos this])
      have HNx := hide (fun (h : a.getD m 0 = b.getD m 0) => show ∀ j, m ≤ j → j < 68 → a.getD j 0 = b.getD j 0 from
        fun j h1 h2 => if e : j = m then e ▸ h else HK.out j (by omega) h2)
      have hm0 : (0 : Int) ≤ m := by omega
      by_cases h67 : m = 67
      · subst h67
        obtain ⟨rfl, rfl⟩ := h68 rfl
        generalize hp : (a67 : Int) + 9223372036854775808 = p at *
        generalize hq : (b67 : Int) + 9223372036854775808 = q at *
        clear h68
        rw [H67.out.1, H67.out.2] at HLt HGt HNx
        rcases Nat.lt_trichotomy a67 b67 with h | h | h
        · have hd : decide (p < q) = true := by simp; omega
          have HR := hide (HLt.out h)
          clear h HLt HGt HNx hp hq
          go_wp2
          go_ret
          exact ⟨ret_int HR.out, n, rfl⟩
        · have hd : decide (p < q) = false := by simp; omega
          have hd2 : decide (q < p) = false := by simp; omega
          have HR := hide (HNx.out h)
          clear h HLt HGt HNx hp hq
          go_wp2
          go_roundw
          case rel => exact ⟨67, by omega, by rfl, ⟨n, rfl⟩, HR.out, fun h => by omega⟩
          case measure => simp [intOf]
        · have hd : decide (p < q) = false := by simp; omega
          have hd2 : decide (q < p) = true := by simp; omega
          have HR := hide (HGt.out h)
          clear h HLt HGt HNx hp hq
          go_wp2
          go_ret
          exact ⟨ret_int HR.out, n, rfl⟩
      · have hm67 : (m : Int) < 67 := by omega
        have ca : w.cell? ⟨ga, m, none⟩ = some (.int .u64 ((a.getD m 0 : Nat) : Int)) := HC.out m hm 0
        have cb : w.cell? ⟨gb, m, none⟩ = some (.int .u64 ((b.getD m 0 : Nat) : Int)) := HD.out m hm 0
        have hmi : (m : Int) < 68 := by omega
        clear h68
        generalize a.getD m 0 = am at *
        generalize b.getD m 0 = bm at *
        go_wp2_with fail
        go_quiet (fail)
        have HW := hide (show ∃ q, (w.drewN n).drewN nq = w.drewN q from ⟨_, (drewN_drewN _ _ _)⟩)
        generalize (w.drewN n).drewN nq = wn at HW ⊢
        clear ca cb
        rcases Nat.lt_trichotomy am bm with h | h | h
        · have hd : decide (am < bm) = true := by simp; omega
          have HR := hide (HLt.out h)
          clear h HLt HGt HNx
          go_wp2
          go_ret
          exact ⟨ret_int HR.out, HW.out⟩
        · have hd : decide (am < bm) = false := by simp; omega
          have hd2 : decide (bm < am) = false := by simp; omega
          have HR := hide (HNx.out h)
          clear h HLt HGt HNx
          go_wp2
          go_roundw
          case rel => exact ⟨m, by omega, by rfl, HW.out, HR.out, fun h => by omega⟩
          case measure => simp [intOf]
        · have hd : decide (am < bm) = false := by simp; omega
          have hd2 : decide (bm < am) = true := by simp; omega
          have HR := hide (HGt.out h)
          clear h HLt HGt HNx
          go_wp2
          go_ret
          exact ⟨ret_int HR.out, HW.out⟩

/-! small. -/
theorem AccB.boxed (w : World) (a : List Nat) (T : Nat) : AccB (w.alloc (.cells (accArr a) T)) w.heap.size T a := by
  have := Blk.new w (accArr a) T
  unfold accArr at this
  rwa [List.toList_toArray] at this
theorem AccOf.nat {a : List Nat} {z : Int} (h : AccOf a z) (h0 : 0 ≤ z) (h1 : z < Ac.half) : (Ac.accV a : Int) = z := by
  have := h.2.2
  rw [Int.emod_eq_of_lt h0 (by have := Ac.full_half; omega)] at this
  exact this
theorem AccOf.top {a : List Nat} {z : Int} (h : AccOf a z) (h0 : 0 ≤ z) (h1 : z < Ac.half) : a.getD 67 0 < 9223372036854775808 := by
  have := Ac.top_neg h.2.1 h.1 h.2.2 (by omega) h1
  omega
theorem cmpB_le {a b : List Nat} {z u : Int} (hz : AccOf a z) (hu : AccOf b u) (z0 : 0 ≤ z) (z1 : z < Ac.half) (u0 : 0 ≤ u) (u1 : u < Ac.half) (hle : z ≤ u) : cmpB a b ≤ 0 := by
  have e1 := hz.nat z0 z1
  have e2 := hu.nat u0 u1
  unfold cmpB
  split
  · omega
  · rw [if_neg (by omega)]; exact Int.le_refl _
set_option maxRecDepth 100000 in
theorem small_any (g : Nat) (a b : List Nat) (z u : Int) (w : World) (hz : AccOf a z) (hu : AccOf b u) (hB : AccB w g 31 b) (h1 : -(Ac.half : Int) < z) (h2 : z < Ac.half) (hu0 : 0 ≤ u) (hu1 : u < Ac.half) (hle : (z.natAbs : Int) ≤ u) :
    Calls Talg.prog 43 #[.agg (accArr a), .pointer (some ⟨g, 0, none⟩)] w fun e w' => e = .returned (.bool true) ∧ Below w.heap.size w w' := by
  have hgl := Blk.lt hB
  have HA := hide (abs_any w.heap.size 31 a z (w.alloc (.cells (accArr a) 31)) (AccB.boxed w a _) hz (by omega) h2)
  have HB := hide (AccB.alloc hB (.cells (accArr a) 31))
  have HBel := hide ((Below.refl w.heap.size w).alloc (Nat.le_refl _) (.cells (accArr a) 31))
  have HC := hide (fun a' (h : AccOf a' (z.natAbs : Int)) wx (p : AccB wx w.heap.size 31 a') (q : AccB wx g 31 b) =>
    cmp_any w.heap.size g a' b wx p q h.1 hu.1 h.2.1 hu.2.1 (h.top (by omega) (by omega)) (hu.top hu0 hu1))
  have HL := hide (fun a' (h : AccOf a' (z.natAbs : Int)) => cmpB_le h hu (by omega) (by omega) hu0 hu1 hle)
  clear hz hu hB h1 h2 hu0 hu1 hle
  go_enter Talg.func43, Talg.ntmps43
  go_wp2_with fail
  generalize w.alloc (.cells (accArr a) 31) = w1 at HA HB HBel ⊢
  refine HA.out.mono ?_
  rintro e w2 ⟨rfl, a', p1, p2, p3⟩
  have HB2 := hide (HB.out.grown p3 (fun h => by simp at h; omega))
  have HBel2 := hide (HBel.out.grown p3 HBel.out.size (fun q hq => by simp at hq; omega))
  have HC2 := hide (HC.out a' p2 w2 p1 HB2.out)
  have HL2 := HL.out a' p2
  clear HA HB HBel HC HL p1 p2 p3 HB2 hgl
  generalize cmpB a' b = c at *
  go_wp2_with fail
  refine HC2.out.mono ?_
  rintro e w3 ⟨rfl, n, rfl⟩
  have HBel3 := hide (HBel2.out.grown (gb_drewN w2 n none) HBel2.out.size (fun q hq => by simp at hq))
  generalize w2.drewN n = w3 at HBel3 ⊢
  go_wp2
  go_ret
  exact ⟨ret_bool (by simp), HBel3.out⟩
end Go.Proofs.Ygctal
