import Derived.Test.YgctalDoorXb
/-! Bits of a row of words. -/
namespace Ac
theorem accV_drop : ∀ (ws : List Nat) (k : Nat), Wd ws → accV ws / W ^ k = accV (ws.drop k)
  | ws, 0, _ => by simp
  | [], k + 1, _ => by simp [accV]
  | x :: xs, k + 1, hw => by
    have hx := hw x List.mem_cons_self
    have ih := accV_drop xs k (fun y hy => hw y (List.mem_cons_of_mem _ hy))
    simp only [accV, List.drop_succ_cons]
    rw [Nat.pow_succ, Nat.mul_comm (W ^ k) W, ← Nat.div_div_eq_div_mul, Nat.add_mul_div_left _ _ (show 0 < W by decide), Nat.div_eq_of_lt hx, Nat.zero_add, ih]
theorem W_pow (k : Nat) : W ^ k = 2 ^ (64 * k) := by rw [Nat.pow_mul]; rfl
theorem drop_word {ws : List Nat} {k : Nat} (hk : k < ws.length) : accV (ws.drop k) = ws.getD k 0 + W * accV (ws.drop (k + 1)) := by
  rw [List.drop_eq_getElem_cons hk]
  simp only [accV]
  rw [List.getD_eq_getElem?_getD, List.getElem?_eq_getElem hk]
  rfl
theorem div_at {ws : List Nat} (hw : Wd ws) (wd s : Nat) : accV ws / 2 ^ (64 * wd + s) = accV (ws.drop wd) / 2 ^ s := by
  rw [Nat.pow_add, ← W_pow, ← Nat.div_div_eq_div_mul, accV_drop ws wd hw]
theorem log2_of {n k : Nat} (h1 : 2 ^ k ≤ n) (h2 : n < 2 ^ (k + 1)) : n.log2 = k := by
  have h0 : n ≠ 0 := by have := Nat.two_pow_pos k; omega
  have a := (Nat.le_log2 h0).2 h1
  have b := (Nat.log2_lt h0).2 h2
  omega
/-- The highest 1. -/
theorem log2_at {ws : List Nat} (hw : Wd ws) {i : Nat} (hi : i < ws.length) (h0 : ws.getD i 0 ≠ 0) (hz : ∀ j, i + 1 ≤ j → j < ws.length → ws.getD j 0 = 0) : (accV ws).log2 = 64 * i + (ws.getD i 0).log2 := by
  have hd : accV (ws.drop (i + 1)) = 0 := accV_zero (fun j hj => by
    have := hz (i + 1 + j) (by omega) (by simp at hj; omega)
    rw [List.getD_eq_getElem?_getD] at this ⊢
    rwa [List.getElem?_drop])
  have he := accV_drop ws i hw
  rw [drop_word hi, hd, Nat.mul_zero, Nat.add_zero] at he
  generalize ws.getD i 0 = x at *
  have l1 := Nat.log2_self_le h0
  have l2 := Nat.lt_log2_self (n := x)
  have hp : 0 < W ^ i := Nat.pow_pos (by decide)
  apply log2_of
  · rw [Nat.pow_add, ← W_pow, Nat.mul_comm]
    have l1' : 2 ^ x.log2 ≤ accV ws / W ^ i := by rw [he]; exact l1
    exact Nat.le_trans (Nat.mul_le_mul_right _ l1') (Nat.div_mul_le_self _ _)
  · have : accV ws / W ^ i < 2 ^ (x.log2 + 1) := by rw [he]; exact l2
    rw [Nat.add_assoc, Nat.pow_add, ← W_pow, Nat.mul_comm]
    exact (Nat.div_lt_iff_lt_mul hp).1 this
theorem mod_at {ws : List Nat} (hw : Wd ws) {wd s : Nat} (hwd : wd < ws.length) (hs : s < 64) : accV ws % 2 ^ (64 * wd + s) = 0 ↔ (∀ j, j < wd → ws.getD j 0 = 0) ∧ ws.getD wd 0 % 2 ^ s = 0 := by
  have hW : W = 2 ^ s * 2 ^ (64 - s) := by rw [← Nat.pow_add, show s + (64 - s) = 64 from by omega]; rfl
  have hdw := drop_word hwd
  have hpw : accV (ws.drop wd) % 2 ^ s = ws.getD wd 0 % 2 ^ s := by rw [hdw, hW, Nat.mul_assoc, Nat.add_mul_mod_self_left]
  constructor
  · intro h
    have hd := Nat.dvd_of_mod_eq_zero h
    have hd1 : W ^ wd ∣ accV ws := by rw [W_pow]; exact Nat.dvd_trans (by rw [Nat.pow_add]; exact Nat.dvd_mul_right _ _) hd
    refine ⟨fun j hj => ?_, ?_⟩
    · rw [← accV_word ws j hw (by omega)]
      obtain ⟨c, hc⟩ := hd1
      rw [hc, show wd = j + 1 + (wd - j - 1) from by omega, Nat.pow_add, Nat.pow_succ, Nat.mul_assoc, Nat.mul_assoc, Nat.mul_div_cancel_left _ (Nat.pow_pos (by decide))]
      exact Nat.mul_mod_right _ _
    · rw [← hpw, ← accV_drop ws wd hw]
      obtain ⟨c, hc⟩ := hd
      rw [hc, Nat.pow_add, ← W_pow, Nat.mul_assoc, Nat.mul_div_cancel_left _ (Nat.pow_pos (by decide))]
      exact Nat.mul_mod_right _ _
  · rintro ⟨h1, h2⟩
    rw [← hpw] at h2
    have hlow : accV ws = W ^ wd * accV (ws.drop wd) := by
      have ht : ∀ (xs : List Nat) (k : Nat), (∀ j, j < k → xs.getD j 0 = 0) → k ≤ xs.length → accV xs = W ^ k * accV (xs.drop k) := by
        intro xs k
        induction k generalizing xs with
        | zero => intro _ _; simp
        | succ k ih =>
          intro hz hk
          cases xs with
          | nil => simp at hk
          | cons x xs =>
            have hx : x = 0 := hz 0 (by omega)
            have := ih xs (fun j hj => by have := hz (j + 1) (by omega); simpa using this) (by simpa using hk)
            simp only [accV, List.drop_succ_cons]
            rw [hx, this, Nat.zero_add, Nat.pow_succ, ← Nat.mul_assoc, Nat.mul_comm W]
      exact ht ws wd h1 (by omega)
    obtain ⟨c, hc⟩ := Nat.dvd_of_mod_eq_zero h2
    rw [hlow, hc, Nat.pow_add, ← W_pow, ← Nat.mul_assoc]
    exact Nat.mul_mod_right _ _
end Ac
namespace Go.Proofs.YgctalDoor
open Go.RowKit Go.Shelf
set_option maxHeartbeats 4000000
set_option linter.unusedVariables false
set_option linter.unusedSimpArgs false

/-! highest, field, Bit, anyBelow. -/
theorem bitLen_log {x : Nat} (h0 : x ≠ 0) (hx : x < 18446744073709551616) : Lib.bitLen x = x.log2 + 1 := by
  have l1 := Nat.log2_self_le h0
  have l2 := Nat.lt_log2_self (n := x)
  have a := bitLen_gt l1 hx
  have b : Lib.bitLen x ≤ x.log2 + 1 := by
    by_cases h : x.log2 + 1 ≤ 64
    · exact Lib.bitLen_le x _ h l2
    · have := Lib.bitLen_le x 64 (by omega) (by omega)
      omega
  omega
/-- What highest answers. -/
def topB (ws : List Nat) : Int := if Ac.accV ws = 0 then -1 else ((Ac.accV ws).log2 : Int)
theorem highest_any (g T : Nat) (ws : List Nat) (w : World) (hA : AccB w g T ws) (hl : ws.length = 68) (hw : Ac.Wd ws) :
    Calls Talg.prog 23 #[.pointer (some ⟨g, 0, none⟩)] w fun e w' => e = .returned (.int .i64 (topB ws)) ∧ w' = w := by
  have HC := hide (fun j (hj : j < 68) => hA.cell (show j < ws.length by omega))
  have HX := hide (fun j (hj : j < 68) => hw.get (show j < ws.length by omega))
  have HZ := hide (fun (h : ∀ j, j < 68 → ws.getD j 0 = 0) => Ac.accV_zero (ws := ws) (by rw [hl]; exact h))
  have HP := hide (fun j (hj : j < 68) (h : ws.getD j 0 ≠ 0) => Ac.accV_pos hw (show j < ws.length by omega) h)
  have HLg := hide (fun i (hi : i < 68) (h0 : ws.getD i 0 ≠ 0) (hz : ∀ j, i + 1 ≤ j → j < 68 → ws.getD j 0 = 0) => Ac.log2_at hw (show i < ws.length by omega) h0 (by rw [hl]; exact hz))
  clear hA hl hw
  generalize hres : topB ws = res
  have HRes := hide hres
  clear hres
  go_enter Talg.func23, Talg.ntmps23
  go_wp2
  go_loop [3] (fun i => ∃ k : Nat, k ≤ 68 ∧ i = .int .i64 ((k : Int) - 1) ∧ Hid (∀ j, k ≤ j → j < 68 → ws.getD j 0 = 0)) (fun i => (intOf i + 1).toNat)
  case atStart => exact ⟨68, by omega, rfl, fun j h1 h2 => by omega⟩
  case round =>
    obtain ⟨k, hk, rfl, HK⟩ := hrel
    rcases Nat.eq_zero_or_pos k with rfl | hpos
    · have HR := hide (show -1 = res by
        have := HZ.out (fun j hj => HK.out j (by omega) hj)
        rw [← HRes.out]; unfold topB; rw [if_pos this])
      clear hk
      go_wp2
      go_ret
      exact ⟨ret_int HR.out, rfl⟩
    · obtain ⟨m, rfl⟩ : ∃ m, k = m + 1 := ⟨k - 1, by omega⟩
      have hm : m < 68 := by omega
      rw [show ((m + 1 : Nat) : Int) - 1 = (m : Int) from by omega] at *
      have hm0 : (0 : Int) ≤ m := by omega
      have hmi : (m : Int) < 68 := by omega
      have hcell := HC.out m hm
      have hxl := HX.out m hm
      by_cases hx : ws.getD m 0 = 0
      · have HN := hide (fun j (h1 : m ≤ j) (h2 : j < 68) => if e : j = m then (by rw [e]; exact hx : ws.getD j 0 = 0) else HK.out j (by omega) h2)
        have hb2 : (((ws.getD m 0 : Nat) : Int) != 0) = false := by rw [hx]; rfl
        clear hx
        generalize ws.getD m 0 = x at *
        go_wp2
        go_round
        case rel => exact ⟨m, by omega, by rfl, HN.out⟩
        case measure => simp [intOf]
      · have HR := hide (show (64 : Int) * m + (Lib.bitLen (ws.getD m 0) : Int) - 1 = res by
          rw [← HRes.out]; unfold topB; rw [if_neg (HP.out m hm hx), HLg.out m hm hx HK.out, bitLen_log hx (by unfold Ac.W at hxl; exact hxl)]
          omega)
        have HLn := hide (fun wx => alen_any (ws.getD m 0) (by unfold Ac.W at hxl; exact hxl) wx)
        have hbl := Lib.bitLen_le (ws.getD m 0) 64 (by omega) (by unfold Ac.W at hxl; omega)
        have hb2 : (((ws.getD m 0 : Nat) : Int) != 0) = true := by simp only [bne_iff_ne, ne_eq]; omega
        clear hx
        generalize Lib.bitLen (ws.getD m 0) = L at *
        generalize ws.getD m 0 = x at *
        go_wp2_with fail
        refine (Hid.out HLn _).mono ?_
        rintro e w1 ⟨rfl, rfl⟩
        go_wp2
        go_ret
        exact ⟨ret_int HR.out, rfl⟩
end Go.Proofs.YgctalDoor
