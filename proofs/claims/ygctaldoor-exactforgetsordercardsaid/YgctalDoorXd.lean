import Derived.Test.YgctalDoorXc
namespace Go.Proofs.YgctalDoor
open Go.RowKit Go.Shelf
set_option maxHeartbeats 4000000
set_option linter.unusedVariables false
set_option linter.unusedSimpArgs false

/-! field, Bit, anyBelow. -/
theorem field_plain (a b c s : Nat) (hs : s < 64) (ha : a < Ac.W) (hb : b < Ac.W) :
    bits .and .u64 (bits .or .u64 ((a : Int) / 2 ^ s) (IntKind.u64.wrap ((b : Int) * 2 ^ (64 - s)))) 9007199254740991 = (((a + Ac.W * (b + Ac.W * c)) / 2 ^ s % 9007199254740992 : Nat) : Int) := by
  have hW : Ac.W = 2 ^ s * 2 ^ (64 - s) := by rw [← Nat.pow_add, show s + (64 - s) = 64 from by omega]; rfl
  have h1 : a / 2 ^ s < 2 ^ (64 - s) := by rw [Nat.div_lt_iff_lt_mul (Nat.two_pow_pos _), Nat.mul_comm, ← hW]; exact ha
  have e1 : ((a : Int) / 2 ^ s) = ((a / 2 ^ s : Nat) : Int) := by simp
  have e2 : IntKind.u64.wrap ((b : Int) * 2 ^ (64 - s)) = ((b * 2 ^ (64 - s) % Ac.W : Nat) : Int) := shl_word b (64 - s)
  have h3 : b * 2 ^ (64 - s) % Ac.W < Ac.W := Nat.mod_lt _ (by decide)
  have h2 : b * 2 ^ (64 - s) % Ac.W % 2 ^ (64 - s) = 0 := by
    rw [hW, Nat.mul_mod_mul_right]; exact Nat.mul_mod_left _ _
  have h4 : a / 2 ^ s < Ac.W := Nat.lt_of_le_of_lt (Nat.div_le_self _ _) ha
  have hor := u64_or_nat (a / 2 ^ s) (b * 2 ^ (64 - s) % Ac.W) h4 h3
  rw [Nat.or_comm, nat_join (64 - s) _ _ h2 h1] at hor
  rw [e1, e2, hor]
  have hlt : b * 2 ^ (64 - s) % Ac.W + a / 2 ^ s < Ac.W := by
    have hk : b * 2 ^ (64 - s) % Ac.W + 2 ^ (64 - s) ≤ Ac.W := by
      obtain ⟨q, hq⟩ := Nat.dvd_of_mod_eq_zero h2
      rw [hq] at h3 ⊢
      have hW' : Ac.W = 2 ^ (64 - s) * 2 ^ s := by rw [Nat.mul_comm]; exact hW
      rw [hW'] at h3 ⊢
      have := Nat.lt_of_mul_lt_mul_left h3
      rw [← Nat.mul_succ]
      exact Nat.mul_le_mul_left _ this
    omega
  have hand := u64_and_nat (b * 2 ^ (64 - s) % Ac.W + a / 2 ^ s) 9007199254740991 hlt (by decide)
  rw [show (9007199254740991 : Nat) = 2 ^ 53 - 1 from by decide, Nat.and_two_pow_sub_one_eq_mod] at hand
  rw [show ((2 ^ 53 - 1 : Nat) : Int) = 9007199254740991 from by decide] at hand
  rw [hand]
  congr 1
  rw [show (9007199254740992 : Nat) = 2 ^ 53 from by decide]
  have hd : (a + Ac.W * (b + Ac.W * c)) / 2 ^ s = a / 2 ^ s + 2 ^ (64 - s) * (b + Ac.W * c) := by
    rw [hW, Nat.mul_assoc, Nat.add_mul_div_left _ _ (Nat.two_pow_pos _), ← hW]
  have h53 : Ac.W = 2 ^ 53 * 2048 := by decide
  rw [hd]
  have m1 : (b * 2 ^ (64 - s) % Ac.W + a / 2 ^ s) % 2 ^ 53 = (b * 2 ^ (64 - s) + a / 2 ^ s) % 2 ^ 53 := by
    rw [Nat.add_mod, Nat.mod_mod_of_dvd _ (⟨2048, h53⟩ : 2 ^ 53 ∣ Ac.W), ← Nat.add_mod]
  rw [m1, Nat.mul_add, show 2 ^ (64 - s) * (Ac.W * c) = 2 ^ 53 * (2048 * (2 ^ (64 - s) * c)) from by rw [h53]; ac_rfl, ← Nat.add_assoc, Nat.add_mul_mod_self_left, Nat.mul_comm b, Nat.add_comm]
theorem field_any (g T low wd s : Nat) (ws : List Nat) (w : World) (hA : AccB w g T ws) (hl : ws.length = 68) (hw : Ac.Wd ws) (hlow : low = 64 * wd + s) (hwd : wd ≤ 66) (hs : s < 64) :
    Calls Talg.prog 24 #[.pointer (some ⟨g, 0, none⟩), .int .i64 low] w fun e w' => e = .returned (.int .u64 ((Ac.accV ws / 2 ^ low % 9007199254740992 : Nat) : Int)) ∧ w' = w := by
  have h1 : (low : Int) / 64 = (wd : Int) := by omega
  have h2 : (low : Int) % 64 = (s : Int) := by omega
  have ca := hA.cell (show wd < ws.length by omega)
  have cb := hA.cell (show wd + 1 < ws.length by omega)
  have ha := hw.get (show wd < ws.length by omega)
  have hb := hw.get (show wd + 1 < ws.length by omega)
  have hF := field_plain (ws.getD wd 0) (ws.getD (wd + 1) 0) (Ac.accV (ws.drop (wd + 1 + 1))) s hs ha hb
  rw [← Ac.drop_word (show wd + 1 < ws.length by omega), ← Ac.drop_word (show wd < ws.length by omega), ← Ac.div_at hw, ← hlow] at hF
  have HF := hide hF
  have hlb : low ≤ 4352 := by omega
  clear hF hA hl hw hlow
  generalize Ac.accV ws / 2 ^ low % 9007199254740992 = res at *
  generalize ws.getD wd 0 = a at *
  generalize ws.getD (wd + 1) 0 = b at *
  unfold Ac.W at ha hb
  have hws : (wd : Int) + 1 < 68 := by omega
  have hwn : ((wd : Int) + 1).toNat = wd + 1 := by omega
  go_enter Talg.func24, Talg.ntmps24
  go_wp2
  go_ret
  exact ⟨ret_int HF.out, rfl⟩
theorem bit_plain (a s : Nat) (ha : a < Ac.W) : (bits .and .u64 ((a : Int) / 2 ^ s) 1 != 0) = decide (a / 2 ^ s % 2 = 1) := by
  have h4 : a / 2 ^ s < Ac.W := Nat.lt_of_le_of_lt (Nat.div_le_self _ _) ha
  have hand := u64_and_nat (a / 2 ^ s) 1 h4 (by decide)
  rw [nat_mask1] at hand
  rw [show ((a : Int) / 2 ^ s) = ((a / 2 ^ s : Nat) : Int) from by simp, show (1 : Int) = ((1 : Nat) : Int) from rfl, hand]
  rcases Nat.mod_two_eq_zero_or_one (a / 2 ^ s) with h | h <;> rw [h] <;> rfl
set_option maxRecDepth 100000 in
theorem bit_any (g T i wd s : Nat) (ws : List Nat) (w : World) (hA : AccB w g T ws) (hl : ws.length = 68) (hw : Ac.Wd ws) (hi : i = 64 * wd + s) (hwd : wd ≤ 67) (hs : s < 64) :
    Calls Talg.prog 25 #[.pointer (some ⟨g, 0, none⟩), .int .i64 i] w fun e w' => e = .returned (.bool (decide (Ac.accV ws / 2 ^ i % 2 = 1))) ∧ w' = w := by
  have h1 : (i : Int) / 64 = (wd : Int) := by omega
  have h2 : (i : Int) % 64 = (s : Int) := by omega
  have ca := hA.cell (show wd < ws.length by omega)
  have ha := hw.get (show wd < ws.length by omega)
  have hF := bit_plain (ws.getD wd 0) s ha
  have hd : Ac.accV ws / 2 ^ i % 2 = ws.getD wd 0 / 2 ^ s % 2 := by
    rw [hi, Ac.div_at hw, Ac.drop_word (show wd < ws.length by omega)]
    have hW : Ac.W = 2 ^ s * 2 ^ (64 - s) := by rw [← Nat.pow_add, show s + (64 - s) = 64 from by omega]; rfl
    rw [hW, Nat.mul_assoc, Nat.add_mul_div_left _ _ (Nat.two_pow_pos _), show 2 ^ (64 - s) = 2 * 2 ^ (63 - s) from by rw [show 64 - s = (63 - s) + 1 from by omega, Nat.pow_succ, Nat.mul_comm], Nat.mul_assoc, Nat.add_mul_mod_self_left]
  rw [← hd] at hF
  have HF := hide hF
  have hb : (i : Int) < 4352 := by omega
  clear hF hd hA hl hw hi
  generalize decide (Ac.accV ws / 2 ^ i % 2 = 1) = res at *
  generalize ws.getD wd 0 = a at *
  unfold Ac.W at ha
  go_enter Talg.func25, Talg.ntmps25
  go_wp2
  go_ret
  exact ⟨ret_bool HF.out, rfl⟩
theorem below_plain (a s : Nat) (hs : s < 64) : (IntKind.u64.wrap ((a : Int) * 2 ^ (64 - s)) != 0) = decide (a % 2 ^ s ≠ 0) := by
  have hW : Ac.W = 2 ^ s * 2 ^ (64 - s) := by rw [← Nat.pow_add, show s + (64 - s) = 64 from by omega]; rfl
  have e := shl_word a (64 - s)
  have hm : a * 2 ^ (64 - s) % Ac.W = a % 2 ^ s * 2 ^ (64 - s) := by rw [hW, Nat.mul_mod_mul_right]
  rw [hm] at e
  rw [e]
  have hp := Nat.two_pow_pos (64 - s)
  by_cases h : a % 2 ^ s = 0
  · rw [h, Nat.zero_mul]; rfl
  · have : 0 < a % 2 ^ s * 2 ^ (64 - s) := Nat.mul_pos (by omega) hp
    simp only [h, ne_eq, not_false_eq_true, decide_true]
    simp only [bne_iff_ne, ne_eq]
    omega
theorem anyBelow_any (g T i wd s : Nat) (ws : List Nat) (w : World) (hA : AccB w g T ws) (hl : ws.length = 68) (hw : Ac.Wd ws) (hi : i = 64 * wd + s) (hwd : wd ≤ 67) (hs : s < 64) :
    Calls Talg.prog 26 #[.pointer (some ⟨g, 0, none⟩), .int .i64 i] w fun e w' => e = .returned (.bool (decide (Ac.accV ws % 2 ^ i ≠ 0))) ∧ w' = w := by
  have h1 : (i : Int) / 64 = (wd : Int) := by omega
  have h2 : (i : Int) % 64 = (s : Int) := by omega
  have ca := hA.cell (show wd < ws.length by omega)
  have HC := hide (fun j (hj : j < 68) => hA.cell (show j < ws.length by omega))
  have HM := hide (Ac.mod_at hw (show wd < ws.length by omega) hs)
  rw [← hi] at HM
  have HB := hide (below_plain (ws.getD wd 0) s hs)
  generalize hres : decide (Ac.accV ws % 2 ^ i ≠ 0) = res
  have HRes := hide hres
  have hib : i ≤ 4352 := by omega
  clear hres hA hl hw hi
  go_enter Talg.func26, Talg.ntmps26
  go_wp2
  go_loop [5] (fun j => ∃ k : Nat, k ≤ wd ∧ j = .int .i64 k ∧ Hid (∀ j, j < k → ws.getD j 0 = 0)) (fun j => wd - (intOf j).toNat)
  case atStart => exact ⟨0, by omega, rfl, fun j hj => by omega⟩
  case round =>
    obtain ⟨k, hk, rfl, HK⟩ := hrel
    by_cases hlt : k < wd
    · have hk' : (k : Int) < wd := by omega
      have hk68 : (k : Int) < 68 := by omega
      have hcell := HC.out k (by omega)
      by_cases hx : ws.getD k 0 = 0
      · have HN := hide (fun j (hj : j < k + 1) => if h : j < k then HK.out j h else (show j = k by omega) ▸ hx)
        have hb2 : (((ws.getD k 0 : Nat) : Int) != 0) = false := by rw [hx]; rfl
        clear hx
        generalize ws.getD k 0 = x at *
        go_wp2
        go_round
        case rel => exact ⟨k + 1, by omega, by go_num, HN.out⟩
        case measure => simp [intOf]; omega
      · have HN := hide (show true = res by rw [← HRes.out]; symm; rw [decide_eq_true_eq]; exact fun h => hx ((HM.out.1 h).1 k hlt))
        have hb2 : (((ws.getD k 0 : Nat) : Int) != 0) = true := by simp only [bne_iff_ne, ne_eq]; omega
        clear hx
        generalize ws.getD k 0 = x at *
        go_wp2
        go_ret
        exact ⟨ret_bool HN.out, rfl⟩
    · obtain rfl : k = wd := by omega
      have HN := hide (show (IntKind.u64.wrap (((ws.getD k 0 : Nat) : Int) * 2 ^ (64 - s)) != 0) = res by
        rw [HB.out, ← HRes.out]
        congr 1
        exact propext ⟨fun h g => h (HM.out.1 g).2, fun h g => h (HM.out.2 ⟨HK.out, g⟩)⟩)
      clear HM HB HRes HK HC
      generalize ws.getD k 0 = x at *
      have hk68 : (k : Int) < 68 := by omega
      go_wp2
      go_ret
      exact ⟨ret_bool HN.out, rfl⟩
end Go.Proofs.YgctalDoor
