import Derived.Test.YgctalSd
namespace Ac

/-! A row times a small number. -/
structure MulRun (m : Nat) (ws0 ws : List Nat) (j c : Nat) : Prop where
  len : ws.length = 68
  wd : Wd ws
  c1 : c < m
  rest : ∀ k, j ≤ k → ws.getD k 0 = ws0.getD k 0
  eq : (accV ws : Int) + (c : Int) * ((W ^ j : Nat) : Int) = accV ws0 + ((m : Int) - 1) * lowV ws0 j
theorem MulRun.start {m : Nat} {ws : List Nat} (hm : 0 < m) (hl : ws.length = 68) (hw : Wd ws) : MulRun m ws ws 0 0 := ⟨hl, hw, hm, fun _ _ => rfl, by simp [lowV]⟩
theorem MulRun.step {m : Nat} {ws0 ws : List Nat} {j c : Nat} (h : MulRun m ws0 ws j c) (hj : j < 68) {x : Nat} (hx : ws.getD j 0 = x) :
    MulRun m ws0 (ws.set j ((x * m + c) % W)) (j + 1) ((x * m + c) / W) := by
  have hxw : x < W := by rw [← hx]; exact h.wd.get (by rw [h.len]; exact hj)
  have hWp : 0 < W := by decide
  refine ⟨by simpa using h.len, h.wd.set (Nat.mod_lt _ hWp), ?_, ?_, ?_⟩
  · rw [Nat.div_lt_iff_lt_mul hWp]
    have h1 : (x + 1) * m ≤ W * m := Nat.mul_le_mul_right m hxw
    have h2 := h.c1
    rw [Nat.add_mul, Nat.one_mul] at h1
    rw [Nat.mul_comm m W]
    omega
  · intro k hk
    rw [← h.rest k (by omega)]
    simp only [List.getD_eq_getElem?_getD]
    rw [List.getElem?_set_ne (by omega)]
  · have hx0 := h.rest j (Nat.le_refl _)
    rw [accV_set ws j _ (by rw [h.len]; omega), Nat.pow_succ, Int.natCast_mul, hx]
    show _ = _ + _ * (lowV ws0 j + _)
    rw [← hx0, hx]
    have h0 := h.eq
    have hd : ((x * m + c) % W : Nat) + W * ((x * m + c) / W) = x * m + c := Nat.mod_add_div _ _
    have hd2 : (((x * m + c) % W : Nat) : Int) + (W : Int) * (((x * m + c) / W : Nat) : Int) = (x : Int) * m + c := by
      rw [← Int.natCast_mul, ← Int.natCast_add, hd, Int.natCast_add, Int.natCast_mul]
    generalize ((W ^ j : Nat) : Int) = P at *
    generalize (((x * m + c) % W : Nat) : Int) = S at *
    generalize (((x * m + c) / W : Nat) : Int) = C at *
    generalize lowV ws0 j = L at *
    rw [Int.mul_add, ← Int.add_assoc, ← h0]
    have e1 : (S - (x : Int)) * P + C * (P * (W : Int)) = (S + (W : Int) * C - x) * P := by
      rw [Int.sub_mul, Int.sub_mul, Int.add_mul, Int.mul_comm (W : Int) C, Int.mul_assoc, Int.mul_comm P]; omega
    rw [Int.add_assoc, e1, hd2]
    have e2 : ((x : Int) * m + c - x) * P = (c : Int) * P + ((m : Int) - 1) * ((x : Int) * P) := by
      rw [Int.sub_mul, Int.add_mul, Int.sub_mul, Int.mul_assoc, Int.one_mul, Int.mul_left_comm]; omega
    rw [e2]
    omega
end Ac
namespace Go.Proofs.Ygctal
open Go.RowKit
set_option maxHeartbeats 4000000
set_option linter.unusedVariables false
set_option linter.unusedSimpArgs false

theorem mulRun_done {m : Nat} {a a' : List Nat} {z : Int} {c : Nat} (h : Ac.MulRun m a a' 68 c) (za : AccOf a z) : AccOf a' (z * m) := by
  refine ⟨h.len, h.wd, ?_⟩
  have he := h.eq
  have hlt := Ac.accV_lt a' h.wd
  have hl := Ac.lowV_all a
  rw [za.1] at hl
  rw [hl] at he
  rw [h.len] at hlt
  have e1 := za.2.2
  generalize Ac.W ^ 68 = P at *
  have e3 : (z * m) % (P : Int) = ((Ac.accV a : Int) * m) % (P : Int) := by rw [e1]; simp [Int.mul_emod]
  have e4 : (Ac.accV a : Int) * m = Ac.accV a' + (c : Int) * P := by
    rw [Int.sub_mul, Int.one_mul, Int.mul_comm (m : Int)] at he
    omega
  rw [e3, e4, Int.add_mul_emod_self_right]
  exact (Int.emod_eq_of_lt (by omega) (by omega)).symm
/-- What the walk of a round reckons. -/
theorem small_word (x c : Nat) (hx : x < 18446744073709551616) (hc : c < 23171) :
    addS (x * 23171 % 18446744073709551616) c 0 = (x * 23171 + c) % Ac.W ∧ IntKind.u64.wrap (((x * 23171 / 18446744073709551616 : Nat) : Int) + ((addC (x * 23171 % 18446744073709551616) c 0 : Nat) : Int)) = (((x * 23171 + c) / Ac.W : Nat) : Int) := by
  unfold addS addC Ac.W
  rw [IntKind.wrap_u64]
  omega
set_option maxRecDepth 100000 in
theorem mulSmall_any (g T : Nat) (a : List Nat) (z : Int) (w : World) (hA : AccB w g T a) (za : AccOf a z) :
    Calls Talg.prog 39 #[.pointer (some ⟨g, 0, none⟩), .int .u32 23171] w fun e w' => e = .returned (.tuple #[]) ∧ Added w w' g T (z * (23171 : Nat)) := by
  have HA := hide hA
  have HZ := hide za
  clear hA za
  go_enter Talg.func39, Talg.ntmps39
  go_wp2
  go_loopw [4, 5] (fun cc jj wr => ∃ (j c : Nat) (wsj : List Nat), cc = .int .u64 c ∧ jj = .int .i64 j ∧ j ≤ 68 ∧ Hid (AccB wr g T wsj ∧ w.grownBy wr (some g) ∧ Ac.MulRun 23171 a wsj j c)) (fun _ jj _ => 68 - (intOf jj).toNat)
  case atStart => exact ⟨0, 0, a, rfl, rfl, by omega, HA.out, gb_refl _ _, Ac.MulRun.start (by decide) HZ.out.1 HZ.out.2.1⟩
  case round =>
    obtain ⟨j, c, wsj, rfl, rfl, hj, HG⟩ := hrel
    by_cases hlt : j < 68
    · have hj' : (j : Int) < 68 := by omega
      have hc1 := HG.out.2.2.c1
      have hlj := HG.out.2.2.len
      have hcj := HG.out.1.cell (show j < wsj.length by omega)
      have hxj := HG.out.2.2.wd.get (show j < wsj.length by omega)
      have hfr := HG.out.1.free j
      generalize hx : wsj.getD j 0 = x at *
      have HRn := hide (HG.out.2.2.step hlt hx)
      have HAn := hide (HG.out.1.set j ((x * 23171 + c) % Ac.W))
      have HGn := hide (gb_trans HG.out.2.1 (gb_setCell wr g j (.int .u64 (((x * 23171 + c) % Ac.W : Nat) : Int))))
      have HM := hide (fun wx => mul_any x 23171 hxj (by omega) wx)
      have HAd := hide (fun wx => add_any0 (x * 23171 % 18446744073709551616) c wx)
      obtain ⟨s1, s2⟩ := small_word x c hxj hc1
      rw [s1] at HAd
      clear hx HG s1
      generalize (x * 23171 + c) % Ac.W = S at *
      generalize (x * 23171 + c) / Ac.W = C at *
      generalize x * 23171 / 18446744073709551616 = hi at *
      generalize addC (x * 23171 % 18446744073709551616) c 0 = ca at *
      generalize x * 23171 % 18446744073709551616 = lo at *
      go_wp2_with fail
      refine (HM.out _).mono ?_
      rintro e wx ⟨rfl, hwx⟩
      subst wx
      go_wp2_with fail
      refine (HAd.out _).mono ?_
      rintro e wx ⟨rfl, hwx⟩
      subst wx
      go_wp2_with fail
      go_roundw
      case rel => exact ⟨j + 1, C, wsj.set j S, by first | rfl | (rw [s2]), by go_num, by omega, HAn.out, HGn.out, HRn.out⟩
      case measure => simp [intOf]; omega
    · obtain rfl : j = 68 := by omega
      have HP := hide (show Added w wr g T (z * (23171 : Nat)) from ⟨wsj, HG.out.1, mulRun_done HG.out.2.2 HZ.out, HG.out.2.1⟩)
      clear HG
      go_wp2
      go_end0
      exact ⟨rfl, HP.out⟩
end Go.Proofs.Ygctal
