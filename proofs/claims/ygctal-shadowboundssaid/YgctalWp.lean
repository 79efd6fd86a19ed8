import Derived.Test.YgctalWo
namespace Go.Proofs.Ygctal
open Go.RowKit
set_option maxHeartbeats 2000000
set_option linter.unusedVariables false

/-! AddFloat. -/
/-- The accumulator's scale against the floats'. -/
def sc : Nat := 2 ^ 1074
theorem pow_sc (k : Nat) : 2 ^ (k + 1074) = 2 ^ k * sc := by unfold sc; exact Nat.pow_add 2 k 1074
/-- What a finite word adds: its value, at the accumulator's scale. -/
theorem place_val {x : Nat} (hf : Fl.Fin x) : ∃ i : Nat, expOf x + 2148 = (i : Int) ∧ i ≤ 4100 ∧ (((0 * Ac.W + manOf x) * 2 ^ i : Nat) : Int) = ((Fl.val (Fl.rung x) * sc : Nat) : Int) := by
  have hfl := (fin_iff hf.1).1 hf
  obtain ⟨k, hv, he⟩ := val_man hfl
  have hb := exp_bd x
  rcases cls_cases (x := x) with ⟨h1, _⟩ | ⟨_, h2, h3⟩ | ⟨_, h2, h3⟩
  · exact absurd h1 hfl
  · refine ⟨(expOf x + 2148).toNat, by omega, by omega, ?_⟩
    rw [hv, h3]; simp
  · have he := he h2
    refine ⟨k + 1074, by omega, by omega, ?_⟩
    rw [hv, Nat.zero_mul, Nat.zero_add, pow_sc, Nat.mul_assoc]
theorem neg_fin {x : Nat} (hf : Fl.Fin x) : negOf x = Fl.sgn x := by
  have hfl := (fin_iff hf.1).1 hf
  unfold negOf
  rw [if_neg (fun h => hfl h.1)]
theorem cls_le {x : Nat} (hf : Fl.Fin x) : 0 ≤ clsOf x ∧ clsOf x ≤ 1 := by
  have hfl := (fin_iff hf.1).1 hf
  rcases cls_cases (x := x) with ⟨h1, _⟩ | ⟨_, h2, h3⟩ | ⟨_, h2, h3⟩
  · exact absurd h1 hfl
  · omega
  · omega

set_option maxRecDepth 100000 in
theorem addFloat_any (g T x : Nat) (ws : List Nat) (w : World) (hf : Fl.Fin x) (hA : AccB w g T ws) (hl : ws.length = 68) (hw : Ac.Wd ws) :
    Calls Talg.prog 26 #[.pointer (some ⟨g, 0, none⟩), .float .f64 x] w fun e w' => e = .returned (.bool true) ∧ Placed w w' g T ws (Fl.V x * (sc : Int)) := by
  obtain ⟨i, hi, hib, hN⟩ := place_val hf
  have hc := cls_le hf
  have hm := man_lt x
  have HS := hide (fun wx => split_any x hf.1 wx)
  have hsg := neg_fin hf
  have hV : Fl.V x = if Fl.sgn x then -(Fl.val (Fl.rung x) : Int) else (Fl.val (Fl.rung x) : Int) := rfl
  rw [hV]
  rw [hsg] at HS
  have hgt : decide ((1 : Int) < clsOf x) = false := by simp; omega
  have hidiv : i = 64 * (i / 64) + i % 64 := by omega
  generalize hpos : Fl.val (Fl.rung x) = v at *
  cases hs : Fl.sgn x
  · rw [hs] at HS
    simp only [Bool.false_eq_true, if_false]
    have hP := place_add g T i 0 (manOf x) (i / 64) (i % 64) ws w hA hl hw hidiv (by omega) (by omega) (by unfold Ac.W; omega) (by decide)
    rw [hN, Int.one_mul, Int.natCast_mul, show ((0 : Nat) : Int) = 0 from rfl] at hP
    have HP := hide hP
    clear hP
    generalize (v : Int) * (sc : Int) = N at HP ⊢
    generalize manOf x = m at *
    generalize clsOf x = c at *
    generalize expOf x = ex at *
    obtain ⟨hc0, hc1⟩ := hc
    clear hA hw hf hsg hs hpos hN hidiv hV
    go_enter Talg.func26, Talg.ntmps26
    go_wp2_with fail
    refine (Hid.out HS _).mono ?_
    rintro e w1 ⟨rfl, rfl⟩
    go_wp2_with fail
    refine (Hid.out HP).mono ?_
    rintro e w2 ⟨rfl, hq⟩
    go_wp2
    go_ret
    exact ⟨rfl, hq⟩
  · rw [hs] at HS
    simp only [if_true]
    have hP := place_sub g T i 0 (manOf x) (i / 64) (i % 64) ws w hA hl hw hidiv (by omega) (by omega) (by unfold Ac.W; omega) (by decide)
    rw [hN, Int.neg_mul, Int.one_mul, Int.natCast_mul, ← Int.neg_mul, show ((0 : Nat) : Int) = 0 from rfl] at hP
    have HP := hide hP
    clear hP
    generalize (-(v : Int)) * (sc : Int) = N at HP ⊢
    generalize manOf x = m at *
    generalize clsOf x = c at *
    generalize expOf x = ex at *
    obtain ⟨hc0, hc1⟩ := hc
    clear hA hw hf hsg hs hpos hN hidiv hV
    go_enter Talg.func26, Talg.ntmps26
    go_wp2_with fail
    refine (Hid.out HS _).mono ?_
    rintro e w1 ⟨rfl, rfl⟩
    go_wp2_with fail
    refine (Hid.out HP).mono ?_
    rintro e w2 ⟨rfl, hq⟩
    go_wp2
    go_ret
    exact ⟨rfl, hq⟩
end Go.Proofs.Ygctal
