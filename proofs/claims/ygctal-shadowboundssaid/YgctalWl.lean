import Derived.Test.YgctalWk
import Derived.Test.YgctalFl7
namespace Go.Proofs.Ygctal
open Go.RowKit
set_option maxHeartbeats 2000000
set_option linter.unusedVariables false

/-! FastTwoSum, Finish. -/
theorem fast_any {x y : Nat} (hx : Fl.Fin x) (hy : Fl.Fin y) (h1 : Fl.Fin (Fl.fadd x y)) (h2 : Fl.Fin (Fl.fsub (Fl.fadd x y) x)) (w : World) :
    Calls Talg.prog 55 #[.float .f64 x, .float .f64 y] w fun e w' => e = .returned (.tuple #[.float .f64 (Fl.fadd x y), .float .f64 (Fl.ftE x y)]) ∧ w' = w := by
  have r1 := run_add hx hy
  have r2 := run_sub h1 hx
  have r3 := run_sub hy h2
  unfold Fl.ftE
  clear h1 h2 hx hy
  go_enter Talg.func55, Talg.ntmps55
  go_wp2
  go_ret2
  exact ⟨rfl, rfl⟩
theorem run_two {x : Nat} (hx : Fl.Fin x) (w : World) : (binOp .mul 29 (.float .f64 4611686018427387904) (.float .f64 x)).run Talg.prog w = .ok (.float .f64 (Fl.fdbl x)) w :=
  run_float_arith w .mul 29 .f64 _ x _ (Fl.mul_two hx)
theorem lt_zero {x : Nat} (hx : Fl.Fin x) : (FloatKind.f64.format.order x 0 == some .lt) = decide (Fl.V x < 0) := by
  have := Fl.order_fin hx Fl.fin_zero
  rw [Fl.V_zero] at this
  rw [show FloatKind.f64.format = Ieee.double from rfl, this]
  by_cases h1 : Fl.V x < 0
  · rw [if_pos h1, decide_eq_true h1]; rfl
  · rw [if_neg h1, decide_eq_false h1]; split <;> rfl
theorem gt_zero {x : Nat} (hx : Fl.Fin x) : (FloatKind.f64.format.order x 0 == some .gt) = decide (0 < Fl.V x) := by
  have := Fl.order_fin hx Fl.fin_zero
  rw [Fl.V_zero] at this
  rw [show FloatKind.f64.format = Ieee.double from rfl, this]
  by_cases h1 : Fl.V x < 0
  · rw [if_pos h1, decide_eq_false (by omega)]; rfl
  · rw [if_neg h1]
    by_cases h2 : Fl.V x = 0
    · rw [if_pos h2, decide_eq_false (by omega)]; rfl
    · rw [if_neg h2, decide_eq_true (by omega)]; rfl
theorem eq_V {x y : Nat} (hx : Fl.Fin x) (hy : Fl.Fin y) : (FloatKind.f64.format.order x y == some .eq) = decide (Fl.V x = Fl.V y) := by
  rw [show FloatKind.f64.format = Ieee.double from rfl, Fl.order_fin hx hy]
  by_cases h1 : Fl.V x < Fl.V y
  · rw [if_pos h1, decide_eq_false (by omega)]; rfl
  · rw [if_neg h1]
    by_cases h2 : Fl.V x = Fl.V y
    · rw [if_pos h2, decide_eq_true h2]; rfl
    · rw [if_neg h2, decide_eq_false h2]; rfl

theorem finish_nil (a : Option Addr) (c : Nat) (w : World) : Calls Talg.prog 23 #[.slice a 0 c] w fun e w' => e = .returned (.float .f64 0) ∧ w' = w := by
  go_enter Talg.func23, Talg.ntmps23
  go_wp2
  go_ret
  exact ⟨rfl, rfl⟩

set_option maxRecDepth 100000 in
theorem finish_some (b off c : Nat) (ps : List Nat) (w : World) (hr : FR w b off ps) (h0 : ps.length ≠ 0) (hn : ps.length ≤ 1025) (hroom : Fl.FRoom ps (ps.length - 1) (ps.getD (ps.length - 1) 0)) :
    Calls Talg.prog 23 #[.slice (some ⟨b, off, none⟩) ps.length c] w fun e w' => e = .returned (.float .f64 (Fl.finB ps)) ∧ w' = w := by
  have HF := hide (show Fl.finB ps = Fl.finOf ps (Fl.finLoop ps (ps.length - 1) (ps.getD (ps.length - 1) 0) 0) from if_neg h0)
  rw [HF.out]
  clear HF
  have hcell0 := hr (ps.length - 1) (by omega)
  obtain ⟨m, hm⟩ : ∃ m, ps.length = m + 1 := ⟨ps.length - 1, by omega⟩
  have hmn : m ≤ 1024 := by omega
  rw [hm, Nat.add_sub_cancel] at hcell0 hroom
  rw [hm, Nat.add_sub_cancel]
  have HM := hide hm
  have hz : ((m : Int) + 1 == 0) = false := by simp; omega
  generalize htop : ps.getD m 0 = top at *
  have HR := hide hroom
  clear hroom htop hm h0 hn
  generalize hres : Fl.finOf ps (Fl.finLoop ps m top 0) = res at *
  have HRes := hide hres
  clear hres
  go_enter Talg.func23, Talg.ntmps23
  go_wp2
  go_loop [3, 4, 5] (fun n h l => ∃ (k hi lo : Nat), n = .int .i64 k ∧ h = .float .f64 hi ∧ l = .float .f64 lo ∧ Hid (Fl.finOf ps (Fl.finLoop ps k hi lo) = res ∧ Fl.FRoom ps k hi ∧ Fl.Bd 16384 lo ∧ k ≤ m)) (fun n _ _ => (intOf n).toNat)
  case atStart => exact ⟨m, top, 0, rfl, rfl, rfl, HRes.out, HR.out, Fl.bd_zero _, Nat.le_refl _⟩
  case round =>
    clear HR HRes hcell0
    obtain ⟨k, hi, lo, rfl, rfl, rfl, HG⟩ := hrel
    have hkm : k ≤ m := HG.out.2.2.2
    have hle := eq_zero HG.out.2.2.1.1
    match k, HG with
    | 0, HG =>
      have HE := hide (show hi = res by have := HG.out.1; simpa [Fl.finLoop, Fl.finOf, Fl.finEnd, Fl.finTake] using this)
      clear hle HG
      go_wp2
      go_ret
      exact ⟨ret_float HE.out, rfl⟩
    | j + 1, HG =>
      have hcell := hr j (by rw [HM.out]; omega)
      by_cases hlo : Fl.V lo = 0
      · rw [decide_eq_true hlo] at hle
        obtain ⟨n1, n2, n3, n4, _⟩ := HG.out.2.1.next
        have HFast := hide (fun wx => fast_any HG.out.2.1.2.1 n1.1 n2.2.1 n3 wx)
        have HN := hide (show Fl.finOf ps (Fl.finLoop ps j (Fl.fadd hi (ps.getD j 0)) (Fl.ftE hi (ps.getD j 0))) = res by
          have := HG.out.1
          rw [Fl.finLoop, if_pos hlo] at this
          exact this)
        have H2 := hide n2
        have H4 := hide n4
        clear n1 n2 n3 n4 HG hlo
        generalize ps.getD j 0 = p at *
        go_wp2_with (go_at_call 55; refine (Hid.out HFast _).mono ?_; rintro e w' ⟨rfl, rfl⟩)
        go_round
        case rel => exact ⟨j, Fl.fadd hi p, Fl.ftE hi p, rfl, rfl, rfl, HN.out, H2.out, H4.out, by omega⟩
        case measure => simp [intOf]
      · rw [decide_eq_false hlo] at hle
        have HX := hide (show Fl.finEnd ps (j + 1) hi lo = res by
          have := HG.out.1
          rw [Fl.finLoop, if_neg hlo] at this
          exact this)
        have hl1 := lt_zero HG.out.2.2.1.1
        have hl2 := gt_zero HG.out.2.2.1.1
        have hqf := HG.out.2.1.1 _ (Fl.getD_mem (show j < ps.length by rw [HM.out]; omega))
        have hq1 := lt_zero hqf
        have hq2 := gt_zero hqf
        have hhi := HG.out.2.1.bd
        have hlb := HG.out.2.2.1
        have ht := (Fl.bd_dbl hlb (by omega)).1
        have hrr := (Fl.bd_add hhi ht (by omega)).1
        have hdd := (Fl.bd_sub hrr hhi (by omega)).1
        have rt := run_two hlb.1
        have ra := run_add hhi.1 ht.1
        have rs := run_sub hrr.1 hhi.1
        have heq := eq_V hdd.1 ht.1
        clear hqf hhi hlb ht hrr hdd HG
        generalize hqd : ps.getD j 0 = q at *
        by_cases hs1 : Fl.V lo < 0
        · have hsl : decide (Fl.V lo < 0) = true := decide_eq_true hs1
          have hsg : decide (0 < Fl.V lo) = false := decide_eq_false (by omega)
          clear hs1 hlo
          by_cases hq : Fl.V q < 0
          · have hql : decide (Fl.V q < 0) = true := decide_eq_true hq
            have hqg : decide (0 < Fl.V q) = false := decide_eq_false (by omega)
            clear hq
            have HT := hide (show Fl.finTake ps (j + 1) lo = true by unfold Fl.finTake; rw [Nat.add_sub_cancel, hqd, hsl, hsg, hql, hqg]; rfl)
            clear hqd
            rw [hsl] at hl1
            rw [hsg] at hl2
            rw [hql] at hq1
            rw [hqg] at hq2
            clear hsl hsg hql hqg
            by_cases hv : Fl.V (Fl.fsub (Fl.fadd hi (Fl.fdbl lo)) hi) = Fl.V (Fl.fdbl lo)
            · have HE := hide (show Fl.finEnd ps (j + 1) hi lo = Fl.fadd hi (Fl.fdbl lo) by unfold Fl.finEnd; rw [if_pos HT.out, if_pos hv])
              rw [decide_eq_true hv] at heq
              clear hv
              generalize Fl.fsub (Fl.fadd hi (Fl.fdbl lo)) hi = d at *
              generalize Fl.fadd hi (Fl.fdbl lo) = r at *
              generalize Fl.fdbl lo = t at *
              go_wp2
              go_ret
              exact ⟨ret_float (HE.out.symm.trans HX.out), rfl⟩
            · have HE := hide (show Fl.finEnd ps (j + 1) hi lo = hi by unfold Fl.finEnd; rw [if_pos HT.out, if_neg hv])
              rw [decide_eq_false hv] at heq
              clear hv
              generalize Fl.fsub (Fl.fadd hi (Fl.fdbl lo)) hi = d at *
              generalize Fl.fadd hi (Fl.fdbl lo) = r at *
              generalize Fl.fdbl lo = t at *
              go_wp2
              go_ret
              exact ⟨ret_float (HE.out.symm.trans HX.out), rfl⟩
          · have hql : decide (Fl.V q < 0) = false := decide_eq_false hq
            clear hq
            have HT := hide (show Fl.finTake ps (j + 1) lo = false by unfold Fl.finTake; rw [Nat.add_sub_cancel, hqd, hsl, hsg]; rw [hql]; rfl)
            have HE := hide (show Fl.finEnd ps (j + 1) hi lo = hi by unfold Fl.finEnd; rw [HT.out, if_neg (by decide)])
            clear hqd heq ra rs rt
            rw [hsl] at hl1
            rw [hsg] at hl2
            rw [hql] at hq1
            clear hql
            clear hsl hsg
            go_wp2
            go_ret
            exact ⟨ret_float (HE.out.symm.trans HX.out), rfl⟩
        · have hsl : decide (Fl.V lo < 0) = false := decide_eq_false hs1
          have hsg : decide (0 < Fl.V lo) = true := decide_eq_true (by omega)
          clear hs1 hlo
          by_cases hq : 0 < Fl.V q
          · have hqg : decide (0 < Fl.V q) = true := decide_eq_true hq
            have hql : decide (Fl.V q < 0) = false := decide_eq_false (by omega)
            clear hq
            have HT := hide (show Fl.finTake ps (j + 1) lo = true by unfold Fl.finTake; rw [Nat.add_sub_cancel, hqd, hsl, hsg, hql, hqg]; rfl)
            clear hqd
            rw [hsl] at hl1
            rw [hsg] at hl2
            rw [hql] at hq1
            rw [hqg] at hq2
            clear hsl hsg hql hqg
            by_cases hv : Fl.V (Fl.fsub (Fl.fadd hi (Fl.fdbl lo)) hi) = Fl.V (Fl.fdbl lo)
            · have HE := hide (show Fl.finEnd ps (j + 1) hi lo = Fl.fadd hi (Fl.fdbl lo) by unfold Fl.finEnd; rw [if_pos HT.out, if_pos hv])
              rw [decide_eq_true hv] at heq
              clear hv
              generalize Fl.fsub (Fl.fadd hi (Fl.fdbl lo)) hi = d at *
              generalize Fl.fadd hi (Fl.fdbl lo) = r at *
              generalize Fl.fdbl lo = t at *
              go_wp2
              go_ret
              exact ⟨ret_float (HE.out.symm.trans HX.out), rfl⟩
            · have HE := hide (show Fl.finEnd ps (j + 1) hi lo = hi by unfold Fl.finEnd; rw [if_pos HT.out, if_neg hv])
              rw [decide_eq_false hv] at heq
              clear hv
              generalize Fl.fsub (Fl.fadd hi (Fl.fdbl lo)) hi = d at *
              generalize Fl.fadd hi (Fl.fdbl lo) = r at *
              generalize Fl.fdbl lo = t at *
              go_wp2
              go_ret
              exact ⟨ret_float (HE.out.symm.trans HX.out), rfl⟩
          · have hqg : decide (0 < Fl.V q) = false := decide_eq_false hq
            clear hq
            have HT := hide (show Fl.finTake ps (j + 1) lo = false by unfold Fl.finTake; rw [Nat.add_sub_cancel, hqd, hsl, hsg]; rw [hqg]; simp)
            have HE := hide (show Fl.finEnd ps (j + 1) hi lo = hi by unfold Fl.finEnd; rw [HT.out, if_neg (by decide)])
            clear hqd heq ra rs rt
            rw [hsl] at hl1
            rw [hsg] at hl2
            rw [hqg] at hq2
            clear hqg
            clear hsl hsg
            go_wp2
            go_ret
            exact ⟨ret_float (HE.out.symm.trans HX.out), rfl⟩
end Go.Proofs.Ygctal
