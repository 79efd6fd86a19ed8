import Derived.Test.YgctalSe
namespace Ac

/-! A row shifted down by 14. -/
def downL : List Nat → List Nat
  | [] => []
  | x :: xs => (x / 16384 + xs.headD 0 % 16384 * 1125899906842624) :: downL xs
theorem downL_len : ∀ l, (downL l).length = l.length
  | [] => rfl
  | x :: xs => by simp [downL, downL_len xs]
theorem headD_mod : ∀ l : List Nat, accV l % 16384 = l.headD 0 % 16384
  | [] => rfl
  | x :: xs => by
    show (x + 18446744073709551616 * accV xs) % 16384 = x % 16384
    omega
theorem downL_V : ∀ l, accV (downL l) = accV l / 16384
  | [] => rfl
  | x :: xs => by
    show (x / 16384 + xs.headD 0 % 16384 * 1125899906842624) + 18446744073709551616 * accV (downL xs) = (x + 18446744073709551616 * accV xs) / 16384
    rw [downL_V xs, ← headD_mod xs]
    omega
theorem downL_wd : ∀ l, Wd l → Wd (downL l)
  | [], _ => fun x hx => absurd hx (by simp [downL])
  | x :: xs, h => by
    intro y hy
    simp only [downL, List.mem_cons] at hy
    rcases hy with rfl | hy
    · have := h x List.mem_cons_self
      unfold W at *
      omega
    · exact downL_wd xs (fun z hz => h z (List.mem_cons_of_mem _ hz)) y hy
theorem downL_get : ∀ (l : List Nat) (j : Nat), j < l.length → (downL l).getD j 0 = l.getD j 0 / 16384 + l.getD (j + 1) 0 % 16384 * 1125899906842624
  | x :: xs, 0, _ => by
    rw [downL, List.getD_cons_zero, List.getD_cons_zero, List.getD_cons_succ]
    cases xs with
    | nil => rw [List.headD_nil, List.getD_nil]
    | cons y ys => rw [List.headD_cons, List.getD_cons_zero]
  | x :: xs, j + 1, h => by
    rw [downL, List.getD_cons_succ, List.getD_cons_succ, List.getD_cons_succ]
    exact downL_get xs j (by simpa using h)
/-- The first j words are done. -/
structure DownRun (ws0 ws : List Nat) (j : Nat) : Prop where
  len : ws.length = 68
  done : ∀ k, k < j → ws.getD k 0 = (downL ws0).getD k 0
  rest : ∀ k, j ≤ k → ws.getD k 0 = ws0.getD k 0
theorem DownRun.step {ws0 ws : List Nat} {j v : Nat} (h : DownRun ws0 ws j) (hj : j < 68) (hv : (downL ws0).getD j 0 = v) : DownRun ws0 (ws.set j v) (j + 1) := by
  refine ⟨by simpa using h.len, ?_, ?_⟩
  · intro k hk
    by_cases e : k = j
    · subst e; rw [hv]; simp [List.getD_eq_getElem?_getD, h.len, hj]
    · rw [← h.done k (by omega)]
      simp only [List.getD_eq_getElem?_getD]
      rw [List.getElem?_set_ne (by omega)]
  · intro k hk
    rw [← h.rest k (by omega)]
    simp only [List.getD_eq_getElem?_getD]
    rw [List.getElem?_set_ne (by omega)]
theorem DownRun.all {ws0 ws : List Nat} (h : DownRun ws0 ws 68) (h0 : ws0.length = 68) : ws = downL ws0 := by
  refine List.ext_getElem (by rw [h.len, downL_len, h0]) fun k h1 h2 => ?_
  have := h.done k (by rw [h.len] at h1; exact h1)
  simpa [List.getD_eq_getElem?_getD, List.getElem?_eq_getElem h1, List.getElem?_eq_getElem h2] using this
end Ac
namespace Go.Proofs.Ygctal
open Go.RowKit
set_option maxHeartbeats 4000000
set_option linter.unusedVariables false
set_option linter.unusedSimpArgs false

set_option maxRecDepth 1000000 in
theorem down_r6 {Q : Exit → Act → World → Prop} (w : World) (g k x y : Nat) (hk : k + 1 < 68) (c0 : w.cell? ⟨g, k, none⟩ = some (.int .u64 (x : Int))) (c1 : w.cell? ⟨g, k + 1, none⟩ = some (.int .u64 (y : Int))) (f0 : w.frozen? ⟨g, k, none⟩ = false)
    (u0 u3 u4 u6 u7 u8 u9 u10 u11 u12 u13 u14 u15 u16 u17 u18 u19 u20 u21 u22 u23 u24 u25 u26 u27 u28 u29 u30 u31 : Value)
    (hQ : ∀ v19 v20 v21 v22 v23 v24 v25 v26 v27 v28 v29 v30 : Value, Q .normal ⟨#[u0, .int .u8 14, .pointer (some ⟨g, 0, none⟩), u3, u4, .int .i64 (k : Int), u6, u7, u8, u9, u10, u11, u12, u13, u14, u15, u16, u17, u18, v19, v20, v21, v22, v23, v24, v25, v26, v27, v28, v29, v30, u31], []⟩ ((w.setCell ⟨g, k, none⟩ (.int .u64 (bits .or .u64 (x : Int) (IntKind.u64.wrap ((y : Int) * 1125899906842624))))).drew)) :
    Code.wp Talg.prog ((Talg.f76.body.bind (regionOf 6)).getD .skip) Q ⟨#[u0, .int .u8 14, .pointer (some ⟨g, 0, none⟩), u3, u4, .int .i64 (k : Int), u6, u7, u8, u9, u10, u11, u12, u13, u14, u15, u16, u17, u18, u19, u20, u21, u22, u23, u24, u25, u26, u27, u28, u29, u30, u31], []⟩ w := by
  have j1 := wrap_small ((k : Int) + 1) (by omega) (by omega)
  have j2 : ((k : Int) + 1).toNat = k + 1 := by omega
  have j3 : (k : Int) + 1 < 68 := by omega
  have j4 : (0 : Int) ≤ (k : Int) + 1 := by omega
  have j5 : (k : Int) < 68 := by omega
  conv => arg 2; whnf
  refine wp_region_noPanic ?_
  go_region_with (fail)
  all_goals refine NoPanic.normal ?_
  all_goals go_simp
  all_goals exact hQ _ _ _ _ _ _ _ _ _ _ _ _
end Go.Proofs.Ygctal
