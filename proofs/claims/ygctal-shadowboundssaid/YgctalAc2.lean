import Derived.Test.YgctalAc1
namespace Ac

/-! The negative of a row; its top bit; zero. -/
def lowV (ws : List Nat) : Nat → Int
  | 0 => 0
  | j + 1 => lowV ws j + (ws.getD j 0 : Nat) * ((W ^ j : Nat) : Int)
theorem lowV_take (ws : List Nat) : ∀ j, j ≤ ws.length → lowV ws j = (accV (ws.take j) : Int) := by
  have key : ∀ (a : List Nat) (x : Nat), accV (a ++ [x]) = accV a + x * W ^ a.length := by
    intro a x
    induction a with
    | nil => simp [accV]
    | cons y a ih => simp only [List.cons_append, accV, ih, List.length_cons, Nat.pow_succ, Nat.mul_add]; rw [Nat.mul_comm (W ^ a.length) W, ← Nat.mul_assoc, ← Nat.mul_assoc, Nat.mul_comm W x]; omega
  intro j
  induction j with
  | zero => intro _; simp [lowV, accV]
  | succ j ih =>
    intro hj
    rw [List.take_succ_eq_append_getElem (by omega), key]
    show lowV ws j + _ = _
    rw [ih (by omega), List.length_take, Nat.min_eq_left (by omega)]
    simp [List.getD_eq_getElem?_getD, List.getElem?_eq_getElem (show j < ws.length by omega)]
theorem lowV_all (ws : List Nat) : lowV ws ws.length = (accV ws : Int) := by rw [lowV_take ws _ (Nat.le_refl _), List.take_length]
structure NegRun (ws0 ws : List Nat) (j c : Nat) : Prop where
  len : ws.length = 68
  wd : Wd ws
  c1 : c ≤ 1
  rest : ∀ k, j ≤ k → ws.getD k 0 = ws0.getD k 0
  eq : (accV ws : Int) = accV ws0 - 2 * lowV ws0 j + (c : Int) * ((W ^ j : Nat) : Int)
theorem NegRun.start {ws : List Nat} (hl : ws.length = 68) (hw : Wd ws) : NegRun ws ws 0 0 := ⟨hl, hw, by omega, fun _ _ => rfl, by simp [lowV]⟩
theorem NegRun.step {ws0 ws : List Nat} {j c S C : Nat} (h : NegRun ws0 ws j c) (hj : j < 68) (hS : S < W) (hC : C ≤ 1) (he : (S : Int) + (-1) * (W * (C : Int)) = (0 : Nat) + (-1) * (((ws.getD j 0 : Nat) : Int) + c)) :
    NegRun ws0 (ws.set j S) (j + 1) C := by
  refine ⟨by simpa using h.len, h.wd.set hS, hC, ?_, ?_⟩
  · intro k hk
    rw [← h.rest k (by omega)]
    simp only [List.getD_eq_getElem?_getD]
    rw [List.getElem?_set_ne (by omega)]
  · have hx := h.rest j (Nat.le_refl _)
    rw [accV_set ws j S (by rw [h.len]; omega), h.eq, Nat.pow_succ, Int.natCast_mul, hx]
    rw [hx] at he
    show _ = _ - 2 * (lowV ws0 j + _) + _
    generalize ((W ^ j : Nat) : Int) = P at *
    generalize ws0.getD j 0 = x at *
    have e2 : (S : Int) - (x : Nat) = (W : Int) * C - c - 2 * (x : Int) := by omega
    rw [e2, Int.sub_mul, Int.sub_mul, Int.mul_add]
    have r1 : (W : Int) * C * P = (C : Int) * (P * (W : Int)) := by rw [Int.mul_comm (W : Int) (C : Int), Int.mul_assoc, Int.mul_comm (W : Int) P]
    have r2 : 2 * (x : Int) * P = 2 * ((x : Int) * P) := Int.mul_assoc _ _ _
    rw [r1, r2]
    omega
theorem NegRun.done {ws0 ws : List Nat} {c : Nat} (h : NegRun ws0 ws 68 c) (h0 : ws0.length = 68) : (accV ws : Int) = (-(accV ws0 : Int)) % ((W ^ 68 : Nat) : Int) := by
  have hlt := accV_lt ws h.wd
  rw [h.len] at hlt
  have he := h.eq
  have hl := lowV_all ws0
  rw [h0] at hl
  rw [hl] at he
  generalize W ^ 68 = P at *
  have e : (-(accV ws0 : Int)) = accV ws - (c : Int) * P := by omega
  rw [e, Int.sub_mul_emod_self_right]
  exact (Int.emod_eq_of_lt (by omega) (by omega)).symm
/-- A word of the number. -/
theorem accV_word : ∀ (ws : List Nat) (j : Nat), Wd ws → j < ws.length → accV ws / W ^ j % W = ws.getD j 0
  | [], j, _, h => by simp at h
  | x :: xs, 0, hw, _ => by
    have := hw x List.mem_cons_self
    simp only [accV, Nat.pow_zero, Nat.div_one, List.getD_cons_zero]
    rw [Nat.add_mul_mod_self_left]
    exact Nat.mod_eq_of_lt this
  | x :: xs, j + 1, hw, h => by
    have hx := hw x List.mem_cons_self
    have ih := accV_word xs j (fun y hy => hw y (List.mem_cons_of_mem _ hy)) (by simpa using h)
    simp only [accV, List.getD_cons_succ]
    rw [Nat.pow_succ, Nat.mul_comm (W ^ j) W, ← Nat.div_div_eq_div_mul, Nat.add_mul_div_left _ _ (show 0 < W by decide), Nat.div_eq_of_lt hx, Nat.zero_add, ih]
theorem accV_top {ws : List Nat} (hw : Wd ws) (hl : ws.length = 68) : ws.getD 67 0 = accV ws / W ^ 67 := by
  have h1 := accV_word ws 67 hw (by omega)
  have hlt := accV_lt ws hw
  rw [hl, Nat.pow_succ] at hlt
  rw [← h1]
  refine Nat.mod_eq_of_lt ?_
  rw [Nat.div_lt_iff_lt_mul (by exact Nat.pos_of_ne_zero (Nat.pos_iff_ne_zero.1 (Nat.pow_pos (by decide))))]
  rwa [Nat.mul_comm]
theorem accV_zero {ws : List Nat} (h : ∀ j, j < ws.length → ws.getD j 0 = 0) : accV ws = 0 := by
  induction ws with
  | nil => rfl
  | cons x xs ih =>
    have h0 := h 0 (by simp)
    simp only [List.getD_cons_zero] at h0
    have := ih (fun j hj => by have := h (j + 1) (by simpa using hj); simpa using this)
    simp [accV, h0, this]
theorem accV_pos {ws : List Nat} {j : Nat} (hw : Wd ws) (hj : j < ws.length) (h : ws.getD j 0 ≠ 0) : accV ws ≠ 0 := by
  intro h0
  have := accV_word ws j hw hj
  rw [h0] at this
  simp at this
  rw [List.getD_eq_getElem?_getD] at h
  omega
/-- The sign, of a number that keeps clear of the top. -/
def half : Nat := 9223372036854775808 * W ^ 67
theorem full_half : W ^ 68 = 2 * half := by unfold half; rw [Nat.pow_succ, ← Nat.mul_assoc, Nat.mul_comm]; rfl
theorem top_neg {ws : List Nat} {z : Int} (hw : Wd ws) (hl : ws.length = 68) (hv : (accV ws : Int) = z % ((W ^ 68 : Nat) : Int)) (h1 : -(half : Int) ≤ z) (h2 : z < half) : 9223372036854775808 ≤ ws.getD 67 0 ↔ z < 0 := by
  rw [accV_top hw hl, Nat.le_div_iff_mul_le (by exact Nat.pow_pos (by decide))]
  show half ≤ accV ws ↔ _
  rw [full_half] at hv
  generalize half = H at *
  by_cases hz : z < 0
  · have : z % ((2 * H : Nat) : Int) = z + 2 * H := by
      rw [← Int.add_emod_right]
      exact Int.emod_eq_of_lt (by omega) (by omega)
    omega
  · have : z % ((2 * H : Nat) : Int) = z := Int.emod_eq_of_lt (by omega) (by omega)
    omega
end Ac
