import Derived.Test.YgctalFl3
namespace Ac

/-! A row of words as one number. -/
def W : Nat := 18446744073709551616
def accV : List Nat → Nat
  | [] => 0
  | x :: xs => x + W * accV xs
/-- Words. -/
def Wd (ws : List Nat) : Prop := ∀ x ∈ ws, x < W

theorem accV_lt (ws : List Nat) (h : Wd ws) : accV ws < W ^ ws.length := by
  induction ws with
  | nil => simp [accV]
  | cons x xs ih =>
    have h1 := h x List.mem_cons_self
    have h2 := ih (fun y hy => h y (List.mem_cons_of_mem _ hy))
    simp only [accV, List.length_cons, Nat.pow_succ]
    have h3 : W * accV xs + W ≤ W * W ^ xs.length := by
      have := Nat.mul_le_mul_left W h2
      rwa [Nat.mul_succ] at this
    rw [Nat.mul_comm (W ^ xs.length) W]
    omega
theorem accV_inj : ∀ (a b : List Nat), Wd a → Wd b → a.length = b.length → accV a = accV b → a = b
  | [], [], _, _, _, _ => rfl
  | [], _ :: _, _, _, h, _ => by simp at h
  | _ :: _, [], _, _, h, _ => by simp at h
  | x :: xs, y :: ys, ha, hb, hl, he => by
    have h1 := ha x List.mem_cons_self
    have h2 := hb y List.mem_cons_self
    simp only [accV] at he
    have hx : x = y := by
      have e1 : (x + W * accV xs) % W = x := by rw [Nat.add_mul_mod_self_left]; exact Nat.mod_eq_of_lt h1
      have e2 : (y + W * accV ys) % W = y := by rw [Nat.add_mul_mod_self_left]; exact Nat.mod_eq_of_lt h2
      rw [← e1, he, e2]
    subst hx
    have hv : accV xs = accV ys := Nat.eq_of_mul_eq_mul_left (show 0 < W by decide) (by omega)
    rw [accV_inj xs ys (fun z hz => ha z (List.mem_cons_of_mem _ hz)) (fun z hz => hb z (List.mem_cons_of_mem _ hz)) (by simpa using hl) hv]
/-- One word written. -/
theorem accV_set (ws : List Nat) : ∀ (j v : Nat), j < ws.length → (accV (ws.set j v) : Int) = accV ws + ((v : Int) - (ws.getD j 0 : Nat)) * ((W ^ j : Nat) : Int) := by
  induction ws with
  | nil => intro j v h; simp at h
  | cons x xs ih =>
    intro j v h
    match j, h with
    | 0, _ => simp [accV]; omega
    | j + 1, h =>
      have := ih j v (by simpa using h)
      simp only [List.set_cons_succ, accV, List.getD_cons_succ]
      rw [Int.natCast_add, Int.natCast_add, Int.natCast_mul, Int.natCast_mul, this, Nat.pow_succ, Int.mul_add, Int.natCast_mul, Int.mul_comm ((W ^ j : Nat) : Int) (W : Int)]
      rw [← Int.mul_assoc, ← Int.mul_assoc, Int.mul_comm (W : Int) ((v : Int) - _)]
      omega
theorem Wd.set {ws : List Nat} (h : Wd ws) {j v : Nat} (hv : v < W) : Wd (ws.set j v) := by
  intro x hx
  rcases List.mem_or_eq_of_mem_set hx with h1 | h1
  · exact h x h1
  · rw [h1]; exact hv
theorem Wd.get {ws : List Nat} (h : Wd ws) {j : Nat} (hj : j < ws.length) : ws.getD j 0 < W := by
  rw [List.getD_eq_getElem?_getD, List.getElem?_eq_getElem hj]; exact h _ (List.getElem_mem hj)

/-- The steps of a long sum (s = 1) or difference (s = -1): words up to j are done, a carry goes into word j. -/
structure Run (s : Int) (ws0 : List Nat) (N : Int) (ws : List Nat) (j c : Nat) : Prop where
  len : ws.length = 68
  wd : Wd ws
  c1 : c ≤ 1
  rest : ∀ k, j ≤ k → ws.getD k 0 = ws0.getD k 0
  eq : (accV ws : Int) + s * ((c : Int) * ((W ^ j : Nat) : Int)) = accV ws0 + s * N
theorem Run.step {s : Int} {ws0 : List Nat} {N : Int} {ws : List Nat} {j c : Nat} (h : Run s ws0 N ws j c) (hj : j < 68) {y S C : Nat} (hS : S < W) (hC : C ≤ 1)
    (he : (S : Int) + s * (W * (C : Int)) = (ws.getD j 0 : Nat) + s * ((y : Int) + c)) :
    Run s ws0 (N + (y : Int) * ((W ^ j : Nat) : Int)) (ws.set j S) (j + 1) C := by
  refine ⟨by simpa using h.len, h.wd.set hS, hC, ?_, ?_⟩
  · intro k hk
    rw [← h.rest k (by omega)]
    simp only [List.getD_eq_getElem?_getD]
    rw [List.getElem?_set_ne (by omega)]
  · rw [accV_set ws j S (by rw [h.len]; omega), Nat.pow_succ, Int.natCast_mul]
    have h0 := h.eq
    generalize ((W ^ j : Nat) : Int) = P at *
    have e2 : ((S : Int) - (ws.getD j 0 : Nat)) = s * ((y : Int) + c) - s * (W * (C : Int)) := by omega
    rw [e2, Int.mul_add s, Int.mul_add s N, ← Int.add_assoc, ← h0, Int.sub_mul, Int.add_mul]
    have r1 : s * (W * (C : Int)) * P = s * ((C : Int) * (P * (W : Int))) := by
      rw [Int.mul_assoc, Int.mul_comm (W : Int) (C : Int), Int.mul_assoc (C : Int), Int.mul_comm (W : Int) P]
    have r2 : s * (c : Int) * P = s * ((c : Int) * P) := Int.mul_assoc _ _ _
    have r3 : s * (y : Int) * P = s * ((y : Int) * P) := Int.mul_assoc _ _ _
    rw [r1, r2, r3]
    omega
theorem Run.start {s : Int} {ws : List Nat} (hl : ws.length = 68) (hw : Wd ws) (j : Nat) : Run s ws 0 ws j 0 := ⟨hl, hw, by omega, fun _ _ => rfl, by simp⟩
/-- The last: the sum modulo 2^4352. -/
theorem Run.done {s : Int} {ws0 : List Nat} {N : Int} {ws : List Nat} {j c : Nat} (h : Run s ws0 N ws j c) (hend : c = 0 ∨ j = 68) : (accV ws : Int) = ((accV ws0 : Int) + s * N) % ((W ^ 68 : Nat) : Int) := by
  have hlt := accV_lt ws h.wd
  rw [h.len] at hlt
  have h0 := h.eq
  generalize hP : W ^ 68 = P at *
  rw [← h0]
  rcases hend with rfl | rfl
  · simp only [Int.natCast_zero, Int.zero_mul, Int.mul_zero, Int.add_zero]
    exact (Int.emod_eq_of_lt (by omega) (by omega)).symm
  · rw [hP, ← Int.mul_assoc, Int.add_mul_emod_self_right]
    exact (Int.emod_eq_of_lt (by omega) (by omega)).symm
end Ac
