import Derived.Test.YgctalSm
namespace Go.Proofs.Ygctal
open Go.RowKit
set_option maxHeartbeats 2000000
set_option linter.unusedVariables false

/-! A row of points: 69 cells a point. -/
def ew (e : Nat) : List Nat := one68 (e % 18446744073709551616) (e / 18446744073709551616)
theorem ew_len (e : Nat) : (ew e).length = 68 := one68_len _ _
theorem ew_acc (e : Nat) (h : e < 340282366920938463463374607431768211456) : AccOf (ew e) (e : Int) := by
  have := one68_acc (e % 18446744073709551616) (e / 18446744073709551616) (by omega) (by omega)
  rwa [show e % 18446744073709551616 + 18446744073709551616 * (e / 18446744073709551616) = e from by omega] at this
theorem ew_of {a : List Nat} {e : Nat} (h : AccOf a (e : Int)) (he : e < 340282366920938463463374607431768211456) : a = ew e := h.inj (ew_acc e he)
theorem ew_inj {a b : Nat} (ha : a < 340282366920938463463374607431768211456) (h : ew a = ew b) : a = b := by
  unfold ew one68 at h
  simp only [List.cons.injEq] at h
  omega
structure PtAt (w : World) (g n : Nat) (Z : Nat → Nat × Nat) (E : Nat → Nat) : Prop where
  z : ∀ i, i < n → w.cell? ⟨g, i * 69, none⟩ = some (cplx (Z i))
  e : ∀ i, i < n → w.rangeAt g (i * 69 + 1) (wv (ew (E i)))
  f : ∀ o, w.frozen? ⟨g, o, none⟩ = false
section
variable {w w' : World} {g n : Nat} {Z Z' : Nat → Nat × Nat} {E E' : Nat → Nat}
theorem wv_ew_len (e : Nat) : (wv (ew e)).length = 68 := by rw [wv_len, ew_len]
theorem PtAt.there (h : PtAt w g n Z E) {i : Nat} (hi : i < n) : w.there g (i * 69 + 1) 68 := fun j hj =>
  ⟨(h.e i hi).isSome j (by rw [wv_ew_len]; exact hj), h.f _⟩
theorem PtAt.congr (h : PtAt w g n Z E) (hz : ∀ i, i < n → Z i = Z' i) (he : ∀ i, i < n → E i = E' i) : PtAt w g n Z' E' :=
  ⟨fun i hi => by rw [← hz i hi]; exact h.z i hi, fun i hi => by rw [← he i hi]; exact h.e i hi, h.f⟩
theorem PtAt.same (h : PtAt w g n Z E) (hb : w'.heap[g]? = w.heap[g]?) : PtAt w' g n Z E := by
  have hc : ∀ o, w'.cell? ⟨g, o, none⟩ = w.cell? ⟨g, o, none⟩ := fun o => World.cell?_of_block (w := w) hb
  exact ⟨fun i hi => by rw [hc]; exact h.z i hi, fun i hi j v hv => by rw [hc]; exact h.e i hi j v hv, fun o => by rw [World.frozen?_of_block (w := w) hb]; exact h.f o⟩
theorem PtAt.setZ (h : PtAt w g n Z E) {p : Nat} (hp : p < n) (z : Nat × Nat) : PtAt (w.setCell ⟨g, p * 69, none⟩ (cplx z)) g n (fun i => if i = p then z else Z i) E := by
  refine ⟨fun i hi => ?_, fun i hi j v hv => ?_, fun o => ?_⟩
  · by_cases e : i = p
    · subst e; rw [if_pos rfl]; exact World.cell?_setCell_same _ _ _ (h.z i hi)
    · rw [if_neg e, World.cell?_setCell_other _ _ _ _ (by intro hh; simp only [Addr.mk.injEq] at hh; omega)]; exact h.z i hi
  · have hj : j < (wv (ew (E i))).length := (List.getElem?_eq_some_iff.1 hv).1
    rw [wv_ew_len] at hj
    rw [World.cell?_setCell_other _ _ _ _ (by intro hh; simp only [Addr.mk.injEq] at hh; omega)]
    exact h.e i hi j v hv
  · rw [World.frozen?_setCell]; exact h.f o
theorem PtAt.setE (h : PtAt w g n Z E) {p : Nat} (hp : p < n) (e : Nat) : PtAt (w.setCells g (p * 69 + 1) (wv (ew e))) g n Z (fun i => if i = p then e else E i) := by
  refine ⟨fun i hi => ?_, fun i hi => ?_, fun o => ?_⟩
  · rw [World.cell?_setCells_out g _ _ w _ (fun _ _ => by rw [wv_ew_len]; show i * 69 < p * 69 + 1 ∨ p * 69 + 1 + 68 ≤ i * 69; omega)]
    exact h.z i hi
  · by_cases ee : i = p
    · subst ee; rw [if_pos rfl]; exact World.rangeAt_setCells_same _ _ _ _ (by rw [wv_ew_len]; exact h.there hi)
    · rw [if_neg ee]
      exact World.rangeAt_setCells_apart (h.e i hi) _ _ _ (by rw [wv_ew_len, wv_ew_len]; right; omega)
  · rw [World.frozen?_setCells]; exact h.f o
theorem PtAt.drewN (h : PtAt w g n Z E) (m : Nat) : PtAt (w.drewN m) g n Z E := h.same rfl
theorem PtAt.drew (h : PtAt w g n Z E) : PtAt w.drew g n Z E := h.same rfl
end
theorem heap_setCells (w : World) (g o k : Nat) (vs : List Value) (hk : k ≠ g) : (w.setCells g o vs).heap[k]? = w.heap[k]? := by
  induction vs generalizing o w with
  | nil => rfl
  | cons v vs ih => rw [World.setCells, ih]; exact Below.heap_setCell _ _ _ _ hk
theorem size_setCells (w : World) (g o : Nat) (vs : List Value) : (w.setCells g o vs).heap.size = w.heap.size := by
  induction vs generalizing o w with
  | nil => rfl
  | cons v vs ih => rw [World.setCells, ih]; simp [World.setCell]
theorem gb_setCells (w : World) (g o : Nat) (vs : List Value) : w.grownBy (w.setCells g o vs) (some g) := by
  induction vs generalizing o w with
  | nil => exact gb_refl _ _
  | cons v vs ih => exact gb_trans (gb_setCell w g o v) (ih _ _)
/-- A whole row written, cell by cell. -/
theorem AccB.cells {w : World} {g T : Nat} {a : List Nat} (h : AccB w g T a) (hl : a.length = 68) (b : List Nat) (hb : b.length = 68) : AccB (w.setCells g 0 (wv b)) g T b := by
  have key : ∀ (vs : List Value) (o : Nat) (w : World) (cs : List Value), Blk w g T cs → o + vs.length ≤ cs.length → Blk (w.setCells g o vs) g T (cs.take o ++ vs ++ cs.drop (o + vs.length)) := by
    intro vs
    induction vs with
    | nil => intro o w cs hB _; simpa [World.setCells] using hB
    | cons v vs ih =>
      intro o w cs hB ho
      have := ih (o + 1) (w.setCell ⟨g, o, none⟩ v) (cs.set o v) (hB.set o v) (by simp at ho ⊢; omega)
      rw [World.setCells]
      have e : (cs.set o v).take (o + 1) ++ vs ++ (cs.set o v).drop (o + 1 + vs.length) = cs.take o ++ (v :: vs) ++ cs.drop (o + (v :: vs).length) := by
        have ho' : o < cs.length := by simp at ho; omega
        rw [List.take_succ_eq_append_getElem (by simpa using ho'), List.getElem_set_self, List.take_set_of_le (Nat.le_refl o), List.drop_set_of_lt (by omega)]
        simp [Nat.add_assoc, Nat.add_comm 1]
      rw [← e]
      exact this
  have := key (wv b) 0 w _ h (by rw [wv_len, List.length_map]; omega)
  rw [List.take_zero, List.nil_append, Nat.zero_add, List.drop_of_length_le (by rw [wv_len, List.length_map]; omega), List.append_nil] at this
  exact this
/-- A row of 68 words that lies at the head of its block, and may be written. -/
structure RT (w : World) (g e : Nat) : Prop where
  r : w.rangeAt g 0 (wv (ew e))
  t : w.there g 0 68
theorem RT.below {w w' : World} {g e B : Nat} (h : RT w g e) (hb : Below B w w') (hg : g < B) : RT w' g e := ⟨range_below h.r hb hg, there_below h.t hb hg⟩
theorem RT.of {w : World} {g T e : Nat} (h : AccB w g T (ew e)) : RT w g e := ⟨acc_range h, acc_there h (ew_len e)⟩
theorem RT.other {w : World} {g e g' o : Nat} {vs : List Value} (h : RT w g e) (hg : g ≠ g') : RT (w.setCells g' o vs) g e := ⟨World.rangeAt_setCells_apart h.r _ _ _ (.inl hg), World.there_setCells h.t _ _ _⟩
theorem RT.put {w : World} {g e : Nat} (ht : w.there g 0 68) : RT (w.setCells g 0 (wv (ew e))) g e := ⟨World.rangeAt_setCells_same _ _ _ _ (by rw [wv_ew_len]; exact ht), World.there_setCells ht _ _ _⟩
theorem RT.grown {w w' : World} {g e : Nat} {row : Option Nat} (h : RT w g e) (hg : w.grownBy w' row) (hr : some g ≠ row) (hl : g < w.heap.size) : RT w' g e := by
  have hb := hg.block g hl hr
  have hc : ∀ o, w'.cell? ⟨g, o, none⟩ = w.cell? ⟨g, o, none⟩ := fun o => World.cell?_of_block (w := w) hb
  have hf : ∀ o, w'.frozen? ⟨g, o, none⟩ = w.frozen? ⟨g, o, none⟩ := fun o => World.frozen?_of_block (w := w) hb
  exact ⟨fun j v hv => by rw [hc]; exact h.r j v hv, fun j hj => by rw [hc, hf]; exact h.t j hj⟩
theorem load_mid {w : World} {g o : Nat} {a : List Nat} (h : w.rangeAt g o (wv a)) (hl : a.length = 68) (n : Nat) : (Instr.loadAt 31 (.pointer (some ⟨g, o, none⟩))).run Talg.prog (w.drewN n) = .ok (.agg (accArr a)) (w.drewN n) :=
  run_loadAt_mid (w.drewN n) g o 31 (wv a) _ (fun j v hv => h j v hv) Talg.underlying31 rfl (by rw [wv_len, hl]; exact acc_info)
end Go.Proofs.Ygctal
