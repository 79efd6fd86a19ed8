import Derived.Test.YgctalRows
import Derived.WalkKit
import Derived.WalkLawsBesides
import Derived.WalkSpells
import Derived.Below
import Derived.OneCell
namespace Go.Proofs.Ygctal
open Go.RowKit

/-! A block of the call's own: its cells. -/
def Blk (w : World) (g : Nat) (e : TypeId) (cs : List Value) : Prop := w.heap[g]? = some (.cells cs.toArray e (0, 0))

section
variable {w : World} {g : Nat} {e : TypeId} {cs : List Value}
theorem Blk.cell (h : Blk w g e cs) (j : Nat) : w.cell? ⟨g, j, none⟩ = cs[j]? := by
  unfold Blk at h; simp [World.cell?, h]
theorem Blk.free (h : Blk w g e cs) (j : Nat) : w.frozen? ⟨g, j, none⟩ = false := by
  unfold Blk at h; simp [World.frozen?, h]
theorem Blk.lt (h : Blk w g e cs) : g < w.heap.size := lt_of_block h
theorem Blk.set (h : Blk w g e cs) (j : Nat) (v : Value) : Blk (w.setCell ⟨g, j, none⟩ v) g e (cs.set j v) := by
  have hlt := h.lt
  unfold Blk at *
  have h' : w.heap[g] = .cells cs.toArray e (0, 0) := by simpa [Array.getElem?_eq_getElem hlt] using h
  show (w.heap.modify g _)[g]? = _
  rw [Array.getElem?_eq_getElem (by simpa using hlt), Array.getElem_modify_self, h']
  simp
theorem Blk.other (h : Blk w g e cs) {a : Addr} (ha : a.block ≠ g) (v : Value) : Blk (w.setCell a v) g e cs := by
  unfold Blk at *
  rw [Below.heap_setCell _ _ _ _ (by omega)]
  exact h
theorem Blk.drew (h : Blk w g e cs) : Blk w.drew g e cs := h
theorem Blk.drewN (h : Blk w g e cs) (n : Nat) : Blk (w.drewN n) g e cs := by
  unfold Blk at *; exact h
theorem Blk.alloc (h : Blk w g e cs) (o : Obj) : Blk (w.alloc o) g e cs := by
  have := h.lt
  unfold Blk at *
  rw [Below.heap_alloc _ _ _ this]
  exact h
theorem Blk.below (h : Blk w g e cs) {w' : World} {B : Nat} (hb : Below B w w') (hg : g < B) : Blk w' g e cs := by
  unfold Blk at *
  rw [hb.block g hg]
  exact h
theorem Blk.grown (h : Blk w g e cs) {w' : World} {row : Option Nat} (hg : w.grownBy w' row) (hr : row ≠ some g) : Blk w' g e cs := by
  have := h.lt
  unfold Blk at *
  rw [hg.block g this (fun h => hr h.symm)]
  exact h
end
theorem Blk.new (w : World) (cs : Array Value) (e : TypeId) : Blk (w.alloc (.cells cs e)) w.heap.size e cs.toList := by
  unfold Blk
  show (w.heap.push _)[w.heap.size]? = _
  simp
/-- The block that a row owned by the call lies in. -/
theorem blk_of_owns {w : World} {base : Nat} {e : TypeId} {g n cap : Nat} {xs : List Value} (h : w.ownsRow base e 1 (.slice (some ⟨g, 0, none⟩) n cap) n xs) :
    ∃ cs, Blk w g e cs ∧ cs.length = cap ∧ cs.take n = xs ∧ n ≤ cap ∧ base ≤ g := by
  obtain ⟨h1, h2⟩ := h
  rcases h2 with ⟨h3, _⟩ | ⟨g', cap', cur, hv, hb, hh, hn, hm, hs, hx⟩
  · simp at h3
  · simp only [Value.slice.injEq, Option.some.injEq, Addr.mk.injEq, true_and, and_true] at hv
    obtain ⟨rfl, rfl⟩ := hv
    refine ⟨cur.toList, by simpa [Blk] using hh, by simpa using hs, by simpa using hx, hn, hb⟩
theorem owns_of_blk {w : World} {base : Nat} {e : TypeId} {g n cap : Nat} {cs : List Value} (h : Blk w g e cs) (hc : cs.length = cap) (hn : n ≤ cap) (hm : cap ≤ maxLen) (hb : base ≤ g) :
    w.ownsRow base e 1 (.slice (some ⟨g, 0, none⟩) n cap) n (cs.take n) := by
  refine ⟨by simp; omega, .inr ⟨g, cap, cs.toArray, rfl, hb, h, hn, hm, by simpa using hc, by simp⟩⟩
theorem Below.drewN {B : Nat} {a w : World} (h : Below B a w) (n : Nat) : Below B a (w.drewN n) := ⟨h.os, h.tape, h.output, h.size, h.block⟩
theorem run_store_float {P : Program} (w : World) (a : Addr) (m : Mode) (k : FloatKind) (b : Nat) : (store a (.float k b) m).run P w = stored P w a (.float k b) m := run_store P w a _ m rfl
theorem run_store_complex {P : Program} (w : World) (a : Addr) (m : Mode) (k : FloatKind) (b c : Nat) : (store a (.complex k b c) m).run P w = stored P w a (.complex k b c) m := run_store P w a _ m rfl
end Go.Proofs.Ygctal
