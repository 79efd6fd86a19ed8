import Derived.Test.YgctalWg
import Derived.Test.YgctalMem
namespace Go.Proofs.Ygctal
open Go.RowKit
set_option maxHeartbeats 800000
set_option linter.unusedVariables false
attribute [local go_sem] run_store_float

/-! floats. -/
theorem Talg.info29 : (Talg.prog.info? 29).map (fun i => (i.zero, i.size, i.bytes)) = some (some (.float .f64 0), 1, 8) := by kernel_rfl
/-- The words of a slice of numbers, cut to n. -/
def wordsOf (zs : List Int) (n : Nat) : List Nat := (zs.take n).map Int.toNat

theorem made_blk {w : World} {base g n : Nat} {e : TypeId} {z : Value} (h : w.ownsRow base e 1 (.slice (some ⟨g, 0, none⟩) n n) n (madeCells z.cells (n * 1)).toList) :
    ∃ cs, Blk w g e cs ∧ cs.length = n := by
  obtain ⟨cs, h1, h2, _⟩ := blk_of_owns h
  exact ⟨cs, h1, h2⟩
theorem cs_next {cs : List Value} {k : Nat} {zs : List Int} {z : Int} (hc : ∀ j, j < k → cs[j]? = some (.float .f64 (zs.getD j 0).toNat)) (hk : k < cs.length) (hz : zs.getD k 0 = z) :
    ∀ j, j < k + 1 → (cs.set k (.float .f64 z.toNat))[j]? = some (.float .f64 (zs.getD j 0).toNat) := by
  intro j hj
  by_cases h : j = k
  · subst h; rw [hz]; simp [hk]
  · rw [List.getElem?_set_ne (by omega)]; exact hc j (by omega)
theorem cs_done {w : World} {g : Nat} {e : TypeId} {cs : List Value} {n : Nat} {zs : List Int} (hB : Blk w g e cs) (hc : ∀ j, j < n → cs[j]? = some (.float .f64 (zs.getD j 0).toNat)) (hl : cs.length = n) (hz : n ≤ zs.length) :
    Blk w g e ((wordsOf zs n).map (.float .f64)) := by
  have : cs = (wordsOf zs n).map (.float .f64) := by
    refine List.ext_getElem? fun j => ?_
    by_cases hj : j < n
    · rw [hc j hj]
      simp [wordsOf, hj, List.getD_eq_getElem?_getD, List.getElem?_eq_getElem (show j < zs.length by omega)]
    · rw [List.getElem?_eq_none (by omega), List.getElem?_eq_none (by simp [wordsOf]; omega)]
  rw [← this]; exact hB

set_option maxRecDepth 100000 in
theorem floats_short (b off len cap lim : Nat) (zs : List Int) (w : World) (h0 : 0 < len) (hl : len ≤ lim) (hlim : lim ≤ 1025) (hz : len ≤ zs.length) (hbw : b < w.heap.size)
    (hc : ∀ i, i < zs.length → w.cell? ⟨b, off + i, none⟩ = some (.int .u64 (zs.getD i 0))) :
    Calls Talg.prog 19 #[.slice (some ⟨b, off, none⟩) len cap, .int .i64 lim] w fun e w' =>
      e = .returned (.slice (some ⟨w.heap.size, 0, none⟩) len len) ∧ Blk w' w.heap.size 29 ((wordsOf zs len).map (.float .f64)) ∧ Below w.heap.size w w' := by
  obtain ⟨i0, hi, hz0, hz1, hz2⟩ := info_parts Talg.info29
  go_enter Talg.func19, Talg.ntmps19
  go_wp2_with (first | (at_make; refine wpList_make_full _ rfl _ _ 42 rfl w.heap.size 29 i0 (.float .f64 0) 1 Talg.underlying42 hi hz0 hz1 _ _ _ _ len rfl rfl (by first | rfl | omega) (by first | rfl | omega) (by rw [hz2]; omega) (by unfold maxLen; omega) (Nat.le_refl _) ?_; intro w1 hown hgrow))
  have hW1 := made_blk hown
  clear hown
  obtain ⟨cs, hB, hcl⟩ := hW1
  have hbel : Below w.heap.size w w1 := (Below.refl _ _).grown hgrow (Nat.le_refl _) (fun k h => by cases h)
  clear hgrow
  go_wp2
  go_loopw [6] (fun i wr => ∃ (k : Nat) (cs : List Value), k ≤ len ∧ i = .int .i64 k ∧ Blk wr w.heap.size 29 cs ∧ cs.length = len ∧ Below w.heap.size w wr ∧ ∀ j, j < k → cs[j]? = some (.float .f64 (zs.getD j 0).toNat)) (fun i _ => len - (intOf i).toNat)
  case atStart => exact ⟨0, cs, by omega, rfl, hB, hcl, hbel, fun j hj => by omega⟩
  case round =>
    clear hB hcl hbel cs
    obtain ⟨k, cs, hk, rfl, hB, hcl, hbel, hcs⟩ := hrel
    have HB := hide hB
    have HC := hide hcs
    have hbs := hbel.size
    by_cases hlt : k < len
    · have hcell := (hbel.cell (p := ⟨b, off + k, none⟩) (by exact hbw)).trans (hc k (by omega))
      have hfree := hB.free k
      obtain ⟨v0, hv0⟩ : ∃ v0, wr.cell? ⟨w.heap.size, k, none⟩ = some v0 := ⟨cs[k]'(by omega), by rw [hB.cell]; simp [hcl, hlt]⟩
      have HS := hide (hB.set k (.float .f64 (zs.getD k 0).toNat))
      have HBel := hide (hbel.setCell (p := ⟨w.heap.size, k, none⟩) (Nat.le_refl _) (.float .f64 (zs.getD k 0).toNat))
      clear hB hcs hbel
      generalize hz : zs.getD k 0 = z at *
      have HZ := hide hz
      clear hz
      go_wp2_with (go_at_call 38; refine (f64_any _ _).mono ?_; rintro e w' ⟨rfl, rfl⟩)
      go_roundw
      case rel => exact ⟨k + 1, _, by omega, by go_num, HS.out, by simp [hcl], HBel.out, cs_next HC.out (by omega) HZ.out⟩
      case measure => simp [intOf]; omega
    · obtain rfl : k = len := by omega
      have HBel := hide hbel
      clear hB hcs hbel
      go_wp2
      go_ret
      exact ⟨rfl, cs_done HB.out HC.out hcl (by omega), HBel.out⟩
set_option maxRecDepth 100000 in
theorem floats_long (b off len cap lim : Nat) (zs : List Int) (w : World) (h0 : 0 < lim) (hl : lim < len) (hcap : len ≤ cap) (hmx : cap ≤ maxLen) (hlim : lim ≤ 1025) (hz : len ≤ zs.length) (hbw : b < w.heap.size)
    (hc : ∀ i, i < zs.length → w.cell? ⟨b, off + i, none⟩ = some (.int .u64 (zs.getD i 0))) :
    Calls Talg.prog 19 #[.slice (some ⟨b, off, none⟩) len cap, .int .i64 lim] w fun e w' =>
      e = .returned (.slice (some ⟨w.heap.size, 0, none⟩) lim lim) ∧ Blk w' w.heap.size 29 ((wordsOf zs lim).map (.float .f64)) ∧ Below w.heap.size w w' := by
  unfold maxLen at hmx
  obtain ⟨i0, hi, hz0, hz1, hz2⟩ := info_parts Talg.info29
  go_enter Talg.func19, Talg.ntmps19
  go_wp2_with (first | (at_make; refine wpList_make_full _ rfl _ _ 42 rfl w.heap.size 29 i0 (.float .f64 0) 1 Talg.underlying42 hi hz0 hz1 _ _ _ _ lim rfl rfl (by first | rfl | omega) (by first | rfl | omega) (by rw [hz2]; omega) (by unfold maxLen; omega) (Nat.le_refl _) ?_; intro w1 hown hgrow))
  have hW1 := made_blk hown
  clear hown
  obtain ⟨cs, hB, hcl⟩ := hW1
  have hbel : Below w.heap.size w w1 := (Below.refl _ _).grown hgrow (Nat.le_refl _) (fun k h => by cases h)
  clear hgrow
  go_wp2
  go_loopw [6] (fun i wr => ∃ (k : Nat) (cs : List Value), k ≤ lim ∧ i = .int .i64 k ∧ Blk wr w.heap.size 29 cs ∧ cs.length = lim ∧ Below w.heap.size w wr ∧ ∀ j, j < k → cs[j]? = some (.float .f64 (zs.getD j 0).toNat)) (fun i _ => lim - (intOf i).toNat)
  case atStart => exact ⟨0, cs, by omega, rfl, hB, hcl, hbel, fun j hj => by omega⟩
  case round =>
    clear hB hcl hbel cs
    obtain ⟨k, cs, hk, rfl, hB, hcl, hbel, hcs⟩ := hrel
    have HB := hide hB
    have HC := hide hcs
    have hbs := hbel.size
    by_cases hlt : k < lim
    · have hcell := (hbel.cell (p := ⟨b, off + k, none⟩) (by exact hbw)).trans (hc k (by omega))
      have hfree := hB.free k
      obtain ⟨v0, hv0⟩ : ∃ v0, wr.cell? ⟨w.heap.size, k, none⟩ = some v0 := ⟨cs[k]'(by omega), by rw [hB.cell]; simp [hcl, hlt]⟩
      have HS := hide (hB.set k (.float .f64 (zs.getD k 0).toNat))
      have HBel := hide (hbel.setCell (p := ⟨w.heap.size, k, none⟩) (Nat.le_refl _) (.float .f64 (zs.getD k 0).toNat))
      clear hB hcs hbel
      generalize hz : zs.getD k 0 = z at *
      have HZ := hide hz
      clear hz
      go_wp2_with (go_at_call 38; refine (f64_any _ _).mono ?_; rintro e w' ⟨rfl, rfl⟩)
      go_roundw
      case rel => exact ⟨k + 1, _, by omega, by go_num, HS.out, by simp [hcl], HBel.out, cs_next HC.out (by omega) HZ.out⟩
      case measure => simp [intOf]; omega
    · obtain rfl : k = lim := by omega
      have HBel := hide hbel
      clear hB hcs hbel
      go_wp2
      go_ret
      exact ⟨rfl, cs_done HB.out HC.out hcl (by omega), HBel.out⟩
set_option maxRecDepth 100000 in
theorem floats_nil (a : Option Addr) (cap lim : Nat) (w : World) (hlim : lim ≤ 1025) :
    Calls Talg.prog 19 #[.slice a 0 cap, .int .i64 lim] w fun e w' =>
      e = .returned (.slice (some ⟨w.heap.size, 0, none⟩) 0 0) ∧ Blk w' w.heap.size 29 [] ∧ Below w.heap.size w w' := by
  obtain ⟨i0, hi, hz0, hz1, hz2⟩ := info_parts Talg.info29
  have hd : decide ((lim : Int) < 0) = false := by simp
  go_enter Talg.func19, Talg.ntmps19
  go_wp2_with (first | (at_make; refine wpList_make_full _ rfl _ _ 42 rfl w.heap.size 29 i0 (.float .f64 0) 1 Talg.underlying42 hi hz0 hz1 _ _ _ _ 0 rfl rfl (by rfl) (by rfl) (by rw [hz2]; omega) (by unfold maxLen; omega) (Nat.le_refl _) ?_; intro w1 hown hgrow))
  have hW1 := made_blk hown
  clear hown
  obtain ⟨cs, hB, hcl⟩ := hW1
  obtain rfl : cs = [] := List.eq_nil_of_length_eq_zero hcl
  have HBel := hide ((Below.refl w.heap.size w).grown hgrow (Nat.le_refl _) (fun k h => by cases h))
  have HB := hide hB
  clear hgrow hB
  go_wp2
  refine wp_loop_rounds 1 ?_
  rw [rounds_succ]
  go_wp2
  go_ret
  exact ⟨rfl, HB.out, HBel.out⟩

/-- What is told of a slice of integers that came in. -/
def IsRow (k : IntKind) (w : World) (a : Option Addr) (len cap : Nat) (zs : List Int) : Prop :=
  (a = none ∧ len = 0 ∧ cap = 0 ∧ zs = []) ∨
  ∃ x, a = some x ∧ len ≤ cap ∧ cap ≤ maxLen ∧ zs.length = cap ∧ (∀ i, i < zs.length → w.cell? (x.add i) = some (.int k (zs.getD i 0))) ∧ ∀ n ∈ zs, (Lit.int k n).wf = true

theorem addr_add (b off i : Nat) : (⟨b, off, none⟩ : Addr).add i = ⟨b, off + i, none⟩ := by
  by_cases h : i = 0 <;> simp [Addr.add, h]
theorem min_zero (n : Nat) : min 0 n = 0 := by omega
theorem floats_any (a : Option Addr) (len cap lim : Nat) (zs : List Int) (w : World) (h : IsRow .u64 w a len cap zs) (h0 : 0 < lim) (hlim : lim ≤ 1025) :
    Calls Talg.prog 19 #[.slice a len cap, .int .i64 lim] w fun e w' =>
      e = .returned (.slice (some ⟨w.heap.size, 0, none⟩) (min len lim) (min len lim)) ∧ Blk w' w.heap.size 29 ((wordsOf zs (min len lim)).map (.float .f64)) ∧ Below w.heap.size w w' := by
  by_cases hl : len = 0
  · subst hl
    rw [min_zero]
    exact floats_nil a cap lim w hlim
  · rcases h with ⟨rfl, rfl, _, _⟩ | ⟨x, rfl, h1, h2, h3, h4, h5⟩
    · exact absurd rfl hl
    · obtain ⟨b, off, spot⟩ := x
      have hspot : spot = none := by simpa [Addr.add] using World.cell?_spot (h4 0 (by omega))
      subst hspot
      have hc : ∀ i, i < zs.length → w.cell? ⟨b, off + i, none⟩ = some (.int .u64 (zs.getD i 0)) := fun i hi => by rw [← h4 i hi, addr_add]
      have hbw : b < w.heap.size := by
        have := hc 0 (by omega)
        simp only [World.cell?] at this
        refine Decidable.byContradiction fun hn => ?_
        rw [Array.getElem?_eq_none (by omega)] at this
        cases this
      by_cases hgt : lim < len
      · rw [Nat.min_eq_right (by omega)]
        exact floats_long b off len cap lim zs w h0 hgt h1 h2 hlim (by omega) hbw hc
      · rw [Nat.min_eq_left (by omega)]
        exact floats_short b off len cap lim zs w (by omega) (by omega) hlim (by omega) hbw hc
/-- The words are words. -/
theorem words_wds {k : Nat} {zs : List Int} (h : ∀ n ∈ zs, (Lit.int .u64 n).wf = true) : Wds (wordsOf zs k) := by
  intro i hi
  have hm : (wordsOf zs k).getD i 0 ∈ wordsOf zs k := by rw [List.getD_eq_getElem?_getD, List.getElem?_eq_getElem hi]; exact List.getElem_mem hi
  unfold wordsOf at hm
  rw [List.mem_map] at hm
  obtain ⟨z, hz, he⟩ := hm
  have := h z (List.mem_of_mem_take hz)
  unfold wordsOf
  rw [← he]
  simp [Lit.wf, IntKind.min, IntKind.max, IntKind.bits, IntKind.signed] at this
  omega
theorem IsRow.wf {k : IntKind} {w : World} {a : Option Addr} {len cap : Nat} {zs : List Int} (h : IsRow k w a len cap zs) : ∀ n ∈ zs, (Lit.int k n).wf = true := by
  rcases h with ⟨_, _, _, rfl⟩ | ⟨x, _, _, _, _, _, h⟩
  · intro n hn; cases hn
  · exact h
theorem IsRow.len {k : IntKind} {w : World} {a : Option Addr} {len cap : Nat} {zs : List Int} (h : IsRow k w a len cap zs) (n : Nat) : (wordsOf zs (min len n)).length = min len n := by
  unfold wordsOf
  rcases h with ⟨_, rfl, _, rfl⟩ | ⟨x, _, h1, _, h2, _, _⟩
  · simp
  · simp; omega
/-- The floats' row, out of its block. -/
theorem Blk.fr {w : World} {g : Nat} {e : TypeId} {fs : List Nat} (h : Blk w g e (fs.map (.float .f64))) : FR w g 0 fs := by
  intro i hi
  rw [Nat.zero_add, h.cell]
  simp [List.getD_eq_getElem?_getD, List.getElem?_eq_getElem hi]
theorem FR.take {w : World} {b off : Nat} {fs : List Nat} (h : FR w b off fs) (k : Nat) : FR w b off (fs.take k) := by
  intro i hi
  have hi' : i < k ∧ i < fs.length := by simp at hi; omega
  have := h i hi'.2
  rw [this, List.getD_eq_getElem?_getD, List.getD_eq_getElem?_getD, List.getElem?_take, if_pos hi'.1]
theorem FR.drop {w : World} {b off : Nat} {fs : List Nat} (h : FR w b off fs) (k : Nat) : FR w b (off + k) (fs.drop k) := by
  intro i hi
  have hi' : k + i < fs.length := by simp at hi; omega
  have := h (k + i) hi'
  rw [Nat.add_assoc, this, List.getD_eq_getElem?_getD, List.getD_eq_getElem?_getD, List.getElem?_drop]
theorem Wds.take {fs : List Nat} (h : Wds fs) (k : Nat) : Wds (fs.take k) := by
  intro i hi
  have hi' : i < k ∧ i < fs.length := by simp at hi; omega
  have := h i hi'.2
  rwa [List.getD_eq_getElem?_getD, List.getElem?_take, if_pos hi'.1, ← List.getD_eq_getElem?_getD]
theorem Wds.drop {fs : List Nat} (h : Wds fs) (k : Nat) : Wds (fs.drop k) := by
  intro i hi
  have hi' : k + i < fs.length := by simp at hi; omega
  have := h (k + i) hi'
  rwa [List.getD_eq_getElem?_getD, List.getElem?_drop, ← List.getD_eq_getElem?_getD]
end Go.Proofs.Ygctal
