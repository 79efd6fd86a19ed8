import Derived.Test.YgctalSa
import Derived.Test.YgctalTd
namespace Fl
theorem tab_pre (k b i : Nat) (hi : i < 2 ^ b) : ∀ d, (tabL k (b + d)).getD i (0, 0) = (tabL k b).getD i (0, 0)
  | 0 => rfl
  | d + 1 => by
    rw [show b + (d + 1) = (b + d) + 1 from by omega, show tabL k ((b + d) + 1) = tabL k (b + d) ++ (tabL k (b + d)).map fun z => cmul z (rootOf (k - (b + d))) from rfl, getD_app, tabL_length, if_pos]
    · exact tab_pre k b i hi d
    · exact Nat.lt_of_lt_of_le hi (Nat.pow_le_pow_right (by omega) (by omega))
theorem rt_at (k b i : Nat) (hb : b ≤ k - 1) (hi : i < 2 ^ b) : rt k i = (tabL k b).getD i (0, 0) := by
  unfold rt
  rw [show k - 1 = b + (k - 1 - b) from by omega]
  exact tab_pre k b i hi _
theorem rt_zero (k : Nat) : rt k 0 = (4607182418800017408, 0) := by rw [rt_at k 0 0 (by omega) (by omega)]; rfl
theorem rt_step (k b j : Nat) (hb : b + 1 ≤ k - 1) (hj : j < 2 ^ b) : rt k (2 ^ b + j) = cmul (rt k j) (rootOf (k - b)) := by
  rw [rt_at k (b + 1) (2 ^ b + j) hb (by rw [Nat.pow_succ]; omega), rt_at k b j (by omega) hj]
  rw [show tabL k (b + 1) = tabL k b ++ (tabL k b).map fun z => cmul z (rootOf (k - b)) from rfl, getD_app, tabL_length, if_neg (by omega), getD_map' _ _ _ (0, 0) _ (by rw [tabL_length]; omega), Nat.add_sub_cancel_left]
theorem root_all : rootTab.all (fun z => smB z.1 && smB z.2) = true := by decide +kernel
theorem root_sm (t : Nat) (h : t < 12) : Sm 1024 (rootOf t).1 ∧ Sm 1024 (rootOf t).2 := by
  have := List.all_eq_true.1 root_all (rootOf t) (by
    unfold rootOf
    rw [List.getD_eq_getElem?_getD, List.getElem?_eq_getElem (show t < rootTab.length from h)]
    exact List.getElem_mem _)
  simp only [Bool.and_eq_true] at this
  exact ⟨smB_sm this.1, smB_sm this.2⟩
end Fl
namespace Go.Proofs.Ygctal
open Go.RowKit
set_option maxHeartbeats 2000000
set_option linter.unusedVariables false
set_option linter.unusedSimpArgs false
attribute [local go_sem] run_store_complex

/-! Table. -/
def cplx (z : Nat × Nat) : Value := .complex .f64 z.1 z.2
theorem Talg.infoC : (Talg.prog.info? 28).map (fun i => (i.zero, i.size, i.bytes)) = some (some (.complex .f64 0 0), 1, 16) := by kernel_rfl
theorem root_base (t : Nat) : baseOf t = Fl.rootOf t := rfl
/-- The first n entries are laid. -/
def TabTo (k n : Nat) (cs : List Value) : Prop := ∀ i, i < n → cs[i]? = some (cplx (Fl.rt k i))
theorem TabTo.set {k n : Nat} {cs : List Value} (h : TabTo k n cs) (hn : n < cs.length) : TabTo k (n + 1) (cs.set n (cplx (Fl.rt k n))) := by
  intro i hi
  by_cases e : i = n
  · subst e; simp [hn]
  · rw [List.getElem?_set_ne (by omega)]; exact h i (by omega)
def TabRow (w : World) (g k : Nat) : Prop := ∃ cs, Blk w g 28 cs ∧ cs.length = p2 (k - 1) ∧ TabTo k (p2 (k - 1)) cs
set_option maxRecDepth 100000 in
theorem table_any (k : Nat) (h1 : 1 ≤ k) (h11 : k ≤ 11) (w : World) :
    Calls Talg.prog 13 #[.int .u8 (k : Int)] w fun e w' => e = .returned (.slice (some ⟨w.heap.size, 0, none⟩) (p2 (k - 1)) (p2 (k - 1))) ∧ TabRow w' w.heap.size k ∧ Below w.heap.size w w' := by
  obtain ⟨i0, hi, hz0, hz1, hz2⟩ := info_parts Talg.infoC
  have hn := p2_le (show k - 1 ≤ 10 by omega)
  rw [show p2 10 = 1024 from rfl] at hn
  have hn0 := p2_pos (k - 1)
  have hs := shl_p2 (k - 1) (by omega)
  have hd1 : decide ((k : Int) < 1) = false := by simp; omega
  have hd2 : decide ((11 : Int) < k) = false := by simp; omega
  have hk1 : IntKind.u8.wrap ((k : Int) - 1) = ((k - 1 : Nat) : Int) := by rw [IntKind.wrap_u8]; omega
  have hk2 : (k : Int) - 1 = ((k - 1 : Nat) : Int) := by omega
  have hjl : (0 : Int) < ((p2 (k - 1) : Nat) : Int) := by omega
  go_enter Talg.func13, Talg.ntmps13
  go_wp2_with (first | (at_make; refine wpList_make_full _ rfl _ _ 25 rfl w.heap.size 28 i0 (.complex .f64 0 0) 1 Talg.underlying25 hi hz0 hz1 _ _ _ _ (p2 (k - 1)) rfl rfl (by first | rfl | omega) (by first | rfl | omega) (by rw [hz2]; omega) (by unfold maxLen; omega) (Nat.le_refl _) ?_; intro w1 hown hgrow; obtain ⟨cs, hB0, hcl⟩ := made_blk hown; clear hown; have HB := hide hB0; have hfree := hB0.free 0; have hv0 : ∃ v0, w1.cell? ⟨w.heap.size, 0, none⟩ = some v0 := ⟨cs[0]'(by omega), by rw [hB0.cell]; simp⟩; obtain ⟨v0, hv0⟩ := hv0; have HGr := hide hgrow; clear hgrow hB0))
  have hB := HB.out
  have hbel : Below w.heap.size w w1 := (Below.refl _ _).grown HGr.out (Nat.le_refl _) (fun k h => by cases h)
  have HS := hide (hB.set 0 (cplx (Fl.rt k 0)))
  have HT := hide (TabTo.set (k := k) (n := 0) (cs := cs) (fun i hi => by omega) (by omega))
  have HBel := hide (hbel.setCell (p := ⟨w.heap.size, 0, none⟩) (Nat.le_refl _) (cplx (Fl.rt k 0)))
  rw [Fl.rt_zero] at HS HT HBel
  unfold cplx at HS HBel
  clear hB hbel HB HGr
  generalize w1.setCell ⟨w.heap.size, 0, none⟩ (.complex .f64 4607182418800017408 0) = w2 at HS HBel ⊢
  have hcl2 : (cs.set 0 (cplx (4607182418800017408, 0))).length = p2 (k - 1) := by simpa using hcl
  have HR := hide (show ∃ cs, Blk w2 w.heap.size 28 cs ∧ cs.length = p2 (k - 1) ∧ TabTo k (p2 0) cs from ⟨_, HS.out, hcl2, HT.out⟩)
  clear hv0 v0 HS HT hcl hcl2 hfree cs hs
  go_loopw [5] (fun i wr => ∃ b : Nat, b ≤ k - 1 ∧ i = .int .u8 b ∧ Hid (∃ cs, Blk wr w.heap.size 28 cs ∧ cs.length = p2 (k - 1) ∧ TabTo k (p2 b) cs) ∧ Hid (Below w.heap.size w wr)) (fun i _ => k - (intOf i).toNat)
  case atStart => exact ⟨0, by omega, rfl, HR, HBel⟩
  case round =>
    clear HR HBel
    obtain ⟨b, hb, rfl, HR, HBel⟩ := hrel
    have e1 : IntKind.u8.wrap ((b : Int) + 1) = ((b + 1 : Nat) : Int) := by rw [IntKind.wrap_u8]; omega
    have e2 : IntKind.u8.wrap ((k : Int) - b) = ((k - b : Nat) : Int) := by rw [IntKind.wrap_u8]; omega
    by_cases hlt : b + 1 ≤ k - 1
    · have hs := shl_p2 b (by omega)
      have hd3 : decide (((b + 1 : Nat) : Int) < k) = true := by simp; omega
      have HBs := hide (fun wx => base_any (k - b) (by omega) wx)
      have hpp : p2 (b + 1) ≤ p2 (k - 1) := p2_le hlt
      rw [p2_succ] at hpp
      go_wp2_with fail
      refine (HBs.out _).mono ?_
      rintro e wx ⟨rfl, hwx⟩
      subst wx
      rw [root_base]
      clear HBs
      go_wp2_with fail
      have HR2 := hide (show ∃ cs, Blk wr w.heap.size 28 cs ∧ cs.length = p2 (k - 1) ∧ TabTo k (p2 b + 0) cs from HR.out)
      go_loopw [8] (fun i wx => ∃ j : Nat, j ≤ p2 b ∧ i = .int .i64 j ∧ Hid (∃ cs, Blk wx w.heap.size 28 cs ∧ cs.length = p2 (k - 1) ∧ TabTo k (p2 b + j) cs) ∧ Hid (Below w.heap.size w wx)) (fun i _ => p2 b - (intOf i).toNat)
      case atStart => exact ⟨0, by omega, rfl, HR2, HBel⟩
      case round =>
        clear HR HR2 HBel
        obtain ⟨j, hj, rfl, HR, HBel⟩ := hrel
        obtain ⟨cs, hB, hcl, hto⟩ := HR.out
        by_cases hlj : j < p2 b
        · have hc := (hB.cell j).trans (hto j (by omega))
          unfold cplx at hc
          have hfree := hB.free (p2 b + j)
          obtain ⟨v0, hv0⟩ : ∃ v0, wr.cell? ⟨w.heap.size, p2 b + j, none⟩ = some v0 := ⟨cs[p2 b + j]'(by omega), by rw [hB.cell]; simp⟩
          have hok := Fl.rt_ok k j h1 h11 (by show j < p2 (k - 1); omega)
          have hrs := Fl.root_sm (k - b) (by omega)
          have HM := hide (Mul_any (Fl.rt k j) (Fl.rootOf (k - b)) (hok.1.mono (by omega)) (hok.2.1.mono (by omega)) hrs.1 hrs.2 wr)
          rw [← Fl.rt_step k b j hlt hlj] at HM
          rw [show 2 ^ b = p2 b from rfl] at HM
          have HS := hide (hB.set (p2 b + j) (cplx (Fl.rt k (p2 b + j))))
          have HTo := hide (hto.set (by omega))
          have HBel2 := hide (HBel.out.setCell (p := ⟨w.heap.size, p2 b + j, none⟩) (Nat.le_refl _) (cplx (Fl.rt k (p2 b + j))))
          unfold cplx at HS HBel2
          clear hB hto hok hrs HR HBel
          generalize Fl.rt k j = z at *
          generalize Fl.rt k (p2 b + j) = zz at *
          generalize Fl.rootOf (k - b) = y at *
          go_wp2_with fail
          refine (Hid.out HM).mono ?_
          rintro e wx ⟨rfl, hwx⟩
          subst wx
          go_wp2_with fail
          go_roundw
          case rel => exact ⟨j + 1, by omega, by go_num, hide ⟨_, HS.out, by simpa using hcl, by rw [← Nat.add_assoc]; exact HTo.out⟩, HBel2⟩
          case measure => simp [intOf]; omega
        · obtain rfl : j = p2 b := by omega
          clear hB hto
          go_wp2_with fail
          go_roundw
          case rel =>
            have HR3 := HR.out
            rw [show p2 b + p2 b = p2 (b + 1) from by rw [p2_succ]; omega] at HR3
            exact ⟨b + 1, hlt, by first | rfl | go_num, hide HR3, HBel⟩
          case measure => simp [intOf]; omega
    · obtain rfl : b = k - 1 := by omega
      have hd3 : decide (((k - 1 + 1 : Nat) : Int) < k) = false := by simp; omega
      go_wp2_with fail
      go_ret
      exact ⟨rfl, HR.out, HBel.out⟩
end Go.Proofs.Ygctal
