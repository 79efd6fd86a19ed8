import Derived.Test.YgctalSc
namespace Go.Proofs.Ygctal
open Go.RowKit
set_option maxHeartbeats 4000000
set_option linter.unusedVariables false
set_option linter.unusedSimpArgs false

/-! Shl by 32 of one word. -/
def one68 (x y : Nat) : List Nat := x :: y :: List.replicate 66 0
theorem one68_len (x y : Nat) : (one68 x y).length = 68 := by simp [one68]
theorem one68_get (x y : Nat) {i : Nat} (h : 2 ≤ i) : (one68 x y).getD i 0 = 0 := by
  match i, h with
  | n + 2, _ =>
    show (List.replicate 66 0).getD n 0 = 0
    rw [List.getD_eq_getElem?_getD, List.getElem?_replicate]
    split <;> rfl
theorem one68_get1 (x n : Nat) : (one68 x 0).getD (n + 1) 0 = 0 := by
  match n with
  | 0 => rfl
  | n + 1 => exact one68_get x 0 (by omega)
theorem set_same {l : List Nat} {i v : Nat} (h : i < l.length) (e : l.getD i 0 = v) : l.set i v = l := by
  refine List.ext_getElem? fun j => ?_
  by_cases hj : j = i
  · subst hj
    rw [List.getD_eq_getElem?_getD, List.getElem?_eq_getElem h] at e
    simp at e
    simp [h, e]
  · rw [List.getElem?_set_ne (by omega)]
/-- The words while the shift runs down: word n-1 is next. -/
def shlAt (m : Nat) : Nat → List Nat
  | 0 => one68 (m * 4294967296 % 18446744073709551616) (m / 4294967296)
  | 1 => one68 m (m / 4294967296)
  | _ + 2 => one68 m 0
theorem or_zero_u64 (n : Nat) (h : n < 18446744073709551616) : bits .or .u64 0 (n : Int) = (n : Int) := by
  have := bits_or_u64_nat 0 n (by omega) h
  simpa using this
theorem shl32_any (g T m : Nat) (hm : m < 18446744073709551616) (w : World) (hA : AccB w g T (one68 m 0)) :
    Calls Talg.prog 36 #[.pointer (some ⟨g, 0, none⟩), .int .u16 32] w fun e w' => e = .returned (.tuple #[]) ∧ AccB w' g T (shlAt m 0) ∧ w.grownBy w' (some g) := by
  have HA := hide hA
  clear hA
  go_enter Talg.func36, Talg.ntmps36
  go_wp2
  go_loopw [6] (fun jj wr => ∃ n : Nat, n ≤ 68 ∧ jj = .int .i64 ((n : Int) - 1) ∧ Hid (AccB wr g T (shlAt m n) ∧ w.grownBy wr (some g))) (fun jj _ => (intOf jj + 1).toNat)
  case atStart => exact ⟨68, by omega, rfl, HA.out, gb_refl _ _⟩
  case round =>
    obtain ⟨n, hn, rfl, HG⟩ := hrel
    match n, hn, HG with
    | 0, _, HG =>
      go_wp2
      go_end0
      exact ⟨rfl, HG.out.1, HG.out.2⟩
    | 1, _, HG =>
      have hc := HG.out.1.cell (j := 0) (by rw [shlAt, one68_len]; omega)
      rw [show (shlAt m 1).getD 0 0 = m from rfl] at hc
      have hf := HG.out.1.free 0
      have e1 : IntKind.u64.wrap ((m : Int) * 4294967296) = ((m * 4294967296 % 18446744073709551616 : Nat) : Int) := by rw [IntKind.wrap_u64]; omega
      have HS := hide (HG.out.1.set 0 (m * 4294967296 % 18446744073709551616))
      have HN := hide (gb_trans HG.out.2 (gb_setCell wr g 0 (.int .u64 ((m * 4294967296 % 18446744073709551616 : Nat) : Int))))
      clear HG
      generalize hq : m * 4294967296 % 18446744073709551616 = q at *
      have HQ := hide hq
      clear hq
      go_wp2
      go_roundw
      case rel => exact ⟨0, by omega, rfl, by rw [show shlAt m 0 = (shlAt m 1).set 0 q from by rw [← HQ.out]; rfl]; exact HS.out, HN.out⟩
      case measure => simp [intOf]
    | 2, _, HG =>
      have hc := HG.out.1.cell (j := 1) (by rw [shlAt, one68_len]; omega)
      rw [show (shlAt m 2).getD 1 0 = 0 from rfl] at hc
      have hc0 := HG.out.1.cell (j := 0) (by rw [shlAt, one68_len]; omega)
      rw [show (shlAt m 2).getD 0 0 = m from rfl] at hc0
      have hf := HG.out.1.free 1
      have e1 : bits .or .u64 0 ((m : Int) / 4294967296) = ((m / 4294967296 : Nat) : Int) := or_zero_u64 (m / 4294967296) (by omega)
      have HS := hide (HG.out.1.set 1 (m / 4294967296))
      have HN := hide (gb_trans HG.out.2 (gb_setCell wr g 1 (.int .u64 ((m / 4294967296 : Nat) : Int))))
      clear HG
      generalize hq : m / 4294967296 = q at *
      have HQ := hide hq
      clear hq
      go_wp2
      go_roundw
      case rel => exact ⟨1, by omega, rfl, by rw [show shlAt m 1 = (shlAt m 2).set 1 q from by rw [← HQ.out]; rfl]; exact HS.out, HN.out⟩
      case measure => simp [intOf]
    | n + 3, hn, HG =>
      have hc := HG.out.1.cell (j := n + 2) (by rw [shlAt, one68_len]; omega)
      rw [show (shlAt m (n + 3)).getD (n + 2) 0 = 0 from one68_get _ _ (by omega)] at hc
      have hc0 : wr.cell? ⟨g, n + 1, none⟩ = some (.int .u64 (((one68 m 0).getD (n + 1) 0 : Nat) : Int)) := HG.out.1.cell (j := n + 1) (by rw [shlAt, one68_len]; omega)
      rw [one68_get1] at hc0
      have hf := HG.out.1.free (n + 2)
      have e1 : bits .or .u64 0 0 = 0 := by decide
      have HS := hide (HG.out.1.set (n + 2) 0)
      have HN := hide (gb_trans HG.out.2 (gb_setCell wr g (n + 2) (.int .u64 ((0 : Nat) : Int))))
      clear HG
      go_wp2
      go_roundw
      case rel => exact ⟨n + 2, by omega, by go_num, by rw [show shlAt m (n + 2) = (shlAt m (n + 3)).set (n + 2) 0 from (set_same (l := one68 m 0) (by rw [one68_len]; omega) (one68_get _ _ (by omega))).symm]; exact HS.out, HN.out⟩
      case measure => simp [intOf]; omega

/-! units. -/
theorem zset_one (m : Nat) : Talg.zeroCells31.setIfInBounds 0 (.int .u64 (m : Int)) = accArr (one68 m 0) := by kernel_rfl
theorem zset_two (m n : Nat) : (Talg.zeroCells31.setIfInBounds 0 (.int .u64 (m : Int))).setIfInBounds 1 (.int .u64 (n : Int)) = accArr (one68 m n) := by kernel_rfl
theorem accV_rep : ∀ n, Ac.accV (List.replicate n 0) = 0
  | 0 => rfl
  | n + 1 => by rw [List.replicate_succ]; show 0 + Ac.W * Ac.accV _ = 0; rw [accV_rep n, Nat.mul_zero]
theorem one68_V (x y : Nat) : Ac.accV (one68 x y) = x + Ac.W * y := by
  show x + Ac.W * (y + Ac.W * Ac.accV (List.replicate 66 0)) = _
  rw [accV_rep, Nat.mul_zero, Nat.add_zero]
theorem W68 : 340282366920938463463374607431768211456 < Ac.W ^ 68 := by decide
theorem one68_acc (x y : Nat) (hx : x < 18446744073709551616) (hy : y < 18446744073709551616) : AccOf (one68 x y) ((x + 18446744073709551616 * y : Nat) : Int) := by
  refine ⟨one68_len x y, ?_, ?_⟩
  · intro v hv
    unfold one68 at hv
    simp only [List.mem_cons] at hv
    rcases hv with rfl | rfl | hv
    · exact hx
    · exact hy
    · rw [List.eq_of_mem_replicate hv]; decide
  · rw [one68_V]
    have := W68
    show ((x + 18446744073709551616 * y : Nat) : Int) = _
    generalize Ac.W ^ 68 = P at *
    exact (Int.emod_eq_of_lt (by omega) (by omega)).symm
theorem acc_one (x : Nat) (hx : x < 18446744073709551616) : AccOf (one68 x 0) (x : Int) := by
  have := one68_acc x 0 hx (by omega)
  simpa using this
theorem shl_acc (m : Nat) (hm : m < 18446744073709551616) : AccOf (shlAt m 0) ((m * 4294967296 : Nat) : Int) := by
  have := one68_acc (m * 4294967296 % 18446744073709551616) (m / 4294967296) (by omega) (by omega)
  rwa [show m * 4294967296 % 18446744073709551616 + 18446744073709551616 * (m / 4294967296) = m * 4294967296 from by omega] at this
set_option maxRecDepth 100000 in
theorem units_any (m : Nat) (hm : m < 18446744073709551616) (w : World) :
    Calls Talg.prog 46 #[.int .u64 (m : Int), .int .u16 32] w fun e w' => ∃ a, e = .returned (.agg (accArr a)) ∧ AccOf a ((m * 4294967296 : Nat) + 1 : Int) ∧ Below w.heap.size w w' := by
  have b1 := zset_one m
  have b2 : Talg.zeroCells31.setIfInBounds 0 (.int .u64 1) = accArr (one68 1 0) := zset_one 1
  have H4 := hide ((AccB.new w).alloc (.cells Talg.zeroCells31 31))
  have hB1 := AccB.new (w.alloc (.cells Talg.zeroCells31 31))
  rw [show (w.alloc (.cells Talg.zeroCells31 31)).heap.size = w.heap.size + 1 from by simp] at hB1
  have H5 := hide hB1
  have HBel := hide (((Below.refl w.heap.size w).alloc (Nat.le_refl _) (.cells Talg.zeroCells31 31)).alloc (by simp) (.cells Talg.zeroCells31 31))
  clear hB1
  go_enter Talg.func46, Talg.ntmps46
  go_wp2_with (refine wpList_store_row rfl 31 _ _ rfl (w.heap.size + 1) (accArr (one68 m 0)) rfl rfl 31 (accArr zeros68) H5.out.heap (by rw [accArr_size, one68_len]; exact acc_info) (by rw [accArr_size, accArr_size, one68_len]; rfl) (accArr_one _) ?_)
  have K4 := hide (H4.out.grown (gb_setRow _ (w.heap.size + 1) (accArr (one68 m 0))) (by simp))
  have K5 := hide (H5.out.setRow (one68 m 0))
  have KB := hide (HBel.out.grown (gb_setRow _ (w.heap.size + 1) (accArr (one68 m 0))) HBel.out.size (fun q hq => by simp at hq; omega))
  clear H4 H5 HBel
  generalize ((w.alloc (.cells Talg.zeroCells31 31)).alloc (.cells Talg.zeroCells31 31)).setRow (w.heap.size + 1) (accArr (one68 m 0)) = w1 at K4 K5 KB ⊢
  refine (shl32_any (w.heap.size + 1) 31 m hm w1 K5.out).mono ?_
  rintro e w2 ⟨rfl, hA2, hg2⟩
  have L4 := hide ((K4.out.grown hg2 (by simp)).alloc (.cells Talg.zeroCells31 31))
  have L5 := hide (hA2.alloc (.cells Talg.zeroCells31 31))
  have hlt : w.heap.size + 1 < w2.heap.size := Blk.lt hA2
  have LB := hide ((KB.out.grown hg2 KB.out.size (fun q hq => by simp at hq; omega)).alloc (by omega) (.cells Talg.zeroCells31 31))
  have L6 := hide (AccB.new w2)
  clear K4 K5 KB hA2 hg2
  go_wp2_with (refine wpList_store_row rfl 31 _ _ rfl w2.heap.size (accArr (one68 1 0)) rfl rfl 31 (accArr zeros68) L6.out.heap (by rw [accArr_size, one68_len]; exact acc_info) (by rw [accArr_size, accArr_size, one68_len]; rfl) (accArr_one _) ?_)
  have M4 := hide (L4.out.grown (gb_setRow _ w2.heap.size (accArr (one68 1 0))) (by simp; omega))
  have M5 := hide (L5.out.grown (gb_setRow _ w2.heap.size (accArr (one68 1 0))) (by simp; omega))
  have M6 := hide (L6.out.setRow (one68 1 0))
  have MB := hide (LB.out.grown (gb_setRow _ w2.heap.size (accArr (one68 1 0))) LB.out.size (fun q hq => by simp at hq; omega))
  clear L4 L5 L6 LB
  generalize (w2.alloc (.cells Talg.zeroCells31 31)).setRow w2.heap.size (accArr (one68 1 0)) = w3 at M4 M5 M6 MB ⊢
  refine (addAcc_any (w.heap.size + 1) 31 w2.heap.size 31 _ _ _ _ w3 M5.out M6.out (by omega) (shl_acc m hm) (acc_one 1 (by omega))).mono ?_
  rintro e w4 ⟨rfl, a, hA4, hz4, hg4⟩
  have N4 := hide (M4.out.grown hg4 (by simp))
  have N5 := hide hA4
  have NZ := hide hz4
  have NB := hide (MB.out.grown hg4 MB.out.size (fun q hq => by simp at hq; omega))
  clear M4 M5 M6 MB hA4 hz4 hg4
  go_wp2_with (first | (refine wpList_load_row rfl 31 _ rfl (w.heap.size + 1) rfl 31 (accArr a) (0, 0) _ N5.out.heap Talg.underlying31 rfl (by rw [accArr_size, NZ.out.1]; exact acc_info) ?_) | (refine wpList_store_row rfl 31 _ _ rfl w.heap.size (accArr a) rfl rfl 31 (accArr zeros68) N4.out.heap (by rw [accArr_size, NZ.out.1]; exact acc_info) (by rw [accArr_size, accArr_size, NZ.out.1]; rfl) (accArr_one _) ?_))
  have HBn := hide (NB.out.grown (gb_setRow w4 w.heap.size (accArr a)) NB.out.size (fun q hq => by simp at hq; omega))
  exact bodyPost_ret (v := .agg (accArr a)) (results_cell_row Talg.results46 _ _ w.heap.size 31 (accArr a) (0, 0) _ rfl (N4.out.setRow a).heap Talg.underlying31 rfl (by rw [accArr_size, NZ.out.1]; exact acc_info)) rfl ⟨a, rfl, NZ.out, HBn.out⟩
end Go.Proofs.Ygctal
