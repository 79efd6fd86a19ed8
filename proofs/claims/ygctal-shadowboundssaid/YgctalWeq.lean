import Derived.Test.YgctalWq
import Derived.Laws.StructEq
namespace Go.Proofs.Ygctal
open Go.RowKit
set_option maxHeartbeats 2000000
set_option linter.unusedVariables false

/-! == on accumulators. -/
theorem loop_run {P : Program} (p : Nat → Bool) (f : Nat → Option Bool × Unit → Sem (ForInStep (Option Bool × Unit))) (l : List Nat)
    (hf : ∀ i ∈ l, ∀ w, (f i (none, ())).run P w = .ok (if p i then .yield (none, ()) else .done (some false, ())) w) (w : World) :
    (forIn l (none, ()) f).run P w = .ok (if l.all p then (none, ()) else (some false, ())) w := by
  induction l generalizing w with
  | nil => simp
  | cons i l ih =>
    rw [List.forIn_cons]
    simp only [Sem.run_bind]
    rw [hf i List.mem_cons_self]
    cases hp : p i
    · simp [hp]
    · simp [hp]
      have := ih (fun j hj => hf j (List.mem_cons_of_mem _ hj)) w
      simpa using this
theorem acc_get (ws : List Nat) {i : Nat} (h : i < ws.length) : (accArr ws)[i]? = some (.int .u64 ((ws.getD i 0 : Nat) : Int)) := by
  simp [accArr, List.getD_eq_getElem?_getD, List.getElem?_eq_getElem h]
theorem all_range_eq {a b : List Nat} {n : Nat} (ha : a.length = n) (hb : b.length = n) : ((List.range' 0 n).all fun i => a.getD i 0 == b.getD i 0) = decide (a = b) := by
  rw [Bool.eq_iff_iff, List.all_eq_true, decide_eq_true_iff]
  constructor
  · intro h
    refine List.ext_getElem? fun i => ?_
    by_cases hi : i < n
    · have := h i (by simp [List.mem_range']; omega)
      simp only [beq_iff_eq, List.getD_eq_getElem?_getD] at this
      rw [List.getElem?_eq_getElem (by omega), List.getElem?_eq_getElem (by omega)] at this ⊢
      simpa using this
    · rw [List.getElem?_eq_none (by omega), List.getElem?_eq_none (by omega)]
  · rintro rfl i _
    simp
theorem eq_acc (a b : List Nat) (ha : a.length = 68) (hb : b.length = 68) (w : World) : (Op.equalIn 10000 31 (.agg (accArr a)) (.agg (accArr b))).run Talg.prog w = .ok (decide (a = b)) w := by
  have u3 := Talg.underlying23
  have a3 := Talg.isAgg23
  have z3 := Talg.sizeOf23
  rw [show (10000 : Nat) = 9999 + 1 from rfl, Op.equalIn]
  simp only [Sem.run_bind, run_underlying Talg.underlying31, Result.andThen_ok]
  simp only [Std.Legacy.Range.forIn_eq_forIn_range', Std.Legacy.Range.size, Nat.sub_zero, Nat.add_sub_cancel, Nat.div_one]
  go_simp
  rw [loop_run (fun i => a.getD i 0 == b.getD i 0)]
  · rw [all_range_eq ha hb]
    by_cases h : a = b <;> simp [h]
  · intro i hi w
    have hi' : i < 68 := by simp [List.mem_range'] at hi; omega
    have e1 := acc_get a (show i < a.length by omega)
    have e2 := acc_get b (show i < b.length by omega)
    generalize a.getD i 0 = x at *
    generalize b.getD i 0 = y at *
    go_simp
    by_cases h : x = y
    · subst h
      simp
    · have h' : ¬ (x : Int) = (y : Int) := by omega
      simp [h]; exact h'
theorem neq_acc (a b : List Nat) (ha : a.length = 68) (hb : b.length = 68) (w : World) : (binOp .neq 31 (.agg (accArr a)) (.agg (accArr b))).run Talg.prog w = .ok (.bool (!decide (a = b))) w := by
  have h := eq_acc a b ha hb w
  have e : (binOp .neq 31 (.agg (accArr a)) (.agg (accArr b))).run Talg.prog w = ((Op.equalIn 10000 31 (.agg (accArr a)) (.agg (accArr b))).run Talg.prog w).andThen fun b w' => .ok (.bool !b) w' := by
    simp [binOp, Op.equal, Op.maxDepth]
  rw [e, h]
  rfl
end Go.Proofs.Ygctal
