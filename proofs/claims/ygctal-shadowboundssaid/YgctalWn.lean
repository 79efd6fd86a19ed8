import Derived.Test.YgctalWh
import Derived.Test.YgctalAc1
import Derived.Deep.QuietTactic
import Derived.BigQuiet
import Derived.Deep.RegionWith
namespace Go.Proofs.Ygctal
open Go.RowKit
set_option maxHeartbeats 1000000
set_option linter.unusedVariables false

/-! bits.Add64, bits.Sub64. -/
def addS (x y c : Nat) : Nat := (x + y + c) % 18446744073709551616
def addC (x y c : Nat) : Nat := (x + y + c) / 18446744073709551616
def subS (x y c : Nat) : Nat := (x + 18446744073709551616 - y - c) % 18446744073709551616
def subC (x y c : Nat) : Nat := if x < y + c then 1 else 0
theorem run_Add64 (x y c : Nat) (hc : c ≤ 1) (w : World) : (callFunc 72 #[.int .u64 x, .int .u64 y, .int .u64 c]).run Talg.prog w = .ok (.value (.tuple #[.int .u64 (addS x y c), .int .u64 (addC x y c)])) w := by
  rw [run_callFunc_extern (e := add64Entry) Talg.func72 (by kernel_rfl) (by kernel_rfl) (by kernel_rfl) (by kernel_rfl),
    run_add64 x y c (by omega) (by omega) (by omega) (by omega)]
  unfold addS addC
  simp
theorem add_any (x y c : Nat) (hc : c ≤ 1) (w : World) : Calls Talg.prog 51 #[.int .u64 x, .int .u64 y, .int .u64 c] w fun e w' => e = .returned (.tuple #[.int .u64 (addS x y c), .int .u64 (addC x y c)]) ∧ w' = w := by
  have h := run_Add64 x y c hc
  go_enter Talg.func51, Talg.ntmps51
  go_wp2
  go_ret2
  exact ⟨rfl, rfl⟩
theorem add_any0 (x y : Nat) (w : World) : Calls Talg.prog 51 #[.int .u64 x, .int .u64 y, .int .u64 0] w fun e w' => e = .returned (.tuple #[.int .u64 (addS x y 0), .int .u64 (addC x y 0)]) ∧ w' = w := add_any x y 0 (by omega) w
theorem add_any00 (x c : Nat) (hc : c ≤ 1) (w : World) : Calls Talg.prog 51 #[.int .u64 x, .int .u64 0, .int .u64 c] w fun e w' => e = .returned (.tuple #[.int .u64 (addS x 0 c), .int .u64 (addC x 0 c)]) ∧ w' = w := add_any x 0 c hc w
def sub64Entry : Array Value → Sem Value := fun args => do
  let (x, y, b) ← Extern.MathBitsCarry.three "Sub64" args
  pure (Extern.MathBitsCarry.pair ((x + Extern.MathBitsCarry.m64 - y - b) % Extern.MathBitsCarry.m64) (if x < y + b then 1 else 0))
theorem run_sub64e {P : Program} (x y c : Nat) (hc : c ≤ 1) (w : World) : (sub64Entry #[.int .u64 x, .int .u64 y, .int .u64 c]).run P w = .ok (.tuple #[.int .u64 (subS x y c), .int .u64 (subC x y c)]) w := by
  have : c = 0 ∨ c = 1 := by omega
  rcases this with rfl | rfl <;> rfl
theorem run_Sub64 (x y c : Nat) (hc : c ≤ 1) (w : World) : (callFunc 77 #[.int .u64 x, .int .u64 y, .int .u64 c]).run Talg.prog w = .ok (.value (.tuple #[.int .u64 (subS x y c), .int .u64 (subC x y c)])) w := by
  rw [run_callFunc_extern (e := sub64Entry) Talg.func77 (by kernel_rfl) (by kernel_rfl) (by kernel_rfl) (by kernel_rfl), run_sub64e x y c hc]
  rfl
theorem sub_any (x y c : Nat) (hc : c ≤ 1) (w : World) : Calls Talg.prog 74 #[.int .u64 x, .int .u64 y, .int .u64 c] w fun e w' => e = .returned (.tuple #[.int .u64 (subS x y c), .int .u64 (subC x y c)]) ∧ w' = w := by
  have h := run_Sub64 x y c hc
  go_enter Talg.func74, Talg.ntmps74
  go_wp2
  go_ret2
  exact ⟨rfl, rfl⟩
theorem sub_any0 (x y : Nat) (w : World) : Calls Talg.prog 74 #[.int .u64 x, .int .u64 y, .int .u64 0] w fun e w' => e = .returned (.tuple #[.int .u64 (subS x y 0), .int .u64 (subC x y 0)]) ∧ w' = w := sub_any x y 0 (by omega) w
theorem sub_any00 (x c : Nat) (hc : c ≤ 1) (w : World) : Calls Talg.prog 74 #[.int .u64 x, .int .u64 0, .int .u64 c] w fun e w' => e = .returned (.tuple #[.int .u64 (subS x 0 c), .int .u64 (subC x 0 c)]) ∧ w' = w := sub_any x 0 c hc w
theorem addC_le (x y c : Nat) (hx : x < 18446744073709551616) (hy : y < 18446744073709551616) (hc : c ≤ 1) : addC x y c ≤ 1 := by unfold addC; omega
theorem subC_le (x y c : Nat) : subC x y c ≤ 1 := by unfold subC; split <;> omega
theorem addS_lt (x y c : Nat) : addS x y c < 18446744073709551616 := Nat.mod_lt _ (by decide)
theorem subS_lt (x y c : Nat) : subS x y c < 18446744073709551616 := Nat.mod_lt _ (by decide)


/-! What a call leaves alone: all blocks but one. -/
theorem gb_refl (w : World) (row : Option Nat) : w.grownBy w row := ⟨rfl, rfl, rfl, Nat.le_refl _, fun _ _ _ => rfl⟩
theorem gb_trans {w w1 w2 : World} {row : Option Nat} (h : w.grownBy w1 row) (k : w1.grownBy w2 row) : w.grownBy w2 row :=
  ⟨k.os.trans h.os, k.tape.trans h.tape, k.output.trans h.output, Nat.le_trans h.size k.size, fun i hi hr => (k.block i (Nat.lt_of_lt_of_le hi h.size) hr).trans (h.block i hi hr)⟩
theorem gb_drewN (w : World) (n : Nat) (row : Option Nat) : w.grownBy (w.drewN n) row := ⟨rfl, rfl, rfl, Nat.le_refl _, fun _ _ _ => rfl⟩
theorem gb_setCell (w : World) (g o : Nat) (v : Value) : w.grownBy (w.setCell ⟨g, o, none⟩ v) (some g) :=
  ⟨rfl, rfl, rfl, by simp [World.setCell], fun k _ hk => Below.heap_setCell _ _ _ _ (by simpa using hk)⟩
/-- An accumulator's words in a block. -/
def AccB (w : World) (g T : Nat) (ws : List Nat) : Prop := Blk w g T (ws.map fun n : Nat => Value.int .u64 (n : Int))
theorem AccB.set {w : World} {g T : Nat} {ws : List Nat} (h : AccB w g T ws) (j v : Nat) : AccB (w.setCell ⟨g, j, none⟩ (.int .u64 (v : Int))) g T (ws.set j v) := by
  have := Blk.set h j (.int .u64 (v : Int))
  unfold AccB
  rwa [List.map_set]
theorem AccB.drewN {w : World} {g T : Nat} {ws : List Nat} (h : AccB w g T ws) (n : Nat) : AccB (w.drewN n) g T ws := h
theorem AccB.drew {w : World} {g T : Nat} {ws : List Nat} (h : AccB w g T ws) : AccB w.drew g T ws := h
theorem gb_drew (w : World) (row : Option Nat) : w.grownBy w.drew row := ⟨rfl, rfl, rfl, Nat.le_refl _, fun _ _ _ => rfl⟩
theorem AccB.cell {w : World} {g T : Nat} {ws : List Nat} (h : AccB w g T ws) {j : Nat} (hj : j < ws.length) : w.cell? ⟨g, j, none⟩ = some (.int .u64 ((ws.getD j 0 : Nat) : Int)) := by
  rw [Blk.cell h j]
  simp [List.getD_eq_getElem?_getD, List.getElem?_eq_getElem hj]
theorem AccB.free {w : World} {g T : Nat} {ws : List Nat} (h : AccB w g T ws) (j : Nat) : w.frozen? ⟨g, j, none⟩ = false := Blk.free h j
theorem add_he (x y c : Nat) : (addS x y c : Int) + 1 * ((Ac.W : Int) * (addC x y c : Int)) = (x : Int) + 1 * ((y : Int) + c) := by unfold addS addC Ac.W; omega
theorem sub_he (x y c : Nat) (hx : x < Ac.W) (hy : y < Ac.W) (hc : c ≤ 1) : (subS x y c : Int) + (-1) * ((Ac.W : Int) * (subC x y c : Int)) = (x : Int) + (-1) * ((y : Int) + c) := by
  unfold Ac.W at *
  unfold subS subC
  split <;> omega
/-- The three words that a shifted number takes. -/
theorem place_N (wd sh hi lo p q r : Nat) (hsh : sh < 64) (hlo : lo < Ac.W) (hhi : hi < Ac.W) (hp : p = lo * 2 ^ sh % Ac.W) (hq : q = hi * 2 ^ sh % Ac.W + lo / 2 ^ (64 - sh)) (hr : r = hi / 2 ^ (64 - sh)) :
    ((0 : Int) + (p : Int) * ((Ac.W ^ wd : Nat) : Int) + (q : Int) * ((Ac.W ^ (wd + 1) : Nat) : Int) + (r : Int) * ((Ac.W ^ (wd + 2) : Nat) : Int)) = (((hi * Ac.W + lo) * 2 ^ (64 * wd + sh) : Nat) : Int) := by
  have hW : Ac.W = 2 ^ sh * 2 ^ (64 - sh) := by rw [← Nat.pow_add, show sh + (64 - sh) = 64 from by omega]; rfl
  have dm : ∀ n : Nat, n * 2 ^ sh = Ac.W * (n / 2 ^ (64 - sh)) + n * 2 ^ sh % Ac.W := by
    intro n
    have e : n * 2 ^ sh / Ac.W = n / 2 ^ (64 - sh) := by
      rw [hW, Nat.mul_comm (2 ^ sh), Nat.mul_div_mul_right _ _ (Nat.two_pow_pos sh)]
    rw [← e]
    exact (Nat.div_add_mod _ _).symm
  have e64 : Ac.W ^ wd = 2 ^ (64 * wd) := by rw [show Ac.W = 2 ^ 64 from rfl, ← Nat.pow_mul]
  have key : p + q * Ac.W + r * (Ac.W * Ac.W) = (hi * Ac.W + lo) * 2 ^ sh := by
    have h1 := dm lo
    have h2 := dm hi
    rw [← hp] at h1
    rw [← hr] at h2
    have h3 : q = hi * 2 ^ sh % Ac.W + lo / 2 ^ (64 - sh) := hq
    rw [Nat.add_mul, Nat.mul_right_comm, h1, h2, h3]
    generalize hi * 2 ^ sh % Ac.W = A
    generalize lo / 2 ^ (64 - sh) = B
    rw [Nat.add_mul, Nat.add_mul, Nat.mul_comm Ac.W r, Nat.mul_assoc, Nat.mul_comm Ac.W B]
    omega
  rw [show (hi * Ac.W + lo) * 2 ^ (64 * wd + sh) = ((hi * Ac.W + lo) * 2 ^ sh) * Ac.W ^ wd from by rw [e64, Nat.mul_assoc, ← Nat.pow_add, Nat.add_comm sh], ← key,
    Nat.pow_succ, Nat.pow_succ, Nat.pow_succ]
  generalize Ac.W ^ wd = P
  rw [Int.zero_add, ← Int.natCast_mul, ← Int.natCast_mul, ← Int.natCast_mul, ← Int.natCast_add, ← Int.natCast_add]
  congr 1
  rw [Nat.add_mul, Nat.add_mul, Nat.mul_comm P Ac.W, ← Nat.mul_assoc, Nat.mul_assoc r, Nat.mul_assoc Ac.W P, Nat.mul_comm P Ac.W, ← Nat.mul_assoc Ac.W Ac.W P]
end Go.Proofs.Ygctal
