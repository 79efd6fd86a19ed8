import Derived.Test.YgctalDoorWp
namespace Go.Proofs.YgctalDoor
open Go.RowKit
set_option linter.unusedVariables false

/-! The zero accumulator's cells: the door seat's loader names none of more than 64. -/
def Talg.zeroCells28 : Array Value := (List.replicate 68 (Value.int .u64 0)).toArray
theorem Talg.zeroCells28_size : Talg.zeroCells28.size = 68 := by kernel_rfl
@[simp] theorem Talg.zeroCells28_ne : Talg.zeroCells28 ≠ #[] := by
  intro h
  have := congrArg Array.size h
  rw [Talg.zeroCells28_size] at this
  exact absurd this (by decide)
@[go_sem] theorem Talg.zeroValue28 (w : World) : (zeroValue 28).run Talg.prog w = .ok (.agg Talg.zeroCells28) w := by kernel_rfl
end Go.Proofs.YgctalDoor
