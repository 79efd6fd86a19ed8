import Derived.Test.YgctalDoorRows
import Derived.Test.YgctalDoorCards
import Derived.Test.YgctalDoorTie
import Derived.Test.YgctalDoorXa
import Derived.WalkKit
import Derived.ProofKit
import Derived.LaidMore
import Derived.OpenShut
import Derived.Stop.Joined
import Derived.SevenTiedAt
import Derived.ChangeOld
import Derived.Below
namespace Go.Proofs.YgctalDoor
open Go.ChangeShapes Go.WideShapes Go.ChangeAt Go.WideMaps Go.WideElems Go.RowKit
set_option linter.unusedVariables false

/-! What the three cards share: the listed table lies in its variable. -/
theorem own : ownKnob Talg.prog.godebug = none := by kernel_rfl
theorem laidOut : laidOutB Talg.prog = true := by kernel_rfl
theorem gTab : Talg.prog.globalNamed (Rows.fsumRightRow.named.headD "") = some 1 := by kernel_rfl
theorem tTab : (Talg.prog.globals[1]?).map (·.type) = some 67 := by kernel_rfl
def laid1 : List (String × DataW Unit) := [(Rows.fsumRightRow.named.headD "", Rows.laid_math_bits_deBruijn64tab)]
set_option maxRecDepth 100000 in
theorem tab_datum : Rows.laid_math_bits_deBruijn64tab (H := Unit) = .agg (Lib.deBruijn64tab.map fun n : Nat => .lit (.int .u8 (n : Int))) := by kernel_rfl
set_option maxRecDepth 100000 in
theorem door_met (os : Os) (args : Array Value) : laidMetH Talg.prog laid1 ((World.doorLaid Talg.prog 400 os).forCall (fun _ _ => 0) ⟨#[], args, []⟩).memory :=
  laidMetH_of_parts3 (fuel := 8) (laidMet_of_run' 8 (by kernel_rfl) (by kernel_rfl)) (by kernel_rfl) (by kernel_rfl)
/-- What the condition gives the walks. -/
theorem tab_of_laid {W : World} (h : laidMetH Talg.prog laid1 W) : Tab W := by
  rw [MakeChecks.laidMetH_plain _ _ _ (by kernel_rfl)] at h
  obtain ⟨ps, ⟨g0, t0, cs0, f0, p0, q0, hg0, ht0, hv0, hd0, _⟩, _, _⟩ := h
  obtain rfl := Option.some.inj (gTab.symm.trans hg0)
  obtain rfl := Option.some.inj (tTab.symm.trans ht0)
  have c5 : Talg.prog.cellsOf 5 = 1 := by kernel_rfl
  have hlen : Lib.deBruijn64tab.length = 64 := by decide
  obtain ⟨xs, m1, rfl, hx1, hcl, hn64, hel⟩ := DataW.trod_array Talg.underlying67 hd0
  rw [tab_datum] at hx1
  simp only [Prod.mk.injEq, DataW.agg.injEq] at hx1
  intro j hj
  rw [World.var?_cell hg0 hv0 j]
  rw [hlen] at hj
  have hej := hel j hj
  rw [c5, Nat.mul_one, List.getElem?_eq_getElem (by omega)] at hej
  obtain ⟨k, e1, e2, _⟩ := DataW.trod_int Talg.underlying5 hej
  have hxj : (xs.map (·.1))[j]? = some (DataW.lit (.int .u8 k)) := by
    rw [List.getElem?_map, List.getElem?_eq_getElem (by omega), e2]; rfl
  rw [← hx1.1, List.getElem?_map, List.getElem?_eq_getElem (by omega)] at hxj
  have hk : ((Lib.deBruijn64tab[j]'(by omega) : Nat) : Int) = k := by simpa using hxj
  have hc : cs0.toList[j]? = some (.int .u8 k) := by
    have := congrArg (fun l => l[0]?) e1
    simpa [List.getElem?_take, List.getElem?_drop] using this
  rw [← Array.getElem?_toList, hc, List.getD_eq_getElem?_getD, List.getElem?_eq_getElem (by omega), ← hk]
  rfl
end Go.Proofs.YgctalDoor
