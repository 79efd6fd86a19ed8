/-
  NARROWER THAN 'FOR EVERY INPUT', by the rows' own cells (each row's printed sentence says how): FsumRight: laid · ExactForgetsOrder: laid · RefusalsAgree: laid.
  DERIVED. THE GIVEN ROWS OF THIS SEAT. 3 by the template 'for every input the law returns true; each argument reads behind the call as it read before'; 0 by the template 'total and deterministic' (their statements: YgctalDoorTotals.lean).
  GIVEN WITH THE SEED: the statements are not yours to turn. If you find one false, say at which input.
  Laid BY PROGRAM, IN A SANDBOX (cutbox-rows.mjs): the forced cells as the released guide's own fill.sh prints them over the translation 0d6ab48aa3da8c9d… (all of the seat's roots in one cut). By AI agents, Wed Nov 11 2026. No macro, syntax, notation, axiom, sorry.
-/
import Derived.Test.YgctalDoorChecked
import GoSem.Claim
import GoSem.ClaimJoined
import GoSem.ClaimMapViews
import Derived.JoinedTies
import Derived.KernelRfl
namespace Go.Proofs.YgctalDoor
/- THE CELL 'sum', in the pinned program and in every row, IS THE sha256 OF THE DUMP (.gsa) THAT YgctalDoorProg.lean LOADS. Nothing in Lean hashes anything: it is a label: what it is worth is what the hold of that sum in a sandbox is worth. -/
noncomputable def Talg.pinned : Pinned := { name := "ygctaldoor", sum := "0d6ab48aa3da8c9d797405973a2889f5b42da82c7bfc3369bb0283af12bc68fb", checked := Talg.checked }
namespace Rows
def none {H : Type} : Left H := { results := [], args := [] }

/- WHAT THE LISTED PACKAGE-LEVEL VARIABLES READ AS WHEN THE CALL BEGINS. Each datum BY PROGRAM (the guide's laid-datum.mjs) off the statement by which the dump's own 'gosem.cut.vars' lays the variable. In a bare row this is a premise. The card (YgctalDoorCards.lean) ties it to the program's text. -/
def laid_math_bits_deBruijn64tab {H : Type} : DataW H := .agg [.lit (.int .u8 0), .lit (.int .u8 1), .lit (.int .u8 56), .lit (.int .u8 2), .lit (.int .u8 57), .lit (.int .u8 49), .lit (.int .u8 28), .lit (.int .u8 3), .lit (.int .u8 61), .lit (.int .u8 58), .lit (.int .u8 42), .lit (.int .u8 50), .lit (.int .u8 38), .lit (.int .u8 29), .lit (.int .u8 17), .lit (.int .u8 4), .lit (.int .u8 62), .lit (.int .u8 47), .lit (.int .u8 59), .lit (.int .u8 36), .lit (.int .u8 45), .lit (.int .u8 43), .lit (.int .u8 51), .lit (.int .u8 22), .lit (.int .u8 53), .lit (.int .u8 39), .lit (.int .u8 33), .lit (.int .u8 30), .lit (.int .u8 24), .lit (.int .u8 18), .lit (.int .u8 12), .lit (.int .u8 5), .lit (.int .u8 63), .lit (.int .u8 55), .lit (.int .u8 48), .lit (.int .u8 27), .lit (.int .u8 60), .lit (.int .u8 41), .lit (.int .u8 37), .lit (.int .u8 16), .lit (.int .u8 46), .lit (.int .u8 35), .lit (.int .u8 44), .lit (.int .u8 21), .lit (.int .u8 52), .lit (.int .u8 32), .lit (.int .u8 23), .lit (.int .u8 11), .lit (.int .u8 54), .lit (.int .u8 26), .lit (.int .u8 40), .lit (.int .u8 15), .lit (.int .u8 34), .lit (.int .u8 20), .lit (.int .u8 31), .lit (.int .u8 10), .lit (.int .u8 25), .lit (.int .u8 14), .lit (.int .u8 19), .lit (.int .u8 9), .lit (.int .u8 13), .lit (.int .u8 8), .lit (.int .u8 7), .lit (.int .u8 6)]

/-- 'law.FsumRight': WHATEVER THE INPUT: true; the input reads as it did. -/
def fsumRightSpec : ChangeSpec := { name := "fsumRight", fn := fun _ => fun
  | [d] => { results := [.lit (.bool true)], args := [d] }
  | _ => none }
def fsumRightRow : OpenClaim := { program := "ygctaldoor", sum := "0d6ab48aa3da8c9d797405973a2889f5b42da82c7bfc3369bb0283af12bc68fb", func := "fftlab/law.FsumRight", spec := "fsumRight", inPlace := ["math.Float64frombits", "math.Float64bits", "math/bits.Sub64", "math/bits.Add64"], named := ["math/bits.deBruijn64tab"], apart := false, laid := [("math/bits.deBruijn64tab", laid_math_bits_deBruijn64tab)] }
def FsumRightSaid : Prop := fsumRightRow.holds Talg.pinned (OpenSpec.ofChange fsumRightSpec)

/-- ITS FALSE NEIGHBOUR: 'it returns false'. Refute it at one input. -/
def fsumRightWrong : ChangeSpec := { name := "fsumRight", fn := fun _ => fun
  | [d] => { results := [.lit (.bool false)], args := [d] }
  | _ => none }
def FsumRightWrongFalsely : Prop := fsumRightRow.holds Talg.pinned (OpenSpec.ofChange fsumRightWrong)

/-- 'law.ExactForgetsOrder': WHATEVER THE INPUT: true; the input reads as it did. -/
def exactForgetsOrderSpec : ChangeSpec := { name := "exactForgetsOrder", fn := fun _ => fun
  | [d1, d2, d3] => { results := [.lit (.bool true)], args := [d1, d2, d3] }
  | _ => none }
def exactForgetsOrderRow : OpenClaim := { program := "ygctaldoor", sum := "0d6ab48aa3da8c9d797405973a2889f5b42da82c7bfc3369bb0283af12bc68fb", func := "fftlab/law.ExactForgetsOrder", spec := "exactForgetsOrder", inPlace := ["math.Float64frombits", "math.Float64bits", "math/bits.Sub64", "math/bits.Add64"], named := ["math/bits.deBruijn64tab"], apart := false, laid := [("math/bits.deBruijn64tab", laid_math_bits_deBruijn64tab)] }
def ExactForgetsOrderSaid : Prop := exactForgetsOrderRow.holds Talg.pinned (OpenSpec.ofChange exactForgetsOrderSpec)

/-- ITS FALSE NEIGHBOUR: 'it returns false'. Refute it at one input. -/
def exactForgetsOrderWrong : ChangeSpec := { name := "exactForgetsOrder", fn := fun _ => fun
  | [d1, d2, d3] => { results := [.lit (.bool false)], args := [d1, d2, d3] }
  | _ => none }
def ExactForgetsOrderWrongFalsely : Prop := exactForgetsOrderRow.holds Talg.pinned (OpenSpec.ofChange exactForgetsOrderWrong)

/-- 'law.RefusalsAgree': WHATEVER THE INPUT: true; the input reads as it did. -/
def refusalsAgreeSpec : ChangeSpec := { name := "refusalsAgree", fn := fun _ => fun
  | [d] => { results := [.lit (.bool true)], args := [d] }
  | _ => none }
def refusalsAgreeRow : OpenClaim := { program := "ygctaldoor", sum := "0d6ab48aa3da8c9d797405973a2889f5b42da82c7bfc3369bb0283af12bc68fb", func := "fftlab/law.RefusalsAgree", spec := "refusalsAgree", inPlace := ["math.Float64frombits", "math.Float64bits", "math/bits.Sub64", "math/bits.Add64"], recurses := true, named := ["math/bits.deBruijn64tab"], apart := false, laid := [("math/bits.deBruijn64tab", laid_math_bits_deBruijn64tab)] }
def RefusalsAgreeSaid : Prop := refusalsAgreeRow.holds Talg.pinned (OpenSpec.ofChange refusalsAgreeSpec)

/-- ITS FALSE NEIGHBOUR: 'it returns false'. Refute it at one input. -/
def refusalsAgreeWrong : ChangeSpec := { name := "refusalsAgree", fn := fun _ => fun
  | [d] => { results := [.lit (.bool false)], args := [d] }
  | _ => none }
def RefusalsAgreeWrongFalsely : Prop := refusalsAgreeRow.holds Talg.pinned (OpenSpec.ofChange refusalsAgreeWrong)

end Rows
end Go.Proofs.YgctalDoor
