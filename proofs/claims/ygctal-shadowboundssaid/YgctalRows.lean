/-
  No cell of these rows narrows 'for every input' (looked for: loops, veiled, ifaces, maps, wideKeys, modest, calm, conditions, laid).
  DERIVED. THE GIVEN ROWS OF THIS SEAT. 9 by the template 'for every input the law returns true; each argument reads behind the call as it read before'; 0 by the template 'total and deterministic' (their statements: YgctalTotals.lean).
  GIVEN WITH THE SEED: the statements are not yours to turn. If you find one false, say at which input.
  Laid BY PROGRAM, IN A SANDBOX (cutbox-rows.mjs): the forced cells as the released guide's own fill.sh prints them over the translation 8916afc1c70c072a… (all of the seat's roots in one cut). By AI agents, Wed Nov 11 2026. No macro, syntax, notation, axiom, sorry.
-/
import Derived.Test.YgctalChecked
import GoSem.Claim
import GoSem.ClaimJoined
import GoSem.ClaimMapViews
import Derived.JoinedTies
import Derived.KernelRfl
namespace Go.Proofs.Ygctal
/- THE CELL 'sum', in the pinned program and in every row, IS THE sha256 OF THE DUMP (.gsa) THAT YgctalProg.lean LOADS. Nothing in Lean hashes anything: it is a label: what it is worth is what the hold of that sum in a sandbox is worth. -/
noncomputable def Talg.pinned : Pinned := { name := "ygctal", sum := "8916afc1c70c072a2e89f00f5c606fb31b115f5215d651e16b2a54b295da9f57", checked := Talg.checked }
namespace Rows
def none {H : Type} : Left H := { results := [], args := [] }

/-- 'law.ShadowBounds': WHATEVER THE INPUT: true; the input reads as it did. -/
def shadowBoundsSpec : ChangeSpec := { name := "shadowBounds", fn := fun _ => fun
  | [d1, d2, d3] => { results := [.lit (.bool true)], args := [d1, d2, d3] }
  | _ => none }
def shadowBoundsRow : OpenClaim := { program := "ygctal", sum := "8916afc1c70c072a2e89f00f5c606fb31b115f5215d651e16b2a54b295da9f57", func := "fftlab/law.ShadowBounds", spec := "shadowBounds", inPlace := ["math/bits.Add64", "math.Float64bits"], apart := false }
def ShadowBoundsSaid : Prop := shadowBoundsRow.holds Talg.pinned (OpenSpec.ofChange shadowBoundsSpec)

/-- ITS FALSE NEIGHBOUR: 'it returns false'. Refute it at one input. -/
def shadowBoundsWrong : ChangeSpec := { name := "shadowBounds", fn := fun _ => fun
  | [d1, d2, d3] => { results := [.lit (.bool false)], args := [d1, d2, d3] }
  | _ => none }
def ShadowBoundsWrongFalsely : Prop := shadowBoundsRow.holds Talg.pinned (OpenSpec.ofChange shadowBoundsWrong)

/-- 'law.FsumIsGrow': WHATEVER THE INPUT: true; the input reads as it did. -/
def fsumIsGrowSpec : ChangeSpec := { name := "fsumIsGrow", fn := fun _ => fun
  | [d] => { results := [.lit (.bool true)], args := [d] }
  | _ => none }
def fsumIsGrowRow : OpenClaim := { program := "ygctal", sum := "8916afc1c70c072a2e89f00f5c606fb31b115f5215d651e16b2a54b295da9f57", func := "fftlab/law.FsumIsGrow", spec := "fsumIsGrow", inPlace := ["math.Float64frombits", "math.Float64bits"], apart := false }
def FsumIsGrowSaid : Prop := fsumIsGrowRow.holds Talg.pinned (OpenSpec.ofChange fsumIsGrowSpec)

/-- ITS FALSE NEIGHBOUR: 'it returns false'. Refute it at one input. -/
def fsumIsGrowWrong : ChangeSpec := { name := "fsumIsGrow", fn := fun _ => fun
  | [d] => { results := [.lit (.bool false)], args := [d] }
  | _ => none }
def FsumIsGrowWrongFalsely : Prop := fsumIsGrowRow.holds Talg.pinned (OpenSpec.ofChange fsumIsGrowWrong)

/-- 'law.GrowKeeps': WHATEVER THE INPUT: true; the input reads as it did. -/
def growKeepsSpec : ChangeSpec := { name := "growKeeps", fn := fun _ => fun
  | [d] => { results := [.lit (.bool true)], args := [d] }
  | _ => none }
def growKeepsRow : OpenClaim := { program := "ygctal", sum := "8916afc1c70c072a2e89f00f5c606fb31b115f5215d651e16b2a54b295da9f57", func := "fftlab/law.GrowKeeps", spec := "growKeeps", inPlace := ["math.Float64frombits", "math.Float64bits", "math/bits.Sub64", "math/bits.Add64"], apart := false }
def GrowKeepsSaid : Prop := growKeepsRow.holds Talg.pinned (OpenSpec.ofChange growKeepsSpec)

/-- ITS FALSE NEIGHBOUR: 'it returns false'. Refute it at one input. -/
def growKeepsWrong : ChangeSpec := { name := "growKeeps", fn := fun _ => fun
  | [d] => { results := [.lit (.bool false)], args := [d] }
  | _ => none }
def GrowKeepsWrongFalsely : Prop := growKeepsRow.holds Talg.pinned (OpenSpec.ofChange growKeepsWrong)

/-- 'law.NaiveIsFold': WHATEVER THE INPUT: true; the input reads as it did. -/
def naiveIsFoldSpec : ChangeSpec := { name := "naiveIsFold", fn := fun _ => fun
  | [d] => { results := [.lit (.bool true)], args := [d] }
  | _ => none }
def naiveIsFoldRow : OpenClaim := { program := "ygctal", sum := "8916afc1c70c072a2e89f00f5c606fb31b115f5215d651e16b2a54b295da9f57", func := "fftlab/law.NaiveIsFold", spec := "naiveIsFold", inPlace := ["math.Float64frombits", "math.Float64bits"], apart := false }
def NaiveIsFoldSaid : Prop := naiveIsFoldRow.holds Talg.pinned (OpenSpec.ofChange naiveIsFoldSpec)

/-- ITS FALSE NEIGHBOUR: 'it returns false'. Refute it at one input. -/
def naiveIsFoldWrong : ChangeSpec := { name := "naiveIsFold", fn := fun _ => fun
  | [d] => { results := [.lit (.bool false)], args := [d] }
  | _ => none }
def NaiveIsFoldWrongFalsely : Prop := naiveIsFoldRow.holds Talg.pinned (OpenSpec.ofChange naiveIsFoldWrong)

/-- 'law.PairwiseIsTree': WHATEVER THE INPUT: true; the input reads as it did. -/
def pairwiseIsTreeSpec : ChangeSpec := { name := "pairwiseIsTree", fn := fun _ => fun
  | [d] => { results := [.lit (.bool true)], args := [d] }
  | _ => none }
def pairwiseIsTreeRow : OpenClaim := { program := "ygctal", sum := "8916afc1c70c072a2e89f00f5c606fb31b115f5215d651e16b2a54b295da9f57", func := "fftlab/law.PairwiseIsTree", spec := "pairwiseIsTree", inPlace := ["math.Float64frombits", "math.Float64bits"], recurses := true, apart := false }
def PairwiseIsTreeSaid : Prop := pairwiseIsTreeRow.holds Talg.pinned (OpenSpec.ofChange pairwiseIsTreeSpec)

/-- ITS FALSE NEIGHBOUR: 'it returns false'. Refute it at one input. -/
def pairwiseIsTreeWrong : ChangeSpec := { name := "pairwiseIsTree", fn := fun _ => fun
  | [d] => { results := [.lit (.bool false)], args := [d] }
  | _ => none }
def PairwiseIsTreeWrongFalsely : Prop := pairwiseIsTreeRow.holds Talg.pinned (OpenSpec.ofChange pairwiseIsTreeWrong)

/-- 'law.NeumaierIsFold': WHATEVER THE INPUT: true; the input reads as it did. -/
def neumaierIsFoldSpec : ChangeSpec := { name := "neumaierIsFold", fn := fun _ => fun
  | [d] => { results := [.lit (.bool true)], args := [d] }
  | _ => none }
def neumaierIsFoldRow : OpenClaim := { program := "ygctal", sum := "8916afc1c70c072a2e89f00f5c606fb31b115f5215d651e16b2a54b295da9f57", func := "fftlab/law.NeumaierIsFold", spec := "neumaierIsFold", inPlace := ["math.Float64frombits", "math.Float64bits"], apart := false }
def NeumaierIsFoldSaid : Prop := neumaierIsFoldRow.holds Talg.pinned (OpenSpec.ofChange neumaierIsFoldSpec)

/-- ITS FALSE NEIGHBOUR: 'it returns false'. Refute it at one input. -/
def neumaierIsFoldWrong : ChangeSpec := { name := "neumaierIsFold", fn := fun _ => fun
  | [d] => { results := [.lit (.bool false)], args := [d] }
  | _ => none }
def NeumaierIsFoldWrongFalsely : Prop := neumaierIsFoldRow.holds Talg.pinned (OpenSpec.ofChange neumaierIsFoldWrong)

/-- 'law.NeumaierNear': WHATEVER THE INPUT: true; the input reads as it did. -/
def neumaierNearSpec : ChangeSpec := { name := "neumaierNear", fn := fun _ => fun
  | [d] => { results := [.lit (.bool true)], args := [d] }
  | _ => none }
def neumaierNearRow : OpenClaim := { program := "ygctal", sum := "8916afc1c70c072a2e89f00f5c606fb31b115f5215d651e16b2a54b295da9f57", func := "fftlab/law.NeumaierNear", spec := "neumaierNear", inPlace := ["math.Float64frombits", "math.Float64bits", "math/bits.Sub64", "math/bits.Add64"], apart := false }
def NeumaierNearSaid : Prop := neumaierNearRow.holds Talg.pinned (OpenSpec.ofChange neumaierNearSpec)

/-- ITS FALSE NEIGHBOUR: 'it returns false'. Refute it at one input. -/
def neumaierNearWrong : ChangeSpec := { name := "neumaierNear", fn := fun _ => fun
  | [d] => { results := [.lit (.bool false)], args := [d] }
  | _ => none }
def NeumaierNearWrongFalsely : Prop := neumaierNearRow.holds Talg.pinned (OpenSpec.ofChange neumaierNearWrong)

/-- 'law.BaseBits': WHATEVER THE INPUT: true; the input reads as it did. -/
def baseBitsSpec : ChangeSpec := { name := "baseBits", fn := fun _ => fun
  | [d] => { results := [.lit (.bool true)], args := [d] }
  | _ => none }
def baseBitsRow : OpenClaim := { program := "ygctal", sum := "8916afc1c70c072a2e89f00f5c606fb31b115f5215d651e16b2a54b295da9f57", func := "fftlab/law.BaseBits", spec := "baseBits", inPlace := ["math.Float64bits"], apart := false }
def BaseBitsSaid : Prop := baseBitsRow.holds Talg.pinned (OpenSpec.ofChange baseBitsSpec)

/-- ITS FALSE NEIGHBOUR: 'it returns false'. Refute it at one input. -/
def baseBitsWrong : ChangeSpec := { name := "baseBits", fn := fun _ => fun
  | [d] => { results := [.lit (.bool false)], args := [d] }
  | _ => none }
def BaseBitsWrongFalsely : Prop := baseBitsRow.holds Talg.pinned (OpenSpec.ofChange baseBitsWrong)

/-- 'law.HalfAngle': WHATEVER THE INPUT: true; the input reads as it did. -/
def halfAngleSpec : ChangeSpec := { name := "halfAngle", fn := fun _ => fun
  | [d] => { results := [.lit (.bool true)], args := [d] }
  | _ => none }
def halfAngleRow : OpenClaim := { program := "ygctal", sum := "8916afc1c70c072a2e89f00f5c606fb31b115f5215d651e16b2a54b295da9f57", func := "fftlab/law.HalfAngle", spec := "halfAngle", inPlace := ["math.Float64bits", "math/bits.Sub64", "math/bits.Add64"], apart := false }
def HalfAngleSaid : Prop := halfAngleRow.holds Talg.pinned (OpenSpec.ofChange halfAngleSpec)

/-- ITS FALSE NEIGHBOUR: 'it returns false'. Refute it at one input. -/
def halfAngleWrong : ChangeSpec := { name := "halfAngle", fn := fun _ => fun
  | [d] => { results := [.lit (.bool false)], args := [d] }
  | _ => none }
def HalfAngleWrongFalsely : Prop := halfAngleRow.holds Talg.pinned (OpenSpec.ofChange halfAngleWrong)

end Rows
end Go.Proofs.Ygctal
