/-
  DERIVED. GIVEN WITH THE SEED: THE CARDS: each row of YgctalDoorRows.lean that lists a variable, with what it lists TIED to the program's text (the seventh form; the later family's looks); each row that meets fmt, with fmt's text TOLD by the authors' own Lean function (tested against real Go, not proved from fmt's source: count such statements apart). THE CARD IS WHAT COUNTS. Prove the row's statement (the work); the ties are given (YgctalDoorTie.lean); close each card by the builder's one call (the guide's Derived/Test/ToyasCard.lean, 'card_holds'). Laid BY PROGRAM, IN A SANDBOX (cutbox-door.mjs). By AI agents, Wed Nov 11 2026. No macro, syntax, notation, axiom, sorry.
-/
import Derived.Test.YgctalDoorRows
import GoSem.ClaimSeven
namespace Go.Proofs.YgctalDoor
namespace Rows

/-- THE TIED CARD OF 'law.FsumRight'. -/
def fsumRightCard : Claim7 := { stood := { row := fsumRightRow, standIns := [], harness := (true, "d1d521d8e411b8086fcf63da06389d0caa99e9be63c397a2c7a792438729f472"), looks := false }, kinds := [], alts := [], laidByText := true, laidKinds := [.data], laidTests := true, laidLooks := .later }
def FsumRightCardSaid : Prop := Claim7.holds Talg.pinned (.plain (OpenSpec.ofChange fsumRightSpec)) fsumRightCard

/-- THE TIED CARD OF 'law.ExactForgetsOrder'. -/
def exactForgetsOrderCard : Claim7 := { stood := { row := exactForgetsOrderRow, standIns := [], harness := (true, "d1d521d8e411b8086fcf63da06389d0caa99e9be63c397a2c7a792438729f472"), looks := false }, kinds := [], alts := [], laidByText := true, laidKinds := [.data], laidTests := true, laidLooks := .later }
def ExactForgetsOrderCardSaid : Prop := Claim7.holds Talg.pinned (.plain (OpenSpec.ofChange exactForgetsOrderSpec)) exactForgetsOrderCard

/-- THE TIED CARD OF 'law.RefusalsAgree'. -/
def refusalsAgreeCard : Claim7 := { stood := { row := refusalsAgreeRow, standIns := [], harness := (true, "d1d521d8e411b8086fcf63da06389d0caa99e9be63c397a2c7a792438729f472"), looks := false }, kinds := [], alts := [], laidByText := true, laidKinds := [.data], laidTests := true, laidLooks := .later }
def RefusalsAgreeCardSaid : Prop := Claim7.holds Talg.pinned (.plain (OpenSpec.ofChange refusalsAgreeSpec)) refusalsAgreeCard
end Rows
end Go.Proofs.YgctalDoor
