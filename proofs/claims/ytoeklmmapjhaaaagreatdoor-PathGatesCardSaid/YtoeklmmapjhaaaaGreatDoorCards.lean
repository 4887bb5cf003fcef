/-
  DERIVED. GIVEN WITH THE SEED: THE CARDS: each row of YtoeklmmapjhaaaaGreatDoorRows.lean that lists a variable, with what it lists TIED to the program's text (the seventh form; the later family's looks); each row that meets fmt, with fmt's text TOLD by the authors' own Lean function (tested against real Go, not proved from fmt's source: count such statements apart). THE CARD IS WHAT COUNTS. Prove the row's statement (the work); the ties are given (YtoeklmmapjhaaaaGreatDoorTie.lean); close each card by the builder's one call (the guide's Derived/Test/ToyasCard.lean, 'card_holds'). Laid BY PROGRAM, IN A SANDBOX (cutbox-door.mjs). By AI agents, Wed Nov 11 2026. No macro, syntax, notation, axiom, sorry.
-/
import Derived.Test.YtoeklmmapjhaaaaGreatDoorRows
import GoSem.ClaimSeven
namespace Go.Proofs.YtoeklmmapjhaaaaGreatDoor
namespace Rows

/-- THE TIED CARD OF 'packsaddlelaw07.PathGates'. -/
def pathGatesCard : Claim7 := { stood := { row := pathGatesRow, standIns := [], harness := (true, "269affdb45cd135463b27b0e835d06254e802053c612405c251b1b1caacc0164"), looks := true }, kinds := [], alts := [], laidByText := true, laidKinds := [.data, .pinned], laidTests := true, laidLooks := .later }
def PathGatesCardSaid : Prop := Claim7.holds Tryz.pinned (.plain (OpenSpec.ofChange pathGatesSpec)) pathGatesCard

/-- THE SECOND FORM's CARD OF 'packsaddlelaw07.PathGates'. -/
def pathGatesUptoCard : Claim7 := { stood := { row := pathGatesUptoRow, standIns := [], harness := (true, "269affdb45cd135463b27b0e835d06254e802053c612405c251b1b1caacc0164"), looks := true }, kinds := [], alts := [], laidByText := true, laidKinds := [.data, .pinned], laidTests := true, laidLooks := .later }
def PathGatesUptoCardSaid : Prop := Claim7.holds Tryz.pinned (.plain (OpenSpec.upto pathGatesSpec)) pathGatesUptoCard
end Rows
end Go.Proofs.YtoeklmmapjhaaaaGreatDoor
