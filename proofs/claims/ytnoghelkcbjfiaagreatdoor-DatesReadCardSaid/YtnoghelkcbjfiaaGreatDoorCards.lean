/-
  DERIVED. GIVEN WITH THE SEED: THE CARDS: each row of YtnoghelkcbjfiaaGreatDoorRows.lean that lists a variable, with what it lists TIED to the program's text (the seventh form; the later family's looks); each row that meets fmt, with fmt's text TOLD by the authors' own Lean function (tested against real Go, not proved from fmt's source: count such statements apart). THE CARD IS WHAT COUNTS. Prove the row's statement (the work); the ties are given (YtnoghelkcbjfiaaGreatDoorTie.lean); close each card by the builder's one call (the guide's Derived/Test/ToyasCard.lean, 'card_holds'). Laid BY PROGRAM, IN A SANDBOX (cutbox-door.mjs). By AI agents, Wed Nov 11 2026. No macro, syntax, notation, axiom, sorry.
-/
import Derived.Test.YtnoghelkcbjfiaaGreatDoorRows
import GoSem.ClaimSeven
namespace Go.Proofs.YtnoghelkcbjfiaaGreatDoor
namespace Rows

/-- THE TIED CARD OF 'inarchlaw07.DatesRead'. -/
def datesReadCard : Claim7 := { stood := { row := datesReadRow, standIns := [], harness := (true, "13e2b81dc68815795b4c05003137ce675c762fdbf51bdea059c6d2b41383db61"), looks := true }, kinds := [], alts := [], laidByText := true, laidKinds := [.data, .data, .data, .data, .sentinel, .sentinel, .pinned, .pinned], laidTests := true, laidLooks := .later }
def DatesReadCardSaid : Prop := Claim7.holds Tryz.pinned (.plain (OpenSpec.ofChange datesReadSpec)) datesReadCard

/-- THE SECOND FORM's CARD OF 'inarchlaw07.DatesRead'. -/
def datesReadUptoCard : Claim7 := { stood := { row := datesReadUptoRow, standIns := [], harness := (true, "13e2b81dc68815795b4c05003137ce675c762fdbf51bdea059c6d2b41383db61"), looks := true }, kinds := [], alts := [], laidByText := true, laidKinds := [.data, .data, .data, .data, .sentinel, .sentinel, .pinned, .pinned], laidTests := true, laidLooks := .later }
def DatesReadUptoCardSaid : Prop := Claim7.holds Tryz.pinned (.plain (OpenSpec.upto datesReadSpec)) datesReadUptoCard
end Rows
end Go.Proofs.YtnoghelkcbjfiaaGreatDoor
