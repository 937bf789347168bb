/-
  DERIVED. GIVEN WITH THE SEED: THE CARDS: each row of YtflfedfghnnaeaaGreatDoorRows.lean that lists a variable, with what it lists TIED to the program's text (the seventh form; the later family's looks); each row that meets fmt, with fmt's text TOLD by the authors' own Lean function (tested against real Go, not proved from fmt's source: count such statements apart). THE CARD IS WHAT COUNTS. Prove the row's statement (the work); the ties are given (YtflfedfghnnaeaaGreatDoorTie.lean); close each card by the builder's one call (the guide's Derived/Test/ToyasCard.lean, 'card_holds'). Laid BY PROGRAM, IN A SANDBOX (cutbox-door.mjs). By AI agents, Wed Nov 11 2026. No macro, syntax, notation, axiom, sorry.
-/
import Derived.Test.YtflfedfghnnaeaaGreatDoorRows
import GoSem.ClaimSeven
namespace Go.Proofs.YtflfedfghnnaeaaGreatDoor
namespace Rows

/-- THE TIED CARD OF 'inarchlaw10.TkeysRead'. -/
def tkeysReadCard : Claim7 := { stood := { row := tkeysReadRow, standIns := [], harness := (true, "dc76682f4eb8a94e5cda7040f7f09d0f78069d9aec4a44238626e332e42f6b23"), looks := true }, kinds := [], alts := [], laidByText := true, laidKinds := [.data, .data, .pinned], laidTests := true, laidLooks := .later }
def TkeysReadCardSaid : Prop := Claim7.holds Tryz.pinned (.plain (OpenSpec.ofChange tkeysReadSpec)) tkeysReadCard

/-- THE TIED CARD OF 'inarchlaw10.TkeysWrite'. -/
def tkeysWriteCard : Claim7 := { stood := { row := tkeysWriteRow, standIns := [], harness := (true, "dc76682f4eb8a94e5cda7040f7f09d0f78069d9aec4a44238626e332e42f6b23"), looks := true }, kinds := [], alts := [], laidByText := true, laidKinds := [.data, .data, .pinned], laidTests := true, laidLooks := .later }
def TkeysWriteCardSaid : Prop := Claim7.holds Tryz.pinned (.plain (OpenSpec.ofChange tkeysWriteSpec)) tkeysWriteCard

/-- THE SECOND FORM's CARD OF 'inarchlaw10.TkeysRead'. -/
def tkeysReadUptoCard : Claim7 := { stood := { row := tkeysReadUptoRow, standIns := [], harness := (true, "dc76682f4eb8a94e5cda7040f7f09d0f78069d9aec4a44238626e332e42f6b23"), looks := true }, kinds := [], alts := [], laidByText := true, laidKinds := [.data, .data, .pinned], laidTests := true, laidLooks := .later }
def TkeysReadUptoCardSaid : Prop := Claim7.holds Tryz.pinned (.plain (OpenSpec.upto tkeysReadSpec)) tkeysReadUptoCard

/-- THE SECOND FORM's CARD OF 'inarchlaw10.TkeysWrite'. -/
def tkeysWriteUptoCard : Claim7 := { stood := { row := tkeysWriteUptoRow, standIns := [], harness := (true, "dc76682f4eb8a94e5cda7040f7f09d0f78069d9aec4a44238626e332e42f6b23"), looks := true }, kinds := [], alts := [], laidByText := true, laidKinds := [.data, .data, .pinned], laidTests := true, laidLooks := .later }
def TkeysWriteUptoCardSaid : Prop := Claim7.holds Tryz.pinned (.plain (OpenSpec.upto tkeysWriteSpec)) tkeysWriteUptoCard
end Rows
end Go.Proofs.YtflfedfghnnaeaaGreatDoor
