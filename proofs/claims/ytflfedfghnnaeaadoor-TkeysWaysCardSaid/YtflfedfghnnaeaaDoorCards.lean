/-
  DERIVED. GIVEN WITH THE SEED: THE CARDS: each row of YtflfedfghnnaeaaDoorRows.lean that lists a variable, with what it lists TIED to the program's text (the seventh form; the later family's looks); each row that meets fmt, with fmt's text TOLD by the authors' own Lean function (tested against real Go, not proved from fmt's source: count such statements apart). THE CARD IS WHAT COUNTS. Prove the row's statement (the work); the ties are given (YtflfedfghnnaeaaDoorTie.lean); close each card by the builder's one call (the guide's Derived/Test/ToyasCard.lean, 'card_holds'). Laid BY PROGRAM, IN A SANDBOX (cutbox-door.mjs). By AI agents, Wed Nov 11 2026. No macro, syntax, notation, axiom, sorry.
-/
import Derived.Test.YtflfedfghnnaeaaDoorRows
import GoSem.ClaimSeven
namespace Go.Proofs.YtflfedfghnnaeaaDoor
namespace Rows

/-- THE TIED CARD OF 'inarchlaw10.TkeysBack'. -/
def tkeysBackCard : Claim7 := { stood := { row := tkeysBackRow, standIns := [], harness := (true, "fae01c1a0213bd4306f6d95edc24655207b3670e8bfadb563ac183e2b8781f23"), looks := true }, kinds := [], alts := [], laidByText := true, laidKinds := [.data, .data, .pinned], laidTests := true, laidLooks := .later }
def TkeysBackCardSaid : Prop := Claim7.holds Tryd.pinned (.plain (OpenSpec.ofChange tkeysBackSpec)) tkeysBackCard

/-- THE TIED CARD OF 'inarchlaw10.TkeysWays'. -/
def tkeysWaysCard : Claim7 := { stood := { row := tkeysWaysRow, standIns := [], harness := (true, "fae01c1a0213bd4306f6d95edc24655207b3670e8bfadb563ac183e2b8781f23"), looks := true }, kinds := [], alts := [], laidByText := true, laidKinds := [.data, .data, .pinned], laidTests := true, laidLooks := .later }
def TkeysWaysCardSaid : Prop := Claim7.holds Tryd.pinned (.plain (OpenSpec.ofChange tkeysWaysSpec)) tkeysWaysCard

/-- THE SECOND FORM's CARD OF 'inarchlaw10.TkeysBack'. -/
def tkeysBackUptoCard : Claim7 := { stood := { row := tkeysBackUptoRow, standIns := [], harness := (true, "fae01c1a0213bd4306f6d95edc24655207b3670e8bfadb563ac183e2b8781f23"), looks := true }, kinds := [], alts := [], laidByText := true, laidKinds := [.data, .data, .pinned], laidTests := true, laidLooks := .later }
def TkeysBackUptoCardSaid : Prop := Claim7.holds Tryd.pinned (.plain (OpenSpec.upto tkeysBackSpec)) tkeysBackUptoCard

/-- THE SECOND FORM's CARD OF 'inarchlaw10.TkeysWays'. -/
def tkeysWaysUptoCard : Claim7 := { stood := { row := tkeysWaysUptoRow, standIns := [], harness := (true, "fae01c1a0213bd4306f6d95edc24655207b3670e8bfadb563ac183e2b8781f23"), looks := true }, kinds := [], alts := [], laidByText := true, laidKinds := [.data, .data, .pinned], laidTests := true, laidLooks := .later }
def TkeysWaysUptoCardSaid : Prop := Claim7.holds Tryd.pinned (.plain (OpenSpec.upto tkeysWaysSpec)) tkeysWaysUptoCard
end Rows
end Go.Proofs.YtflfedfghnnaeaaDoor
