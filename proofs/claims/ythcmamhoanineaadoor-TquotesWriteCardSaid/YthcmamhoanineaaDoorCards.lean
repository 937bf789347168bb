/-
  DERIVED. GIVEN WITH THE SEED: THE CARDS: each row of YthcmamhoanineaaDoorRows.lean that lists a variable, with what it lists TIED to the program's text (the seventh form; the later family's looks); each row that meets fmt, with fmt's text TOLD by the authors' own Lean function (tested against real Go, not proved from fmt's source: count such statements apart). THE CARD IS WHAT COUNTS. Prove the row's statement (the work); the ties are given (YthcmamhoanineaaDoorTie.lean); close each card by the builder's one call (the guide's Derived/Test/ToyasCard.lean, 'card_holds'). Laid BY PROGRAM, IN A SANDBOX (cutbox-door.mjs). By AI agents, Wed Nov 11 2026. No macro, syntax, notation, axiom, sorry.
-/
import Derived.Test.YthcmamhoanineaaDoorRows
import GoSem.ClaimSeven
namespace Go.Proofs.YthcmamhoanineaaDoor
namespace Rows

/-- THE TIED CARD OF 'inarchlaw04.TquotesWrite'. -/
def tquotesWriteCard : Claim7 := { stood := { row := tquotesWriteRow, standIns := [], harness := (true, "8c695ca099fb48c4f3e675a412f05f62ff9477f6046490e5d2d6c223dce8da85"), looks := true }, kinds := [], alts := [], laidByText := true, laidKinds := [.data], laidTests := true, laidLooks := .later }
def TquotesWriteCardSaid : Prop := Claim7.holds Tryd.pinned (.plain (OpenSpec.ofChange tquotesWriteSpec)) tquotesWriteCard

/-- THE TIED CARD OF 'inarchlaw04.TquotesBack'. -/
def tquotesBackCard : Claim7 := { stood := { row := tquotesBackRow, standIns := [], harness := (true, "8c695ca099fb48c4f3e675a412f05f62ff9477f6046490e5d2d6c223dce8da85"), looks := true }, kinds := [], alts := [], laidByText := true, laidKinds := [.data], laidTests := true, laidLooks := .later }
def TquotesBackCardSaid : Prop := Claim7.holds Tryd.pinned (.plain (OpenSpec.ofChange tquotesBackSpec)) tquotesBackCard

/-- THE TIED CARD OF 'inarchlaw04.TquotesFolds'. -/
def tquotesFoldsCard : Claim7 := { stood := { row := tquotesFoldsRow, standIns := [], harness := (true, "8c695ca099fb48c4f3e675a412f05f62ff9477f6046490e5d2d6c223dce8da85"), looks := true }, kinds := [], alts := [], laidByText := true, laidKinds := [.data, .pinned], laidTests := true, laidLooks := .later }
def TquotesFoldsCardSaid : Prop := Claim7.holds Tryd.pinned (.plain (OpenSpec.ofChange tquotesFoldsSpec)) tquotesFoldsCard

/-- THE SECOND FORM's CARD OF 'inarchlaw04.TquotesWrite'. -/
def tquotesWriteUptoCard : Claim7 := { stood := { row := tquotesWriteUptoRow, standIns := [], harness := (true, "8c695ca099fb48c4f3e675a412f05f62ff9477f6046490e5d2d6c223dce8da85"), looks := true }, kinds := [], alts := [], laidByText := true, laidKinds := [.data], laidTests := true, laidLooks := .later }
def TquotesWriteUptoCardSaid : Prop := Claim7.holds Tryd.pinned (.plain (OpenSpec.upto tquotesWriteSpec)) tquotesWriteUptoCard

/-- THE SECOND FORM's CARD OF 'inarchlaw04.TquotesBack'. -/
def tquotesBackUptoCard : Claim7 := { stood := { row := tquotesBackUptoRow, standIns := [], harness := (true, "8c695ca099fb48c4f3e675a412f05f62ff9477f6046490e5d2d6c223dce8da85"), looks := true }, kinds := [], alts := [], laidByText := true, laidKinds := [.data], laidTests := true, laidLooks := .later }
def TquotesBackUptoCardSaid : Prop := Claim7.holds Tryd.pinned (.plain (OpenSpec.upto tquotesBackSpec)) tquotesBackUptoCard

/-- THE SECOND FORM's CARD OF 'inarchlaw04.TquotesFolds'. -/
def tquotesFoldsUptoCard : Claim7 := { stood := { row := tquotesFoldsUptoRow, standIns := [], harness := (true, "8c695ca099fb48c4f3e675a412f05f62ff9477f6046490e5d2d6c223dce8da85"), looks := true }, kinds := [], alts := [], laidByText := true, laidKinds := [.data, .pinned], laidTests := true, laidLooks := .later }
def TquotesFoldsUptoCardSaid : Prop := Claim7.holds Tryd.pinned (.plain (OpenSpec.upto tquotesFoldsSpec)) tquotesFoldsUptoCard
end Rows
end Go.Proofs.YthcmamhoanineaaDoor
