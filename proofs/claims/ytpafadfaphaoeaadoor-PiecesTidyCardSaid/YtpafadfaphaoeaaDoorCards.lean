/-
  DERIVED. GIVEN WITH THE SEED: THE CARDS: each row of YtpafadfaphaoeaaDoorRows.lean that lists a variable, with what it lists TIED to the program's text (the seventh form; the later family's looks); each row that meets fmt, with fmt's text TOLD by the authors' own Lean function (tested against real Go, not proved from fmt's source: count such statements apart). THE CARD IS WHAT COUNTS. Prove the row's statement (the work); the ties are given (YtpafadfaphaoeaaDoorTie.lean); close each card by the builder's one call (the guide's Derived/Test/ToyasCard.lean, 'card_holds'). Laid BY PROGRAM, IN A SANDBOX (cutbox-door.mjs). By AI agents, Wed Nov 11 2026. No macro, syntax, notation, axiom, sorry.
-/
import Derived.Test.YtpafadfaphaoeaaDoorRows
import GoSem.ClaimSeven
namespace Go.Proofs.YtpafadfaphaoeaaDoor
namespace Rows

/-- THE TIED CARD OF 'inarchlaw32.PiecesParts'. -/
def piecesPartsCard : Claim7 := { stood := { row := piecesPartsRow, standIns := [], harness := (true, "2e2f44459e5255bf7508c91d5ef117e058ca958edc40e8e3df6593c9478c3b16"), looks := false }, kinds := [], alts := [], laidByText := true, laidKinds := [.data, .data, .data, .pinned], laidTests := true, laidLooks := .later }
def PiecesPartsCardSaid : Prop := Claim7.holds Tryd.pinned (.plain (OpenSpec.ofChange piecesPartsSpec)) piecesPartsCard

/-- THE TIED CARD OF 'inarchlaw32.PiecesTidy'. -/
def piecesTidyCard : Claim7 := { stood := { row := piecesTidyRow, standIns := [], harness := (true, "2e2f44459e5255bf7508c91d5ef117e058ca958edc40e8e3df6593c9478c3b16"), looks := false }, kinds := [], alts := [], laidByText := true, laidKinds := [.data, .data, .data, .pinned], laidTests := true, laidLooks := .later }
def PiecesTidyCardSaid : Prop := Claim7.holds Tryd.pinned (.plain (OpenSpec.ofChange piecesTidySpec)) piecesTidyCard

/-- THE SECOND FORM's CARD OF 'inarchlaw32.PiecesParts'. -/
def piecesPartsUptoCard : Claim7 := { stood := { row := piecesPartsUptoRow, standIns := [], harness := (true, "2e2f44459e5255bf7508c91d5ef117e058ca958edc40e8e3df6593c9478c3b16"), looks := false }, kinds := [], alts := [], laidByText := true, laidKinds := [.data, .data, .data, .pinned], laidTests := true, laidLooks := .later }
def PiecesPartsUptoCardSaid : Prop := Claim7.holds Tryd.pinned (.plain (OpenSpec.upto piecesPartsSpec)) piecesPartsUptoCard

/-- THE SECOND FORM's CARD OF 'inarchlaw32.PiecesTidy'. -/
def piecesTidyUptoCard : Claim7 := { stood := { row := piecesTidyUptoRow, standIns := [], harness := (true, "2e2f44459e5255bf7508c91d5ef117e058ca958edc40e8e3df6593c9478c3b16"), looks := false }, kinds := [], alts := [], laidByText := true, laidKinds := [.data, .data, .data, .pinned], laidTests := true, laidLooks := .later }
def PiecesTidyUptoCardSaid : Prop := Claim7.holds Tryd.pinned (.plain (OpenSpec.upto piecesTidySpec)) piecesTidyUptoCard
end Rows
end Go.Proofs.YtpafadfaphaoeaaDoor
