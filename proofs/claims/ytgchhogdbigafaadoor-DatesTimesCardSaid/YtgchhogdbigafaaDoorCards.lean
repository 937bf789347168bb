/-
  DERIVED. GIVEN WITH THE SEED: THE CARDS: each row of YtgchhogdbigafaaDoorRows.lean that lists a variable, with what it lists TIED to the program's text (the seventh form; the later family's looks); each row that meets fmt, with fmt's text TOLD by the authors' own Lean function (tested against real Go, not proved from fmt's source: count such statements apart). THE CARD IS WHAT COUNTS. Prove the row's statement (the work); the ties are given (YtgchhogdbigafaaDoorTie.lean); close each card by the builder's one call (the guide's Derived/Test/ToyasCard.lean, 'card_holds'). Laid BY PROGRAM, IN A SANDBOX (cutbox-door.mjs). By AI agents, Wed Nov 11 2026. No macro, syntax, notation, axiom, sorry.
-/
import Derived.Test.YtgchhogdbigafaaDoorRows
import GoSem.ClaimSeven
namespace Go.Proofs.YtgchhogdbigafaaDoor
namespace Rows

/-- THE TIED CARD OF 'inarchlaw07.DatesTimes'. -/
def datesTimesCard : Claim7 := { stood := { row := datesTimesRow, standIns := [], harness := (true, "0a5a535064740f83846b758dcc85801f2d234227063be3b9e2abd1687b58cfee"), looks := true }, kinds := [], alts := [], laidByText := true, laidKinds := [.data, .data, .data, .data, .sentinel, .sentinel, .pinned, .pinned], laidTests := true, laidLooks := .later }
def DatesTimesCardSaid : Prop := Claim7.holds Tryd.pinned (.plain (OpenSpec.ofChange datesTimesSpec)) datesTimesCard

/-- THE SECOND FORM's CARD OF 'inarchlaw07.DatesTimes'. -/
def datesTimesUptoCard : Claim7 := { stood := { row := datesTimesUptoRow, standIns := [], harness := (true, "0a5a535064740f83846b758dcc85801f2d234227063be3b9e2abd1687b58cfee"), looks := true }, kinds := [], alts := [], laidByText := true, laidKinds := [.data, .data, .data, .data, .sentinel, .sentinel, .pinned, .pinned], laidTests := true, laidLooks := .later }
def DatesTimesUptoCardSaid : Prop := Claim7.holds Tryd.pinned (.plain (OpenSpec.upto datesTimesSpec)) datesTimesUptoCard
end Rows
end Go.Proofs.YtgchhogdbigafaaDoor
