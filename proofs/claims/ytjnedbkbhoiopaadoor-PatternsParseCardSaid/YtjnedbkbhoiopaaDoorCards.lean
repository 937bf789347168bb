/-
  DERIVED. GIVEN WITH THE SEED: THE CARDS: each row of YtjnedbkbhoiopaaDoorRows.lean that lists a variable, with what it lists TIED to the program's text (the seventh form; the later family's looks); each row that meets fmt, with fmt's text TOLD by the authors' own Lean function (tested against real Go, not proved from fmt's source: count such statements apart). THE CARD IS WHAT COUNTS. Prove the row's statement (the work); the ties are given (YtjnedbkbhoiopaaDoorTie.lean); close each card by the builder's one call (the guide's Derived/Test/ToyasCard.lean, 'card_holds'). Laid BY PROGRAM, IN A SANDBOX (cutbox-door.mjs). By AI agents, Wed Nov 11 2026. No macro, syntax, notation, axiom, sorry.
-/
import Derived.Test.YtjnedbkbhoiopaaDoorRows
import GoSem.ClaimSeven
namespace Go.Proofs.YtjnedbkbhoiopaaDoor
namespace Rows

/-- THE TIED CARD OF 'inarchlaw17.PatternsCut'. -/
def patternsCutCard : Claim7 := { stood := { row := patternsCutRow, standIns := [], harness := (true, "5a95efd75f579e7058ca52f1dccf2079a775769e8bb9cdd7f99839454104ce11"), looks := true }, kinds := [], alts := [], laidByText := true, laidKinds := [.data, .data, .data, .sentinel, .sentinel], laidTests := true, laidLooks := .later }
def PatternsCutCardSaid : Prop := Claim7.holds Tryd.pinned (.plain (OpenSpec.ofChange patternsCutSpec)) patternsCutCard

/-- THE TIED CARD OF 'inarchlaw17.PatternsVoid'. -/
def patternsVoidCard : Claim7 := { stood := { row := patternsVoidRow, standIns := [], harness := (true, "5a95efd75f579e7058ca52f1dccf2079a775769e8bb9cdd7f99839454104ce11"), looks := true }, kinds := [], alts := [], laidByText := true, laidKinds := [.data, .data, .data, .sentinel, .sentinel], laidTests := true, laidLooks := .later }
def PatternsVoidCardSaid : Prop := Claim7.holds Tryd.pinned (.plain (OpenSpec.ofChange patternsVoidSpec)) patternsVoidCard

/-- THE TIED CARD OF 'inarchlaw17.PatternsParse'. -/
def patternsParseCard : Claim7 := { stood := { row := patternsParseRow, standIns := [], harness := (true, "5a95efd75f579e7058ca52f1dccf2079a775769e8bb9cdd7f99839454104ce11"), looks := true }, kinds := [], alts := [], laidByText := true, laidKinds := [.data, .data, .data, .sentinel, .sentinel], laidTests := true, laidLooks := .later }
def PatternsParseCardSaid : Prop := Claim7.holds Tryd.pinned (.plain (OpenSpec.ofChange patternsParseSpec)) patternsParseCard

/-- THE TIED CARD OF 'inarchlaw17.PatternsOne'. -/
def patternsOneCard : Claim7 := { stood := { row := patternsOneRow, standIns := [], harness := (true, "5a95efd75f579e7058ca52f1dccf2079a775769e8bb9cdd7f99839454104ce11"), looks := true }, kinds := [], alts := [], laidByText := true, laidKinds := [.data, .data, .data, .sentinel, .sentinel], laidTests := true, laidLooks := .later }
def PatternsOneCardSaid : Prop := Claim7.holds Tryd.pinned (.plain (OpenSpec.ofChange patternsOneSpec)) patternsOneCard

/-- THE TIED CARD OF 'inarchlaw17.PatternsStars'. -/
def patternsStarsCard : Claim7 := { stood := { row := patternsStarsRow, standIns := [], harness := (true, "5a95efd75f579e7058ca52f1dccf2079a775769e8bb9cdd7f99839454104ce11"), looks := true }, kinds := [], alts := [], laidByText := true, laidKinds := [.data, .data, .data, .sentinel, .sentinel], laidTests := true, laidLooks := .later }
def PatternsStarsCardSaid : Prop := Claim7.holds Tryd.pinned (.plain (OpenSpec.ofChange patternsStarsSpec)) patternsStarsCard

/-- THE SECOND FORM's CARD OF 'inarchlaw17.PatternsCut'. -/
def patternsCutUptoCard : Claim7 := { stood := { row := patternsCutUptoRow, standIns := [], harness := (true, "5a95efd75f579e7058ca52f1dccf2079a775769e8bb9cdd7f99839454104ce11"), looks := true }, kinds := [], alts := [], laidByText := true, laidKinds := [.data, .data, .data, .sentinel, .sentinel], laidTests := true, laidLooks := .later }
def PatternsCutUptoCardSaid : Prop := Claim7.holds Tryd.pinned (.plain (OpenSpec.upto patternsCutSpec)) patternsCutUptoCard

/-- THE SECOND FORM's CARD OF 'inarchlaw17.PatternsVoid'. -/
def patternsVoidUptoCard : Claim7 := { stood := { row := patternsVoidUptoRow, standIns := [], harness := (true, "5a95efd75f579e7058ca52f1dccf2079a775769e8bb9cdd7f99839454104ce11"), looks := true }, kinds := [], alts := [], laidByText := true, laidKinds := [.data, .data, .data, .sentinel, .sentinel], laidTests := true, laidLooks := .later }
def PatternsVoidUptoCardSaid : Prop := Claim7.holds Tryd.pinned (.plain (OpenSpec.upto patternsVoidSpec)) patternsVoidUptoCard

/-- THE SECOND FORM's CARD OF 'inarchlaw17.PatternsParse'. -/
def patternsParseUptoCard : Claim7 := { stood := { row := patternsParseUptoRow, standIns := [], harness := (true, "5a95efd75f579e7058ca52f1dccf2079a775769e8bb9cdd7f99839454104ce11"), looks := true }, kinds := [], alts := [], laidByText := true, laidKinds := [.data, .data, .data, .sentinel, .sentinel], laidTests := true, laidLooks := .later }
def PatternsParseUptoCardSaid : Prop := Claim7.holds Tryd.pinned (.plain (OpenSpec.upto patternsParseSpec)) patternsParseUptoCard

/-- THE SECOND FORM's CARD OF 'inarchlaw17.PatternsOne'. -/
def patternsOneUptoCard : Claim7 := { stood := { row := patternsOneUptoRow, standIns := [], harness := (true, "5a95efd75f579e7058ca52f1dccf2079a775769e8bb9cdd7f99839454104ce11"), looks := true }, kinds := [], alts := [], laidByText := true, laidKinds := [.data, .data, .data, .sentinel, .sentinel], laidTests := true, laidLooks := .later }
def PatternsOneUptoCardSaid : Prop := Claim7.holds Tryd.pinned (.plain (OpenSpec.upto patternsOneSpec)) patternsOneUptoCard

/-- THE SECOND FORM's CARD OF 'inarchlaw17.PatternsStars'. -/
def patternsStarsUptoCard : Claim7 := { stood := { row := patternsStarsUptoRow, standIns := [], harness := (true, "5a95efd75f579e7058ca52f1dccf2079a775769e8bb9cdd7f99839454104ce11"), looks := true }, kinds := [], alts := [], laidByText := true, laidKinds := [.data, .data, .data, .sentinel, .sentinel], laidTests := true, laidLooks := .later }
def PatternsStarsUptoCardSaid : Prop := Claim7.holds Tryd.pinned (.plain (OpenSpec.upto patternsStarsSpec)) patternsStarsUptoCard
end Rows
end Go.Proofs.YtjnedbkbhoiopaaDoor
