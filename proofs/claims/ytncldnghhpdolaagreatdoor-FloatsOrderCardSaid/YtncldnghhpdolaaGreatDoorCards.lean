/-
  DERIVED. GIVEN WITH THE SEED: THE CARDS: each row of YtncldnghhpdolaaGreatDoorRows.lean that lists a variable, with what it lists TIED to the program's text (the seventh form; the later family's looks); each row that meets fmt, with fmt's text TOLD by the authors' own Lean function (tested against real Go, not proved from fmt's source: count such statements apart). THE CARD IS WHAT COUNTS. Prove the row's statement (the work); the ties are given (YtncldnghhpdolaaGreatDoorTie.lean); close each card by the builder's one call (the guide's Derived/Test/ToyasCard.lean, 'card_holds'). Laid BY PROGRAM, IN A SANDBOX (cutbox-door.mjs). By AI agents, Wed Nov 11 2026. No macro, syntax, notation, axiom, sorry.
-/
import Derived.Test.YtncldnghhpdolaaGreatDoorRows
import GoSem.ClaimSeven
namespace Go.Proofs.YtncldnghhpdolaaGreatDoor
namespace Rows

/-- THE TIED CARD OF 'inarchlaw06.FloatsLess'. -/
def floatsLessCard : Claim7 := { stood := { row := floatsLessRow, standIns := [], harness := (true, "d6fe23a0e4824359ab8067bc2a8acddee26c609a8e636466dfb5dc6a7ba526cf"), looks := true }, kinds := [], alts := [], laidByText := true, laidKinds := [.data, .data, .data, .data, .sentinel, .sentinel, .data, .pinned], laidTests := true, laidLooks := .later }
def FloatsLessCardSaid : Prop := Claim7.holds Tryz.pinned (.plain (OpenSpec.ofChange floatsLessSpec)) floatsLessCard

/-- THE TIED CARD OF 'inarchlaw06.FloatsMarks'. -/
def floatsMarksCard : Claim7 := { stood := { row := floatsMarksRow, standIns := [], harness := (true, "d6fe23a0e4824359ab8067bc2a8acddee26c609a8e636466dfb5dc6a7ba526cf"), looks := true }, kinds := [], alts := [], laidByText := true, laidKinds := [.data, .data, .data, .data, .sentinel, .sentinel, .data, .pinned], laidTests := true, laidLooks := .later }
def FloatsMarksCardSaid : Prop := Claim7.holds Tryz.pinned (.plain (OpenSpec.ofChange floatsMarksSpec)) floatsMarksCard

/-- THE TIED CARD OF 'inarchlaw06.FloatsRead'. -/
def floatsReadCard : Claim7 := { stood := { row := floatsReadRow, standIns := [], harness := (true, "d6fe23a0e4824359ab8067bc2a8acddee26c609a8e636466dfb5dc6a7ba526cf"), looks := true }, kinds := [], alts := [], laidByText := true, laidKinds := [.data, .data, .data, .data, .sentinel, .sentinel, .data, .pinned], laidTests := true, laidLooks := .later }
def FloatsReadCardSaid : Prop := Claim7.holds Tryz.pinned (.plain (OpenSpec.ofChange floatsReadSpec)) floatsReadCard

/-- THE TIED CARD OF 'inarchlaw06.FloatsOrder'. -/
def floatsOrderCard : Claim7 := { stood := { row := floatsOrderRow, standIns := [], harness := (true, "d6fe23a0e4824359ab8067bc2a8acddee26c609a8e636466dfb5dc6a7ba526cf"), looks := true }, kinds := [], alts := [], laidByText := true, laidKinds := [.data, .data, .data, .data, .sentinel, .sentinel, .data, .pinned], laidTests := true, laidLooks := .later }
def FloatsOrderCardSaid : Prop := Claim7.holds Tryz.pinned (.plain (OpenSpec.ofChange floatsOrderSpec)) floatsOrderCard

/-- THE TIED CARD OF 'inarchlaw06.FloatsJSON'. -/
def floatsJSONCard : Claim7 := { stood := { row := floatsJSONRow, standIns := [], harness := (true, "d6fe23a0e4824359ab8067bc2a8acddee26c609a8e636466dfb5dc6a7ba526cf"), looks := true }, kinds := [], alts := [], laidByText := true, laidKinds := [.data, .data, .data, .data, .sentinel, .sentinel, .data, .pinned], laidTests := true, laidLooks := .later }
def FloatsJSONCardSaid : Prop := Claim7.holds Tryz.pinned (.plain (OpenSpec.ofChange floatsJSONSpec)) floatsJSONCard

/-- THE SECOND FORM's CARD OF 'inarchlaw06.FloatsLess'. -/
def floatsLessUptoCard : Claim7 := { stood := { row := floatsLessUptoRow, standIns := [], harness := (true, "d6fe23a0e4824359ab8067bc2a8acddee26c609a8e636466dfb5dc6a7ba526cf"), looks := true }, kinds := [], alts := [], laidByText := true, laidKinds := [.data, .data, .data, .data, .sentinel, .sentinel, .data, .pinned], laidTests := true, laidLooks := .later }
def FloatsLessUptoCardSaid : Prop := Claim7.holds Tryz.pinned (.plain (OpenSpec.upto floatsLessSpec)) floatsLessUptoCard

/-- THE SECOND FORM's CARD OF 'inarchlaw06.FloatsMarks'. -/
def floatsMarksUptoCard : Claim7 := { stood := { row := floatsMarksUptoRow, standIns := [], harness := (true, "d6fe23a0e4824359ab8067bc2a8acddee26c609a8e636466dfb5dc6a7ba526cf"), looks := true }, kinds := [], alts := [], laidByText := true, laidKinds := [.data, .data, .data, .data, .sentinel, .sentinel, .data, .pinned], laidTests := true, laidLooks := .later }
def FloatsMarksUptoCardSaid : Prop := Claim7.holds Tryz.pinned (.plain (OpenSpec.upto floatsMarksSpec)) floatsMarksUptoCard

/-- THE SECOND FORM's CARD OF 'inarchlaw06.FloatsRead'. -/
def floatsReadUptoCard : Claim7 := { stood := { row := floatsReadUptoRow, standIns := [], harness := (true, "d6fe23a0e4824359ab8067bc2a8acddee26c609a8e636466dfb5dc6a7ba526cf"), looks := true }, kinds := [], alts := [], laidByText := true, laidKinds := [.data, .data, .data, .data, .sentinel, .sentinel, .data, .pinned], laidTests := true, laidLooks := .later }
def FloatsReadUptoCardSaid : Prop := Claim7.holds Tryz.pinned (.plain (OpenSpec.upto floatsReadSpec)) floatsReadUptoCard

/-- THE SECOND FORM's CARD OF 'inarchlaw06.FloatsOrder'. -/
def floatsOrderUptoCard : Claim7 := { stood := { row := floatsOrderUptoRow, standIns := [], harness := (true, "d6fe23a0e4824359ab8067bc2a8acddee26c609a8e636466dfb5dc6a7ba526cf"), looks := true }, kinds := [], alts := [], laidByText := true, laidKinds := [.data, .data, .data, .data, .sentinel, .sentinel, .data, .pinned], laidTests := true, laidLooks := .later }
def FloatsOrderUptoCardSaid : Prop := Claim7.holds Tryz.pinned (.plain (OpenSpec.upto floatsOrderSpec)) floatsOrderUptoCard

/-- THE SECOND FORM's CARD OF 'inarchlaw06.FloatsJSON'. -/
def floatsJSONUptoCard : Claim7 := { stood := { row := floatsJSONUptoRow, standIns := [], harness := (true, "d6fe23a0e4824359ab8067bc2a8acddee26c609a8e636466dfb5dc6a7ba526cf"), looks := true }, kinds := [], alts := [], laidByText := true, laidKinds := [.data, .data, .data, .data, .sentinel, .sentinel, .data, .pinned], laidTests := true, laidLooks := .later }
def FloatsJSONUptoCardSaid : Prop := Claim7.holds Tryz.pinned (.plain (OpenSpec.upto floatsJSONSpec)) floatsJSONUptoCard
end Rows
end Go.Proofs.YtncldnghhpdolaaGreatDoor
