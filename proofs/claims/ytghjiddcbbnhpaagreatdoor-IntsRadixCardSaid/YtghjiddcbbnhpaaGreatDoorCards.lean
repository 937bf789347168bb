/-
  DERIVED. GIVEN WITH THE SEED: THE CARDS: each row of YtghjiddcbbnhpaaGreatDoorRows.lean that lists a variable, with what it lists TIED to the program's text (the seventh form; the later family's looks); each row that meets fmt, with fmt's text TOLD by the authors' own Lean function (tested against real Go, not proved from fmt's source: count such statements apart). THE CARD IS WHAT COUNTS. Prove the row's statement (the work); the ties are given (YtghjiddcbbnhpaaGreatDoorTie.lean); close each card by the builder's one call (the guide's Derived/Test/ToyasCard.lean, 'card_holds'). Laid BY PROGRAM, IN A SANDBOX (cutbox-door.mjs). By AI agents, Wed Nov 11 2026. No macro, syntax, notation, axiom, sorry.
-/
import Derived.Test.YtghjiddcbbnhpaaGreatDoorRows
import GoSem.ClaimSeven
namespace Go.Proofs.YtghjiddcbbnhpaaGreatDoor
namespace Rows

/-- THE TIED CARD OF 'inarchlaw05.IntsRead'. -/
def intsReadCard : Claim7 := { stood := { row := intsReadRow, standIns := [], harness := (true, "4fd1c9bc5b986522d9a21e8c8a3d621fb339a21540016c6c42e8641fea34adf5"), looks := true }, kinds := [], alts := [], laidByText := true, laidKinds := [.data, .data, .data, .data, .sentinel, .sentinel, .data, .pinned], laidTests := true, laidLooks := .later }
def IntsReadCardSaid : Prop := Claim7.holds Tryz.pinned (.plain (OpenSpec.ofChange intsReadSpec)) intsReadCard

/-- THE TIED CARD OF 'inarchlaw05.IntsCmp'. -/
def intsCmpCard : Claim7 := { stood := { row := intsCmpRow, standIns := [], harness := (true, "4fd1c9bc5b986522d9a21e8c8a3d621fb339a21540016c6c42e8641fea34adf5"), looks := true }, kinds := [], alts := [], laidByText := true, laidKinds := [.data, .data, .data, .data, .sentinel, .sentinel, .data, .pinned], laidTests := true, laidLooks := .later }
def IntsCmpCardSaid : Prop := Claim7.holds Tryz.pinned (.plain (OpenSpec.ofChange intsCmpSpec)) intsCmpCard

/-- THE TIED CARD OF 'inarchlaw05.IntsOrder'. -/
def intsOrderCard : Claim7 := { stood := { row := intsOrderRow, standIns := [], harness := (true, "4fd1c9bc5b986522d9a21e8c8a3d621fb339a21540016c6c42e8641fea34adf5"), looks := true }, kinds := [], alts := [], laidByText := true, laidKinds := [.data, .data, .data, .data, .sentinel, .sentinel, .data, .pinned], laidTests := true, laidLooks := .later }
def IntsOrderCardSaid : Prop := Claim7.holds Tryz.pinned (.plain (OpenSpec.ofChange intsOrderSpec)) intsOrderCard

/-- THE TIED CARD OF 'inarchlaw05.IntsEdge'. -/
def intsEdgeCard : Claim7 := { stood := { row := intsEdgeRow, standIns := [], harness := (true, "4fd1c9bc5b986522d9a21e8c8a3d621fb339a21540016c6c42e8641fea34adf5"), looks := true }, kinds := [], alts := [], laidByText := true, laidKinds := [.data, .data, .data, .data, .sentinel, .sentinel, .data, .pinned], laidTests := true, laidLooks := .later }
def IntsEdgeCardSaid : Prop := Claim7.holds Tryz.pinned (.plain (OpenSpec.ofChange intsEdgeSpec)) intsEdgeCard

/-- THE TIED CARD OF 'inarchlaw05.IntsRadix'. -/
def intsRadixCard : Claim7 := { stood := { row := intsRadixRow, standIns := [], harness := (true, "4fd1c9bc5b986522d9a21e8c8a3d621fb339a21540016c6c42e8641fea34adf5"), looks := true }, kinds := [], alts := [], laidByText := true, laidKinds := [.data, .data, .data, .data, .sentinel, .sentinel, .data, .pinned, .pinned], laidTests := true, laidLooks := .later }
def IntsRadixCardSaid : Prop := Claim7.holds Tryz.pinned (.plain (OpenSpec.ofChange intsRadixSpec)) intsRadixCard

/-- THE SECOND FORM's CARD OF 'inarchlaw05.IntsRead'. -/
def intsReadUptoCard : Claim7 := { stood := { row := intsReadUptoRow, standIns := [], harness := (true, "4fd1c9bc5b986522d9a21e8c8a3d621fb339a21540016c6c42e8641fea34adf5"), looks := true }, kinds := [], alts := [], laidByText := true, laidKinds := [.data, .data, .data, .data, .sentinel, .sentinel, .data, .pinned], laidTests := true, laidLooks := .later }
def IntsReadUptoCardSaid : Prop := Claim7.holds Tryz.pinned (.plain (OpenSpec.upto intsReadSpec)) intsReadUptoCard

/-- THE SECOND FORM's CARD OF 'inarchlaw05.IntsCmp'. -/
def intsCmpUptoCard : Claim7 := { stood := { row := intsCmpUptoRow, standIns := [], harness := (true, "4fd1c9bc5b986522d9a21e8c8a3d621fb339a21540016c6c42e8641fea34adf5"), looks := true }, kinds := [], alts := [], laidByText := true, laidKinds := [.data, .data, .data, .data, .sentinel, .sentinel, .data, .pinned], laidTests := true, laidLooks := .later }
def IntsCmpUptoCardSaid : Prop := Claim7.holds Tryz.pinned (.plain (OpenSpec.upto intsCmpSpec)) intsCmpUptoCard

/-- THE SECOND FORM's CARD OF 'inarchlaw05.IntsOrder'. -/
def intsOrderUptoCard : Claim7 := { stood := { row := intsOrderUptoRow, standIns := [], harness := (true, "4fd1c9bc5b986522d9a21e8c8a3d621fb339a21540016c6c42e8641fea34adf5"), looks := true }, kinds := [], alts := [], laidByText := true, laidKinds := [.data, .data, .data, .data, .sentinel, .sentinel, .data, .pinned], laidTests := true, laidLooks := .later }
def IntsOrderUptoCardSaid : Prop := Claim7.holds Tryz.pinned (.plain (OpenSpec.upto intsOrderSpec)) intsOrderUptoCard

/-- THE SECOND FORM's CARD OF 'inarchlaw05.IntsEdge'. -/
def intsEdgeUptoCard : Claim7 := { stood := { row := intsEdgeUptoRow, standIns := [], harness := (true, "4fd1c9bc5b986522d9a21e8c8a3d621fb339a21540016c6c42e8641fea34adf5"), looks := true }, kinds := [], alts := [], laidByText := true, laidKinds := [.data, .data, .data, .data, .sentinel, .sentinel, .data, .pinned], laidTests := true, laidLooks := .later }
def IntsEdgeUptoCardSaid : Prop := Claim7.holds Tryz.pinned (.plain (OpenSpec.upto intsEdgeSpec)) intsEdgeUptoCard

/-- THE SECOND FORM's CARD OF 'inarchlaw05.IntsRadix'. -/
def intsRadixUptoCard : Claim7 := { stood := { row := intsRadixUptoRow, standIns := [], harness := (true, "4fd1c9bc5b986522d9a21e8c8a3d621fb339a21540016c6c42e8641fea34adf5"), looks := true }, kinds := [], alts := [], laidByText := true, laidKinds := [.data, .data, .data, .data, .sentinel, .sentinel, .data, .pinned, .pinned], laidTests := true, laidLooks := .later }
def IntsRadixUptoCardSaid : Prop := Claim7.holds Tryz.pinned (.plain (OpenSpec.upto intsRadixSpec)) intsRadixUptoCard
end Rows
end Go.Proofs.YtghjiddcbbnhpaaGreatDoor
