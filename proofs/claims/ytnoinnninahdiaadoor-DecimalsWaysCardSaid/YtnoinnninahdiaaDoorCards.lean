/-
  DERIVED. GIVEN WITH THE SEED: THE CARDS: each row of YtnoinnninahdiaaDoorRows.lean that lists a variable, with what it lists TIED to the program's text (the seventh form; the later family's looks); each row that meets fmt, with fmt's text TOLD by the authors' own Lean function (tested against real Go, not proved from fmt's source: count such statements apart). THE CARD IS WHAT COUNTS. Prove the row's statement (the work); the ties are given (YtnoinnninahdiaaDoorTie.lean); close each card by the builder's one call (the guide's Derived/Test/ToyasCard.lean, 'card_holds'). Laid BY PROGRAM, IN A SANDBOX (cutbox-door.mjs). By AI agents, Wed Nov 11 2026. No macro, syntax, notation, axiom, sorry.
-/
import Derived.Test.YtnoinnninahdiaaDoorRows
import GoSem.ClaimSeven
namespace Go.Proofs.YtnoinnninahdiaaDoor
namespace Rows

/-- THE TIED CARD OF 'inarchlaw02.DecimalsRead'. -/
def decimalsReadCard : Claim7 := { stood := { row := decimalsReadRow, standIns := [], harness := (true, "e1f48f5e680ec86c6104ecc435fb031ea274bee98aa1e58aa889d7a00f942b71"), looks := true }, kinds := [], alts := [], laidByText := true, laidKinds := [.data, .data, .data, .data, .sentinel, .sentinel, .pinned], laidTests := true, laidLooks := .later }
def DecimalsReadCardSaid : Prop := Claim7.holds Tryd.pinned (.plain (OpenSpec.ofChange decimalsReadSpec)) decimalsReadCard

/-- THE TIED CARD OF 'inarchlaw02.DecimalsLess'. -/
def decimalsLessCard : Claim7 := { stood := { row := decimalsLessRow, standIns := [], harness := (true, "e1f48f5e680ec86c6104ecc435fb031ea274bee98aa1e58aa889d7a00f942b71"), looks := true }, kinds := [], alts := [], laidByText := true, laidKinds := [.data, .data, .data, .data, .sentinel, .sentinel, .pinned], laidTests := true, laidLooks := .later }
def DecimalsLessCardSaid : Prop := Claim7.holds Tryd.pinned (.plain (OpenSpec.ofChange decimalsLessSpec)) decimalsLessCard

/-- THE TIED CARD OF 'inarchlaw02.DecimalsOrder'. -/
def decimalsOrderCard : Claim7 := { stood := { row := decimalsOrderRow, standIns := [], harness := (true, "e1f48f5e680ec86c6104ecc435fb031ea274bee98aa1e58aa889d7a00f942b71"), looks := true }, kinds := [], alts := [], laidByText := true, laidKinds := [.data, .data, .data, .data, .sentinel, .sentinel, .pinned], laidTests := true, laidLooks := .later }
def DecimalsOrderCardSaid : Prop := Claim7.holds Tryd.pinned (.plain (OpenSpec.ofChange decimalsOrderSpec)) decimalsOrderCard

/-- THE TIED CARD OF 'inarchlaw02.DecimalsValue'. -/
def decimalsValueCard : Claim7 := { stood := { row := decimalsValueRow, standIns := [], harness := (true, "e1f48f5e680ec86c6104ecc435fb031ea274bee98aa1e58aa889d7a00f942b71"), looks := true }, kinds := [], alts := [], laidByText := true, laidKinds := [.data, .data, .data, .data, .sentinel, .sentinel, .pinned], laidTests := true, laidLooks := .later }
def DecimalsValueCardSaid : Prop := Claim7.holds Tryd.pinned (.plain (OpenSpec.ofChange decimalsValueSpec)) decimalsValueCard

/-- THE TIED CARD OF 'inarchlaw02.DecimalsWays'. -/
def decimalsWaysCard : Claim7 := { stood := { row := decimalsWaysRow, standIns := [], harness := (true, "e1f48f5e680ec86c6104ecc435fb031ea274bee98aa1e58aa889d7a00f942b71"), looks := true }, kinds := [], alts := [], laidByText := true, laidKinds := [.data, .data, .data, .data, .sentinel, .sentinel, .pinned], laidTests := true, laidLooks := .later }
def DecimalsWaysCardSaid : Prop := Claim7.holds Tryd.pinned (.plain (OpenSpec.ofChange decimalsWaysSpec)) decimalsWaysCard

/-- THE SECOND FORM's CARD OF 'inarchlaw02.DecimalsRead'. -/
def decimalsReadUptoCard : Claim7 := { stood := { row := decimalsReadUptoRow, standIns := [], harness := (true, "e1f48f5e680ec86c6104ecc435fb031ea274bee98aa1e58aa889d7a00f942b71"), looks := true }, kinds := [], alts := [], laidByText := true, laidKinds := [.data, .data, .data, .data, .sentinel, .sentinel, .pinned], laidTests := true, laidLooks := .later }
def DecimalsReadUptoCardSaid : Prop := Claim7.holds Tryd.pinned (.plain (OpenSpec.upto decimalsReadSpec)) decimalsReadUptoCard

/-- THE SECOND FORM's CARD OF 'inarchlaw02.DecimalsLess'. -/
def decimalsLessUptoCard : Claim7 := { stood := { row := decimalsLessUptoRow, standIns := [], harness := (true, "e1f48f5e680ec86c6104ecc435fb031ea274bee98aa1e58aa889d7a00f942b71"), looks := true }, kinds := [], alts := [], laidByText := true, laidKinds := [.data, .data, .data, .data, .sentinel, .sentinel, .pinned], laidTests := true, laidLooks := .later }
def DecimalsLessUptoCardSaid : Prop := Claim7.holds Tryd.pinned (.plain (OpenSpec.upto decimalsLessSpec)) decimalsLessUptoCard

/-- THE SECOND FORM's CARD OF 'inarchlaw02.DecimalsOrder'. -/
def decimalsOrderUptoCard : Claim7 := { stood := { row := decimalsOrderUptoRow, standIns := [], harness := (true, "e1f48f5e680ec86c6104ecc435fb031ea274bee98aa1e58aa889d7a00f942b71"), looks := true }, kinds := [], alts := [], laidByText := true, laidKinds := [.data, .data, .data, .data, .sentinel, .sentinel, .pinned], laidTests := true, laidLooks := .later }
def DecimalsOrderUptoCardSaid : Prop := Claim7.holds Tryd.pinned (.plain (OpenSpec.upto decimalsOrderSpec)) decimalsOrderUptoCard

/-- THE SECOND FORM's CARD OF 'inarchlaw02.DecimalsValue'. -/
def decimalsValueUptoCard : Claim7 := { stood := { row := decimalsValueUptoRow, standIns := [], harness := (true, "e1f48f5e680ec86c6104ecc435fb031ea274bee98aa1e58aa889d7a00f942b71"), looks := true }, kinds := [], alts := [], laidByText := true, laidKinds := [.data, .data, .data, .data, .sentinel, .sentinel, .pinned], laidTests := true, laidLooks := .later }
def DecimalsValueUptoCardSaid : Prop := Claim7.holds Tryd.pinned (.plain (OpenSpec.upto decimalsValueSpec)) decimalsValueUptoCard

/-- THE SECOND FORM's CARD OF 'inarchlaw02.DecimalsWays'. -/
def decimalsWaysUptoCard : Claim7 := { stood := { row := decimalsWaysUptoRow, standIns := [], harness := (true, "e1f48f5e680ec86c6104ecc435fb031ea274bee98aa1e58aa889d7a00f942b71"), looks := true }, kinds := [], alts := [], laidByText := true, laidKinds := [.data, .data, .data, .data, .sentinel, .sentinel, .pinned], laidTests := true, laidLooks := .later }
def DecimalsWaysUptoCardSaid : Prop := Claim7.holds Tryd.pinned (.plain (OpenSpec.upto decimalsWaysSpec)) decimalsWaysUptoCard
end Rows
end Go.Proofs.YtnoinnninahdiaaDoor
