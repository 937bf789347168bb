/-
  DERIVED. GIVEN WITH THE SEED: THE CARDS: each row of YtpchipmpgoflfaaDoorRows.lean that lists a variable, with what it lists TIED to the program's text (the seventh form; the later family's looks); each row that meets fmt, with fmt's text TOLD by the authors' own Lean function (tested against real Go, not proved from fmt's source: count such statements apart). THE CARD IS WHAT COUNTS. Prove the row's statement (the work); the ties are given (YtpchipmpgoflfaaDoorTie.lean); close each card by the builder's one call (the guide's Derived/Test/ToyasCard.lean, 'card_holds'). Laid BY PROGRAM, IN A SANDBOX (cutbox-door.mjs). By AI agents, Wed Nov 11 2026. No macro, syntax, notation, axiom, sorry.
-/
import Derived.Test.YtpchipmpgoflfaaDoorRows
import GoSem.ClaimSeven
namespace Go.Proofs.YtpchipmpgoflfaaDoor
namespace Rows

/-- THE TIED CARD OF 'inarchlaw03.QuotesRead'. -/
def quotesReadCard : Claim7 := { stood := { row := quotesReadRow, standIns := [], harness := (true, "f26fb66ea8fa937c8e0fc18a28c3a1031a975f7de414fc08ab9f0d13185d1f60"), looks := true }, kinds := [], alts := [], laidByText := true, laidKinds := [.data, .data, .data, .sentinel, .sentinel, .data], laidTests := true, laidLooks := .later }
def QuotesReadCardSaid : Prop := Claim7.holds Tryd.pinned (.plain (OpenSpec.ofChange quotesReadSpec)) quotesReadCard

/-- THE TIED CARD OF 'inarchlaw03.QuotesWrite'. -/
def quotesWriteCard : Claim7 := { stood := { row := quotesWriteRow, standIns := [], harness := (true, "f26fb66ea8fa937c8e0fc18a28c3a1031a975f7de414fc08ab9f0d13185d1f60"), looks := true }, kinds := [], alts := [], laidByText := true, laidKinds := [.data, .data, .data, .sentinel, .sentinel, .data], laidTests := true, laidLooks := .later }
def QuotesWriteCardSaid : Prop := Claim7.holds Tryd.pinned (.plain (OpenSpec.ofChange quotesWriteSpec)) quotesWriteCard

/-- THE TIED CARD OF 'inarchlaw03.QuotesBack'. -/
def quotesBackCard : Claim7 := { stood := { row := quotesBackRow, standIns := [], harness := (true, "f26fb66ea8fa937c8e0fc18a28c3a1031a975f7de414fc08ab9f0d13185d1f60"), looks := true }, kinds := [], alts := [], laidByText := true, laidKinds := [.data, .data, .data, .sentinel, .sentinel, .data], laidTests := true, laidLooks := .later }
def QuotesBackCardSaid : Prop := Claim7.holds Tryd.pinned (.plain (OpenSpec.ofChange quotesBackSpec)) quotesBackCard

/-- THE TIED CARD OF 'inarchlaw03.QuotesEscapes'. -/
def quotesEscapesCard : Claim7 := { stood := { row := quotesEscapesRow, standIns := [], harness := (true, "f26fb66ea8fa937c8e0fc18a28c3a1031a975f7de414fc08ab9f0d13185d1f60"), looks := true }, kinds := [], alts := [], laidByText := true, laidKinds := [.data, .data, .data, .sentinel, .sentinel, .data], laidTests := true, laidLooks := .later }
def QuotesEscapesCardSaid : Prop := Claim7.holds Tryd.pinned (.plain (OpenSpec.ofChange quotesEscapesSpec)) quotesEscapesCard

/-- THE TIED CARD OF 'inarchlaw03.QuotesCut'. -/
def quotesCutCard : Claim7 := { stood := { row := quotesCutRow, standIns := [], harness := (true, "f26fb66ea8fa937c8e0fc18a28c3a1031a975f7de414fc08ab9f0d13185d1f60"), looks := true }, kinds := [], alts := [], laidByText := true, laidKinds := [.data, .data, .data, .sentinel, .sentinel, .data], laidTests := true, laidLooks := .later }
def QuotesCutCardSaid : Prop := Claim7.holds Tryd.pinned (.plain (OpenSpec.ofChange quotesCutSpec)) quotesCutCard

/-- THE SECOND FORM's CARD OF 'inarchlaw03.QuotesRead'. -/
def quotesReadUptoCard : Claim7 := { stood := { row := quotesReadUptoRow, standIns := [], harness := (true, "f26fb66ea8fa937c8e0fc18a28c3a1031a975f7de414fc08ab9f0d13185d1f60"), looks := true }, kinds := [], alts := [], laidByText := true, laidKinds := [.data, .data, .data, .sentinel, .sentinel, .data], laidTests := true, laidLooks := .later }
def QuotesReadUptoCardSaid : Prop := Claim7.holds Tryd.pinned (.plain (OpenSpec.upto quotesReadSpec)) quotesReadUptoCard

/-- THE SECOND FORM's CARD OF 'inarchlaw03.QuotesWrite'. -/
def quotesWriteUptoCard : Claim7 := { stood := { row := quotesWriteUptoRow, standIns := [], harness := (true, "f26fb66ea8fa937c8e0fc18a28c3a1031a975f7de414fc08ab9f0d13185d1f60"), looks := true }, kinds := [], alts := [], laidByText := true, laidKinds := [.data, .data, .data, .sentinel, .sentinel, .data], laidTests := true, laidLooks := .later }
def QuotesWriteUptoCardSaid : Prop := Claim7.holds Tryd.pinned (.plain (OpenSpec.upto quotesWriteSpec)) quotesWriteUptoCard

/-- THE SECOND FORM's CARD OF 'inarchlaw03.QuotesBack'. -/
def quotesBackUptoCard : Claim7 := { stood := { row := quotesBackUptoRow, standIns := [], harness := (true, "f26fb66ea8fa937c8e0fc18a28c3a1031a975f7de414fc08ab9f0d13185d1f60"), looks := true }, kinds := [], alts := [], laidByText := true, laidKinds := [.data, .data, .data, .sentinel, .sentinel, .data], laidTests := true, laidLooks := .later }
def QuotesBackUptoCardSaid : Prop := Claim7.holds Tryd.pinned (.plain (OpenSpec.upto quotesBackSpec)) quotesBackUptoCard

/-- THE SECOND FORM's CARD OF 'inarchlaw03.QuotesEscapes'. -/
def quotesEscapesUptoCard : Claim7 := { stood := { row := quotesEscapesUptoRow, standIns := [], harness := (true, "f26fb66ea8fa937c8e0fc18a28c3a1031a975f7de414fc08ab9f0d13185d1f60"), looks := true }, kinds := [], alts := [], laidByText := true, laidKinds := [.data, .data, .data, .sentinel, .sentinel, .data], laidTests := true, laidLooks := .later }
def QuotesEscapesUptoCardSaid : Prop := Claim7.holds Tryd.pinned (.plain (OpenSpec.upto quotesEscapesSpec)) quotesEscapesUptoCard

/-- THE SECOND FORM's CARD OF 'inarchlaw03.QuotesCut'. -/
def quotesCutUptoCard : Claim7 := { stood := { row := quotesCutUptoRow, standIns := [], harness := (true, "f26fb66ea8fa937c8e0fc18a28c3a1031a975f7de414fc08ab9f0d13185d1f60"), looks := true }, kinds := [], alts := [], laidByText := true, laidKinds := [.data, .data, .data, .sentinel, .sentinel, .data], laidTests := true, laidLooks := .later }
def QuotesCutUptoCardSaid : Prop := Claim7.holds Tryd.pinned (.plain (OpenSpec.upto quotesCutSpec)) quotesCutUptoCard
end Rows
end Go.Proofs.YtpchipmpgoflfaaDoor
