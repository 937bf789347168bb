/-
  NARROWER THAN 'FOR EVERY INPUT', by the rows' own cells (each row's printed sentence says how): TquotesWrite: laid · TquotesBack: laid · TquotesFolds: laid.
  DERIVED. THE GIVEN ROWS OF THIS SEAT. 3 by the template 'for every input the law returns true; each argument reads behind the call as it read before'; 0 by the template 'total and deterministic' (their statements: YthcmamhoanineaaDoorTotals.lean).
  GIVEN WITH THE SEED: the statements are not yours to turn. If you find one false, say at which input.
  Laid BY PROGRAM, IN A SANDBOX (cutbox-rows.mjs): the forced cells as the released guide's own fill.sh prints them over the translation 1cb2e6c02640c8ef… (all of the seat's roots in one cut). By AI agents, Wed Nov 11 2026. No macro, syntax, notation, axiom, sorry.
-/
import Derived.Test.YthcmamhoanineaaDoorChecked
import GoSem.PinnedTables
import GoSem.Claim
import GoSem.ClaimJoined
import GoSem.ClaimMapViews
import Derived.JoinedTies
import Derived.KernelRfl
namespace Go.Proofs.YthcmamhoanineaaDoor
/- THE CELL 'sum', in the pinned program and in every row, IS THE sha256 OF THE DUMP (.gsa) THAT YthcmamhoanineaaDoorProg.lean LOADS. Nothing in Lean hashes anything: it is a label: what it is worth is what the hold of that sum in a sandbox is worth. -/
noncomputable def Tryd.pinned : Pinned := { name := "ythcmamhoanineaadoor", sum := "1cb2e6c02640c8ef14edd7b36916ee5220e53364438fb8df929be8eacb7df261", checked := Tryd.checked }
namespace Rows
def none {H : Type} : Left H := { results := [], args := [] }

/- WHAT THE LISTED PACKAGE-LEVEL VARIABLES READ AS WHEN THE CALL BEGINS. Each datum BY PROGRAM (the guide's laid-datum.mjs) off the statement by which the dump's own 'gosem.cut.vars' lays the variable. In a bare row this is a premise. The card (YthcmamhoanineaaDoorCards.lean) ties it to the program's text. -/
def laid_inarch_tquotes_shorts {H : Type} : DataW H := .agg [.agg [.lit (.int .u8 98), .lit (.int .u8 8)], .agg [.lit (.int .u8 116), .lit (.int .u8 9)], .agg [.lit (.int .u8 110), .lit (.int .u8 10)], .agg [.lit (.int .u8 102), .lit (.int .u8 12)], .agg [.lit (.int .u8 114), .lit (.int .u8 13)], .agg [.lit (.int .u8 34), .lit (.int .u8 34)], .agg [.lit (.int .u8 92), .lit (.int .u8 92)]]
def laid_unicode_utf8_acceptRanges {H : Type} : DataW H := .agg [.agg [.lit (.int .u8 128), .lit (.int .u8 191)], .agg [.lit (.int .u8 160), .lit (.int .u8 191)], .agg [.lit (.int .u8 128), .lit (.int .u8 159)], .agg [.lit (.int .u8 144), .lit (.int .u8 191)], .agg [.lit (.int .u8 128), .lit (.int .u8 143)], .agg [.lit (.int .u8 0), .lit (.int .u8 0)], .agg [.lit (.int .u8 0), .lit (.int .u8 0)], .agg [.lit (.int .u8 0), .lit (.int .u8 0)], .agg [.lit (.int .u8 0), .lit (.int .u8 0)], .agg [.lit (.int .u8 0), .lit (.int .u8 0)], .agg [.lit (.int .u8 0), .lit (.int .u8 0)], .agg [.lit (.int .u8 0), .lit (.int .u8 0)], .agg [.lit (.int .u8 0), .lit (.int .u8 0)], .agg [.lit (.int .u8 0), .lit (.int .u8 0)], .agg [.lit (.int .u8 0), .lit (.int .u8 0)], .agg [.lit (.int .u8 0), .lit (.int .u8 0)]]
/-- One of Go's own tables, pinned by name: the form's constant. -/
def laid_unicode_utf8_first : DataW Unit := Go.Pinned.utf8First

/-- 'inarchlaw04.TquotesWrite': WHATEVER THE INPUT: true; the input reads as it did. -/
def tquotesWriteSpec : ChangeSpec := { name := "tquotesWrite", fn := fun _ => fun
  | [d] => { results := [.lit (.bool true)], args := [d] }
  | _ => none }
def tquotesWriteRow : OpenClaim := { program := "ythcmamhoanineaadoor", sum := "1cb2e6c02640c8ef14edd7b36916ee5220e53364438fb8df929be8eacb7df261", func := "inarch/inarchlaw04.TquotesWrite", spec := "tquotesWrite", unfollowed := true, recurses := true, named := ["inarch/tquotes.shorts"], apart := false, laid := [("inarch/tquotes.shorts", laid_inarch_tquotes_shorts)] }
def TquotesWriteSaid : Prop := tquotesWriteRow.holds Tryd.pinned (OpenSpec.ofChange tquotesWriteSpec)

/-- ITS FALSE NEIGHBOUR: 'it returns false'. Refute it at one input. -/
def tquotesWriteWrong : ChangeSpec := { name := "tquotesWrite", fn := fun _ => fun
  | [d] => { results := [.lit (.bool false)], args := [d] }
  | _ => none }
def TquotesWriteWrongFalsely : Prop := tquotesWriteRow.holds Tryd.pinned (OpenSpec.ofChange tquotesWriteWrong)

/-- 'inarchlaw04.TquotesBack': WHATEVER THE INPUT: true; the input reads as it did. -/
def tquotesBackSpec : ChangeSpec := { name := "tquotesBack", fn := fun _ => fun
  | [d1, d2, d3] => { results := [.lit (.bool true)], args := [d1, d2, d3] }
  | _ => none }
def tquotesBackRow : OpenClaim := { program := "ythcmamhoanineaadoor", sum := "1cb2e6c02640c8ef14edd7b36916ee5220e53364438fb8df929be8eacb7df261", func := "inarch/inarchlaw04.TquotesBack", spec := "tquotesBack", unfollowed := true, recurses := true, named := ["inarch/tquotes.shorts"], apart := false, laid := [("inarch/tquotes.shorts", laid_inarch_tquotes_shorts)] }
def TquotesBackSaid : Prop := tquotesBackRow.holds Tryd.pinned (OpenSpec.ofChange tquotesBackSpec)

/-- ITS FALSE NEIGHBOUR: 'it returns false'. Refute it at one input. -/
def tquotesBackWrong : ChangeSpec := { name := "tquotesBack", fn := fun _ => fun
  | [d1, d2, d3] => { results := [.lit (.bool false)], args := [d1, d2, d3] }
  | _ => none }
def TquotesBackWrongFalsely : Prop := tquotesBackRow.holds Tryd.pinned (OpenSpec.ofChange tquotesBackWrong)

/-- 'inarchlaw04.TquotesFolds': WHATEVER THE INPUT: true; the input reads as it did. -/
def tquotesFoldsSpec : ChangeSpec := { name := "tquotesFolds", fn := fun _ => fun
  | [d1, d2, d3] => { results := [.lit (.bool true)], args := [d1, d2, d3] }
  | _ => none }
def tquotesFoldsRow : OpenClaim := { program := "ythcmamhoanineaadoor", sum := "1cb2e6c02640c8ef14edd7b36916ee5220e53364438fb8df929be8eacb7df261", func := "inarch/inarchlaw04.TquotesFolds", spec := "tquotesFolds", inPlace := ["internal/bytealg.IndexByteString", "internal/bytealg.IndexString"], unfollowed := true, recurses := true, named := ["unicode/utf8.first", "unicode/utf8.acceptRanges", "internal/bytealg.MaxLen"], apart := false, laid := [("unicode/utf8.acceptRanges", laid_unicode_utf8_acceptRanges), ("unicode/utf8.first", laid_unicode_utf8_first)] }
def TquotesFoldsSaid : Prop := tquotesFoldsRow.holds Tryd.pinned (OpenSpec.ofChange tquotesFoldsSpec)

/-- ITS FALSE NEIGHBOUR: 'it returns false'. Refute it at one input. -/
def tquotesFoldsWrong : ChangeSpec := { name := "tquotesFolds", fn := fun _ => fun
  | [d1, d2, d3] => { results := [.lit (.bool false)], args := [d1, d2, d3] }
  | _ => none }
def TquotesFoldsWrongFalsely : Prop := tquotesFoldsRow.holds Tryd.pinned (OpenSpec.ofChange tquotesFoldsWrong)

/- THE SECOND FORM. 'bulk': how many values and letters a reading holds, each counted each time it is reached (what is shared counts as often as it is met; a slice's spare places count too). A statement '..UptoSaid' is the law's where the arguments, and the package variables that the reading takes, are together of bulk at most 1048576: NARROWER than '..Said'. Prove '..Said' where nothing that the law and all that it calls make is longer than what came in: it says more and counts as full. Else prove '..UptoSaid'. A law counts once. -/
mutual
def uptoBulk {H : Type} : DataW H → Nat
  | .lit (.string bytes) => bytes.length + 1
  | .lit _ => 1
  | .nil => 1
  | .ptr d => uptoBulk d + 1
  | .slice elems spare => uptoBulkAll elems + uptoBulkAll spare + 1
  | .agg parts => uptoBulkAll parts + 1
  | .iface _ d => uptoBulk d + 1
  | .map entries => uptoBulkEntries entries + 1
  | .held _ => 1
def uptoBulkAll {H : Type} : List (DataW H) → Nat
  | [] => 0
  | d :: r => uptoBulk d + uptoBulkAll r
def uptoBulkEntries {H : Type} : List (Lit × DataW H) → Nat
  | [] => 0
  | x :: r => uptoBulkEntry x + uptoBulkEntries r
def uptoBulkEntry {H : Type} : Lit × DataW H → Nat
  | (.string bytes, d) => bytes.length + uptoBulk d + 1
  | (_, d) => uptoBulk d + 1
 end
def uptoSmall : (H : Type) → List (DataW H) → Bool := fun _ ds => decide (uptoBulkAll ds ≤ 1048576)
def OpenSpec.upto (s : _root_.Go.ChangeSpec) : _root_.Go.OpenSpec := { _root_.Go.OpenSpec.ofChange s with cond := some uptoSmall }

/-- 'inarchlaw04.TquotesWrite', WHERE WHAT IT READS IS OF BULK AT MOST 1048576: true; the input reads as it did. -/
def tquotesWriteUptoRow : OpenClaim := { program := "ythcmamhoanineaadoor", sum := "1cb2e6c02640c8ef14edd7b36916ee5220e53364438fb8df929be8eacb7df261", func := "inarch/inarchlaw04.TquotesWrite", spec := "tquotesWrite", unfollowed := true, recurses := true, named := ["inarch/tquotes.shorts"], apart := false, laid := [("inarch/tquotes.shorts", laid_inarch_tquotes_shorts)], narrowed := true }
def TquotesWriteUptoSaid : Prop := tquotesWriteUptoRow.holds Tryd.pinned (OpenSpec.upto tquotesWriteSpec)

/-- 'inarchlaw04.TquotesBack', WHERE WHAT IT READS IS OF BULK AT MOST 1048576: true; the input reads as it did. -/
def tquotesBackUptoRow : OpenClaim := { program := "ythcmamhoanineaadoor", sum := "1cb2e6c02640c8ef14edd7b36916ee5220e53364438fb8df929be8eacb7df261", func := "inarch/inarchlaw04.TquotesBack", spec := "tquotesBack", unfollowed := true, recurses := true, named := ["inarch/tquotes.shorts"], apart := false, laid := [("inarch/tquotes.shorts", laid_inarch_tquotes_shorts)], narrowed := true }
def TquotesBackUptoSaid : Prop := tquotesBackUptoRow.holds Tryd.pinned (OpenSpec.upto tquotesBackSpec)

/-- 'inarchlaw04.TquotesFolds', WHERE WHAT IT READS IS OF BULK AT MOST 1048576: true; the input reads as it did. -/
def tquotesFoldsUptoRow : OpenClaim := { program := "ythcmamhoanineaadoor", sum := "1cb2e6c02640c8ef14edd7b36916ee5220e53364438fb8df929be8eacb7df261", func := "inarch/inarchlaw04.TquotesFolds", spec := "tquotesFolds", inPlace := ["internal/bytealg.IndexByteString", "internal/bytealg.IndexString"], unfollowed := true, recurses := true, named := ["unicode/utf8.first", "unicode/utf8.acceptRanges", "internal/bytealg.MaxLen"], apart := false, laid := [("unicode/utf8.acceptRanges", laid_unicode_utf8_acceptRanges), ("unicode/utf8.first", laid_unicode_utf8_first)], narrowed := true }
def TquotesFoldsUptoSaid : Prop := tquotesFoldsUptoRow.holds Tryd.pinned (OpenSpec.upto tquotesFoldsSpec)

end Rows
end Go.Proofs.YthcmamhoanineaaDoor
