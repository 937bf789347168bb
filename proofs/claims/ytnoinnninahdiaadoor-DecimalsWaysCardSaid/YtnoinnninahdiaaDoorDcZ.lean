/- From the laid variables to the table that the walks of chapter 02 lean on; no statement of the seat is proved here. -/
import Derived.Test.YtnoinnninahdiaaDoorDcC
import Derived.Test.YtnoinnninahdiaaDoorRows
import Derived.LaidMore
import Derived.LaidLaws
import Derived.ProofKit
import Derived.Stop.Joined
import Derived.Lib.LaidTab
namespace Go.Proofs.YtnoinnninahdiaaDoor
open Go.ChangeShapes Go.WideShapes Go.ChangeAt Go.RowKit

theorem laid_next {P : Program} {w : World} {n : String} {d : DataW Unit} {l : List (String × DataW Unit)} {ps : List MemPlace} (h : DataW.LaidVars P w ((n, d) :: l) ps) :
    (∃ g t cs fuel p, P.globalNamed n = some g ∧ (P.globals[g]?).map (·.type) = some t ∧ w.var? P n = some cs ∧ DataW.trod (fun _ => ()) P w 0 (fun _ => true) false fuel t cs.toList = some (d, p)) ∧ ∃ q, DataW.LaidVars P w l q := by
  obtain ⟨g, t, cs, fuel, p, q, h1, h2, h3, h4, h5, _⟩ := h
  exact ⟨⟨g, t, cs, fuel, p, h1, h2, h3, h4⟩, q, h5⟩
theorem of_laid {l rest : List (String × DataW Unit)} (hl : l = ("math/bits.deBruijn32tab", Rows.laid_math_bits_deBruijn32tab) :: ("math/bits.deBruijn64tab", Rows.laid_math_bits_deBruijn64tab) :: ("internal/strconv.uint64pow10", Rows.laid_internal_strconv_uint64pow10) :: rest)
    {W : World} (h : laidMetH Tryd.prog l W) (hp : laidMetH Tryd.prog l W → laidMet Tryd.prog l W) : TAB W := by
  have h := hp h
  subst hl
  obtain ⟨ps, hv, _⟩ := h
  obtain ⟨_, _, hv⟩ := laid_next hv
  obtain ⟨_, _, hv⟩ := laid_next hv
  obtain ⟨⟨g1, t1, cs1, f1, p1, hg1, ht1, hv1, hd1⟩, _, hv⟩ := laid_next hv
  obtain rfl := Option.some.inj ((show Tryd.prog.globalNamed "internal/strconv.uint64pow10" = some 0 by kernel_rfl).symm.trans hg1)
  obtain rfl := Option.some.inj ((show (Tryd.prog.globals[0]?).map (·.type) = some 107 by kernel_rfl).symm.trans ht1)
  have hz : (Rows.laid_internal_strconv_uint64pow10 : DataW Unit) = Lib.tabData .u64 Lib.pow10Tab := by rfl
  rw [hz] at hd1
  have ht : Lib.TabIs Tryd.prog W "internal/strconv.uint64pow10" .u64 Lib.pow10Tab := by
    unfold Lib.TabIs
    rw [hv1, ← Lib.cells_of_tab Tryd.underlying107 Tryd.underlying83 (by kernel_rfl) (by kernel_rfl) hd1]
  exact Lib.tabBelow_of_tabIs ht

end Go.Proofs.YtnoinnninahdiaaDoor
