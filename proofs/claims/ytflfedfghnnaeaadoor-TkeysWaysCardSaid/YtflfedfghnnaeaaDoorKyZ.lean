/- From the laid variables to what the walks of chapter 10 lean on; no statement of the seat is proved here. -/
import Derived.Test.YtflfedfghnnaeaaDoorKyAr
import Derived.Test.YtflfedfghnnaeaaDoorRows
import Derived.LaidMore
import Derived.LaidLaws
import Derived.ProofKit
import Derived.Stop.Joined
import Derived.Lib.LaidU8
namespace Go.Proofs.YtflfedfghnnaeaaDoor
open Go.ChangeShapes Go.WideShapes Go.ChangeAt Go.RowKit

theorem laid_next {P : Program} {w : World} {n : String} {d : DataW Unit} {l : List (String × DataW Unit)} {ps : List MemPlace} (h : DataW.LaidVars P w ((n, d) :: l) ps) :
    (∃ g t cs fuel p, P.globalNamed n = some g ∧ (P.globals[g]?).map (·.type) = some t ∧ w.var? P n = some cs ∧ DataW.trod (fun _ => ()) P w 0 (fun _ => true) false fuel t cs.toList = some (d, p)) ∧ ∃ q, DataW.LaidVars P w l q := by
  obtain ⟨g, t, cs, fuel, p, q, h1, h2, h3, h4, h5, _⟩ := h
  exact ⟨⟨g, t, cs, fuel, p, h1, h2, h3, h4⟩, q, h5⟩

def DataW.elem (d : DataW Unit) (k : Nat) : Option (DataW Unit) := match d with | .agg ds => ds[k]? | _ => Option.none
theorem of_laid {l : List (String × DataW Unit)} (hl : l = [("unicode/utf8.acceptRanges", Rows.laid_unicode_utf8_acceptRanges), ("inarch/tquotes.shorts", Rows.laid_inarch_tquotes_shorts), ("unicode/utf8.first", Rows.laid_unicode_utf8_first)])
    {W : World} (h : laidMetH Tryd.prog l W) : Glob W := by
  subst hl
  rw [MakeChecks.laidMetH_plain _ _ _ (by kernel_rfl)] at h
  obtain ⟨ps, hv, _⟩ := h
  obtain ⟨_, _, hv⟩ := laid_next hv
  obtain ⟨⟨g2, t2, cs2, f2, p2, hg2, ht2, hv2, hd2⟩, _, hv⟩ := laid_next hv
  obtain rfl := Option.some.inj ((show Tryd.prog.globalNamed "inarch/tquotes.shorts" = some 0 by kernel_rfl).symm.trans hg2)
  obtain rfl := Option.some.inj ((show (Tryd.prog.globals[0]?).map (·.type) = some 83 by kernel_rfl).symm.trans ht2)
  constructor
  have el : ∀ (k : Nat) (a b : Int), k < 7 → DataW.elem Rows.laid_inarch_tquotes_shorts k = some (.agg ([a, b].map fun z => .lit (.int .u8 z))) → W.cell? ⟨0, k * 2, none⟩ = some (.int .u8 a) ∧ W.cell? ⟨0, k * 2 + 1, none⟩ = some (.int .u8 b) := by
    intro k a b hk he
    unfold Rows.laid_inarch_tquotes_shorts at hd2 he
    obtain ⟨f', d, q, hd, ht⟩ := Lib.array_elem Tryd.underlying83 hd2 k hk
    have hde : d = .agg ([a, b].map fun z => .lit (.int .u8 z)) := Option.some.inj (hd.symm.trans he)
    subst hde
    have hc : Tryd.prog.cellsOf 82 = 2 := by kernel_rfl
    rw [hc] at ht
    have hl := Lib.ints_of_struct Tryd.underlying82 (fun i f hf => by
      have hi : i = 0 ∨ i = 1 := by
        have := (Array.getElem?_eq_some_iff.1 hf).1
        simp at this
        omega
      rcases hi with rfl | rfl <;> (cases hf; exact ⟨Tryd.underlying5, rfl, by kernel_rfl⟩)) hc ht
    have h0 : cs2.toList[k * 2]? = some (.int .u8 a) := by
      have := congrArg (·[0]?) hl
      simpa [List.getElem?_take, List.getElem?_drop] using this
    have h1 : cs2.toList[k * 2 + 1]? = some (.int .u8 b) := by
      have := congrArg (·[1]?) hl
      simpa [List.getElem?_take, List.getElem?_drop] using this
    exact ⟨(World.var?_cell hg2 hv2 (k * 2)).trans (by simpa using h0), (World.var?_cell hg2 hv2 (k * 2 + 1)).trans (by simpa using h1)⟩
  intro i v hi
  have h16 : i = 0 ∨ i = 1 ∨ i = 2 ∨ i = 3 ∨ i = 4 ∨ i = 5 ∨ i = 6 ∨ i = 7 ∨ i = 8 ∨ i = 9 ∨ i = 10 ∨ i = 11 ∨ i = 12 ∨ i = 13 := by
    have := (Array.getElem?_eq_some_iff.1 hi).1
    simp at this
    omega
  rcases h16 with rfl | rfl | rfl | rfl | rfl | rfl | rfl | rfl | rfl | rfl | rfl | rfl | rfl | rfl <;> (cases hi)
  · exact (el 0 98 8 (by omega) rfl).1
  · exact (el 0 98 8 (by omega) rfl).2
  · exact (el 1 116 9 (by omega) rfl).1
  · exact (el 1 116 9 (by omega) rfl).2
  · exact (el 2 110 10 (by omega) rfl).1
  · exact (el 2 110 10 (by omega) rfl).2
  · exact (el 3 102 12 (by omega) rfl).1
  · exact (el 3 102 12 (by omega) rfl).2
  · exact (el 4 114 13 (by omega) rfl).1
  · exact (el 4 114 13 (by omega) rfl).2
  · exact (el 5 34 34 (by omega) rfl).1
  · exact (el 5 34 34 (by omega) rfl).2
  · exact (el 6 92 92 (by omega) rfl).1
  · exact (el 6 92 92 (by omega) rfl).2

end Go.Proofs.YtflfedfghnnaeaaDoor
