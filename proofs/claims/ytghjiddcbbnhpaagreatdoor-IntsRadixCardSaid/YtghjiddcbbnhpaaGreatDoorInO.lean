/- From the laid variables to the cells that TrailingZeros64 reads; no statement of the seat is proved here. -/
import Derived.Test.YtghjiddcbbnhpaaGreatDoorInM
import Derived.Test.YtghjiddcbbnhpaaGreatDoorInB
namespace Go.Proofs.YtghjiddcbbnhpaaGreatDoor
open Go.ChangeShapes Go.WideShapes Go.ChangeAt Go.RowKit

def dbTab : List Int := [0, 1, 56, 2, 57, 49, 28, 3, 61, 58, 42, 50, 38, 29, 17, 4, 62, 47, 59, 36, 45, 43, 51, 22, 53, 39, 33, 30, 24, 18, 12, 5, 63, 55, 48, 27, 60, 41, 37, 16, 46, 35, 44, 21, 52, 32, 23, 11, 54, 26, 40, 15, 34, 20, 31, 10, 25, 14, 19, 9, 13, 8, 7, 6]
theorem db_of_laid {l rest : List (String × DataW Unit)} (hl : l = ("math/bits.deBruijn32tab", Rows.laid_math_bits_deBruijn32tab) :: ("math/bits.deBruijn64tab", Rows.laid_math_bits_deBruijn64tab) :: rest)
    {W : World} (h : laidMetH Tryz.prog l W) (hp : laidMetH Tryz.prog l W → laidMet Tryz.prog l W) (hG : Gl W) : Db W := by
  have h := hp h
  subst hl
  obtain ⟨ps, hv, _⟩ := h
  obtain ⟨_, _, hv⟩ := laid_next hv
  obtain ⟨⟨g1, t1, cs1, f1, p1, hg1, ht1, hv1, hd1⟩, _, hv⟩ := laid_next hv
  obtain rfl := Option.some.inj ((show Tryz.prog.globalNamed "math/bits.deBruijn64tab" = some 9 by kernel_rfl).symm.trans hg1)
  obtain rfl := Option.some.inj ((show (Tryz.prog.globals[9]?).map (·.type) = some 158 by kernel_rfl).symm.trans ht1)
  have hz : (Rows.laid_math_bits_deBruijn64tab : DataW Unit) = Lib.tabData .u8 dbTab := by rfl
  rw [hz] at hd1
  have ht : Lib.TabIs Tryz.prog W "math/bits.deBruijn64tab" .u8 dbTab := by
    unfold Lib.TabIs
    rw [hv1, ← Lib.cells_of_tab Tryz.underlying158 Tryz.underlying5 (by kernel_rfl) (by kernel_rfl) hd1]
  exact ⟨hG.big, ht.cell hg1 1 (by decide), ht.cell hg1 7 (by decide), ht.cell hg1 15 (by decide)⟩

end Go.Proofs.YtghjiddcbbnhpaaGreatDoor
