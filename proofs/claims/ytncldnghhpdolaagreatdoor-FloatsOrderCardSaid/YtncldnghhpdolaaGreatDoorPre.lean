/- strings.HasPrefix, walked; no statement of the seat is proved here. -/
import Derived.Test.YtncldnghhpdolaaGreatDoorBase
namespace Go.Proofs.YtncldnghhpdolaaGreatDoor
open Go.RowKit

theorem pre_cut (s p : ByteArray) : (s.extract 0 p.size).data.toList = s.data.toList.take p.size := by
  rw [ByteArray.data_extract, Array.toList_extract]; simp
theorem pre_eq (s p : ByteArray) (b : Bool) (h : decide (s.data.toList.take p.size = p.data.toList) = b) : ((s.extract 0 p.size).toList == p.toList) = b := by
  rw [← h, ByteArray.toList_eq, ByteArray.toList_eq, pre_cut, Bool.eq_iff_iff, beq_iff_eq, decide_eq_true_iff]
theorem ihas_is (s p : ByteArray) (b : Bool) (h : decide (s.data.toList.take p.size = p.data.toList) = b) (_hs : s.size ≤ 1099511627776) (_hp : p.size ≤ 1099511627776) (w : World) :
    Calls Tryz.prog 93 #[.string s, .string p] w fun e w' => e = .returned (.bool b) ∧ w = w' := by
  by_cases hl : p.size ≤ s.size
  · have he := pre_eq s p b h
    clear h
    go_enter Tryz.func93, Tryz.ntmps93
    go_wp2
    go_ret
    exact ⟨rfl, rfl⟩
  · have hb : b = false := by
      rw [← h]
      refine decide_eq_false fun e => hl ?_
      have := congrArg List.length e
      have h1 : s.data.toList.length = s.size := rfl
      have h2 : p.data.toList.length = p.size := rfl
      rw [List.length_take, h1, h2] at this
      omega
    clear h
    subst hb
    go_enter Tryz.func93, Tryz.ntmps93
    go_wp2
    go_ret
    exact ⟨rfl, rfl⟩
/-- strings.HasPrefix: does the text begin so? -/
theorem has_is (s p : ByteArray) (b : Bool) (h : decide (s.data.toList.take p.size = p.data.toList) = b) (hs : s.size ≤ 1099511627776) (hp : p.size ≤ 1099511627776) (w : World) :
    Calls Tryz.prog 73 #[.string s, .string p] w fun e w' => e = .returned (.bool b) ∧ w = w' := by
  go_enter Tryz.func73, Tryz.ntmps73
  go_wp2_with fail
  refine (ihas_is s p b h hs hp _).mono ?_
  rintro e w' ⟨rfl, rfl⟩
  go_wp2
  go_ret
  exact ⟨rfl, rfl⟩

end Go.Proofs.YtncldnghhpdolaaGreatDoor
