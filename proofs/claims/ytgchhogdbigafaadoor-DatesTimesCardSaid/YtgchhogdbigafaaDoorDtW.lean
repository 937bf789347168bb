/- Plain law of chapter 07: the noughts at the end of a part of a second, as the reference strikes them; no program in it, and no statement of the seat is proved here. -/
import Derived.Test.YtgchhogdbigafaaDoorDtN
namespace Go.Proofs.YtgchhogdbigafaaDoor
open Go.RowKit

theorem app_list (a b : ByteArray) : (a ++ b).data.toList = a.data.toList ++ b.data.toList := by
  rw [ByteArray.data_append, Array.toList_append]
theorem app_size (a b : ByteArray) : (a ++ b).size = a.size + b.size := by simp
/-- Bytes struck from the end: noughts, and a point that stands alone. -/
def stripD (l : List UInt8) : List UInt8 := if l ≠ [] ∧ (l.getLast? = some 48 ∨ l = [46]) then stripD l.dropLast else l
termination_by l.length
decreasing_by rename_i h; have : 0 < l.length := List.length_pos_iff.2 h.1; simp; omega
theorem stripD_yes {l : List UInt8} (h : l ≠ []) (h' : l.getLast? = some 48 ∨ l = [46]) : stripD l = stripD l.dropLast := by rw [stripD, if_pos ⟨h, h'⟩]
theorem stripD_no {l : List UInt8} (h : ¬ (l.getLast? = some 48 ∨ l = [46])) : stripD l = l := by rw [stripD, if_neg (fun q => h q.2)]
theorem stripD_nil : stripD [] = [] := by rw [stripD]; simp
theorem rstrip_snoc (l : List UInt8) (c : UInt8) : rstrip (l ++ [c]) = if c = 48 then rstrip l else l ++ [c] := by
  unfold rstrip
  rw [List.reverse_append, List.reverse_singleton, List.singleton_append, List.dropWhile_cons]
  by_cases h : c = 48
  · simp [h]
  · simp [h]
theorem rstrip_nil : rstrip [] = [] := rfl
theorem strip_part (l : List UInt8) : stripD (46 :: l) = dotP (rstrip l) := by
  generalize hn : l.length = n
  induction n generalizing l with
  | zero =>
    obtain rfl := List.length_eq_zero_iff.1 hn
    rw [stripD_yes (by simp) (.inr rfl)]
    show stripD [] = _
    rw [stripD_nil, rstrip_nil]; rfl
  | succ n ih =>
    obtain ⟨a, c, rfl⟩ : ∃ a c, l = a ++ [c] := ⟨l.dropLast, l.getLast (by intro e; rw [e] at hn; simp at hn), (List.dropLast_concat_getLast _).symm⟩
    have ha : a.length = n := by simp at hn; exact hn
    rw [rstrip_snoc]
    have e : 46 :: (a ++ [c]) = (46 :: a) ++ [c] := rfl
    by_cases h : c = 48
    · rw [if_pos h, stripD_yes (by simp) (.inl (by rw [e, List.getLast?_concat, h])), e, List.dropLast_concat, ih a ha]
    · rw [if_neg h, stripD_no (by
        rw [e, List.getLast?_concat]
        rintro (q | q)
        · injection q with q; exact h q
        · have := congrArg List.length q; simp at this)]
      unfold dotP; rw [if_neg (by simp)]

end Go.Proofs.YtgchhogdbigafaaDoor
