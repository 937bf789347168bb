/- Plain laws of chapter 07: what a beginning's parts tell of its digits, and the bounds in numbers; no program in them, and no statement of the seat is proved here. -/
import Derived.Test.YtgchhogdbigafaaDoorDtP
namespace Go.Proofs.YtgchhogdbigafaaDoor
open Go.RowKit

theorem isD_tw {l : List UInt8} {i : Nat} (h : isD l i = true) : tw l i = true ∧ tw l (i + 2) = true ∧ tw l (i + 5) = true ∧ tw l (i + 8) = true := by
  simp only [isD, Bool.and_eq_true] at h; exact ⟨h.1, h.2.1, h.2.2.2.1, h.2.2.2.2.2⟩
theorem isC_tw {l : List UInt8} {i : Nat} (h : isC l i = true) : tw l i = true ∧ tw l (i + 3) = true ∧ tw l (i + 6) = true := by
  simp only [isC, Bool.and_eq_true] at h; exact ⟨h.1, h.2.2.1, h.2.2.2.2⟩
theorem isZ_tw {l : List UInt8} {i : Nat} (h : isZ l i = true) : tw l i = true ∧ tw l (i + 3) = true := by
  simp only [isZ, Bool.and_eq_true] at h; exact ⟨h.1, h.2.2⟩
theorem zoneN_cases (l : List UInt8) (i : Nat) : zoneN l i = 0 ∨ (zoneN l i = 1 ∧ (bt l i = 90 ∨ bt l i = 122)) ∨ (zoneN l i = 6 ∧ (bt l i = 43 ∨ bt l i = 45) ∧ isZ l (i + 1) = true) := by
  unfold zoneN
  split
  · exact .inr (.inl ⟨rfl, ‹_›⟩)
  · split
    · rename_i h; exact .inr (.inr ⟨rfl, h⟩)
    · exact .inl rfl
theorem twN_le {l : List UInt8} {i : Nat} (h : tw l i = true) : twN l i ≤ 99 := by
  unfold tw at h; rw [Bool.and_eq_true] at h
  have h1 := dgN_t.1 h.1; have h2 := dgN_t.1 h.2
  unfold twN; omega
/-- What spl is, in its five ways. -/
theorem spl_cases (l : List UInt8) :
    (isD l 0 = false ∧ isC l 0 = false ∧ spl l = ⟨false, false, 0, 0, 0⟩) ∨ (isD l 0 = false ∧ isC l 0 = true ∧ spl l = ⟨false, true, 0, partN l 8, 0⟩) ∨
    (isD l 0 = true ∧ (midB l && isC l 11) = false ∧ spl l = ⟨true, false, 0, 0, 0⟩) ∨ (isD l 0 = true ∧ midB l = true ∧ isC l 11 = true ∧ spl l = ⟨true, true, 11, partN l 19, zoneN l (19 + pN (partN l 19))⟩) := by
  cases hD : isD l 0
  · cases hC : isC l 0
    · exact .inl ⟨rfl, rfl, by rw [spl, if_neg (by simp [hD]), if_neg (by simp [hC])]⟩
    · exact .inr (.inl ⟨rfl, rfl, by rw [spl, if_neg (by simp [hD]), if_pos hC]⟩)
  · cases hM : (midB l && isC l 11)
    · exact .inr (.inr (.inl ⟨rfl, rfl, by rw [spl, if_pos hD, if_neg (by simp [hM])]⟩))
    · have h := hM
      rw [Bool.and_eq_true] at h
      exact .inr (.inr (.inr ⟨rfl, h.1, h.2, by rw [spl, if_pos hD, if_pos hM]⟩))

def dateN (a0 a2 a5 a8 : Nat) : Bool := decide (1 ≤ a5 ∧ a5 ≤ 12 ∧ 1 ≤ a8 ∧ a8 ≤ daysN (100 * a0 + a2) a5)
def timeN (b0 b3 b6 : Nat) : Bool := decide (b0 ≤ 23 ∧ b3 ≤ 59 ∧ (b6 ≤ 59 ∨ (b6 = 60 ∧ b3 = 59)))
def zonN (c1 c4 : Nat) : Bool := decide (c1 ≤ 23 ∧ c4 ≤ 59)
theorem mayTime_eq (l : List UInt8) (i : Nat) : mayTime l i = timeN (twN l i) (twN l (i + 3)) (twN l (i + 6)) := by
  unfold mayTime timeN
  rw [Bool.eq_iff_iff]
  simp only [decide_eq_true_iff]
  split <;> omega
theorem mayDate_eq (l : List UInt8) : mayDate l = dateN (twN l 0) (twN l 2) (twN l 5) (twN l 8) := rfl
theorem may_day {l : List UInt8} (h : spl l = ⟨true, false, 0, 0, 0⟩) : mayL l = dateN (twN l 0) (twN l 2) (twN l 5) (twN l 8) := by
  simp [mayL, h, mayDate_eq]
theorem may_time {l : List UInt8} {n : Nat} (h : spl l = ⟨false, true, 0, n, 0⟩) : mayL l = timeN (twN l 0) (twN l 3) (twN l 6) := by
  simp [mayL, h, mayTime_eq]
theorem may_both {l : List UInt8} {n z : Nat} (h : spl l = ⟨true, true, 11, n, z⟩) (hz : z < 2) : mayL l = (dateN (twN l 0) (twN l 2) (twN l 5) (twN l 8) && timeN (twN l 11) (twN l 14) (twN l 17)) := by
  simp [mayL, h, mayTime_eq, mayDate_eq, hz]
theorem may_zone {l : List UInt8} {n z : Nat} (h : spl l = ⟨true, true, 11, n, z⟩) (hz : ¬ z < 2) : mayL l = (dateN (twN l 0) (twN l 2) (twN l 5) (twN l 8) && (timeN (twN l 11) (twN l 14) (twN l 17) && zonN (twN l (19 + pN n + 1)) (twN l (19 + pN n + 4)))) := by
  simp [mayL, h, mayTime_eq, mayDate_eq, hz, Parts.zAt, mayZone, zonN]

theorem partN_le (l : List UInt8) (i : Nat) (hi : i ≤ l.length) : i + pN (partN l i) ≤ l.length := by
  unfold partN
  by_cases h : bt l i = 46
  · rw [if_pos h]
    have := bt_in (show bt l i < 256 by omega)
    have h2 := runD_le l (i + 1)
    unfold pN; split <;> omega
  · rw [if_neg h]; unfold pN; simpa using hi
theorem zoneN_le (l : List UInt8) (i : Nat) (hi : i ≤ l.length) : i + zoneN l i ≤ l.length := by
  rcases zoneN_cases l i with h | ⟨h, h1⟩ | ⟨h, h1, h2⟩
  · omega
  · have := bt_in (show bt l i < 256 by omega); omega
  · have := isZ_len h2; omega
theorem long_le (l : List UInt8) : (spl l).long ≤ l.length := by
  rcases spl_cases l with ⟨_, _, h⟩ | ⟨_, hC, h⟩ | ⟨hD, _, h⟩ | ⟨hD, hM, hC, h⟩
  · rw [h]; simp [Parts.long]
  · rw [h]; have := isC_len hC; have := partN_le l 8 (by omega); simp [Parts.long, Parts.zAt]; omega
  · rw [h]; have := isD_len hD; simp [Parts.long]; omega
  · rw [h]
    have := isC_len hC
    have h1 := partN_le l 19 (by omega)
    have h2 := zoneN_le l (19 + pN (partN l 19)) h1
    simp [Parts.long, Parts.zAt]; omega
theorem partN_zero {l : List UInt8} {i : Nat} (h : partN l i ≠ 0) : bt l i = 46 := by
  unfold partN at h; split at h
  · assumption
  · omega
/-- What stands behind a time, up to the end of its part: nothing, or a point and the part. -/
theorem behind_part (l : List UInt8) (i : Nat) : (l.drop i).take (pN (partN l i)) = if partN l i = 0 then [] else 46 :: (l.drop (i + 1)).take (partN l i) := by
  by_cases h : partN l i = 0
  · rw [if_pos h, h]; rfl
  · rw [if_neg h]
    have hb := partN_zero h
    have hi := bt_in (show bt l i < 256 by omega)
    rw [bt_lt hi] at hb
    have hc : l[i] = 46 := UInt8.toNat_inj.1 hb
    rw [pN, if_neg h, List.drop_eq_getElem_cons hi, hc]; rfl
theorem readD_syn {l : List UInt8} (h : (spl l).long = 0 ∨ (spl l).long < l.length) : readD l = ([], 3) := if_pos h
theorem readD_bad {l : List UInt8} (h : (spl l).long = l.length) (h0 : (spl l).long ≠ 0) (hm : mayL l = false) : readD l = ([], 9) := by
  rw [readD, if_neg (by omega), if_neg (by simp [hm])]
theorem readD_ok {l : List UInt8} (h : (spl l).long = l.length) (h0 : (spl l).long ≠ 0) (hm : mayL l = true) : readD l = (textL l, 0) := by
  rw [readD, if_neg (by omega), if_pos hm]

end Go.Proofs.YtgchhogdbigafaaDoor
