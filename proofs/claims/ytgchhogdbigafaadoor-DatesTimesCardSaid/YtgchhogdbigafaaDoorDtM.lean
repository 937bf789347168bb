/- Plain law of chapter 07's days: which days of a month may be, and how many days lie between two firsts of a month; no program in it, and no statement of the seat is proved here. -/
import Derived.Test.YtgchhogdbigafaaDoorDtK
namespace Go.Proofs.YtgchhogdbigafaaDoor
open Go.RowKit

theorem numL2 (n : Nat) : numL n 2 = [UInt8.ofNat (48 + n / 10 % 10), UInt8.ofNat (48 + n % 10)] := rfl
theorem numL4 (n : Nat) : numL n 4 = [UInt8.ofNat (48 + n / 10 / 10 / 10 % 10), UInt8.ofNat (48 + n / 10 / 10 % 10), UInt8.ofNat (48 + n / 10 % 10), UInt8.ofNat (48 + n % 10)] := rfl
/-- A date's text. -/
def dayL (y m d : Nat) : List UInt8 := numL y 4 ++ ([45] ++ (numL m 2 ++ ([45] ++ numL d 2)))
theorem dayL_eq (y m d : Nat) : dayL y m d = [UInt8.ofNat (48 + y / 10 / 10 / 10 % 10), UInt8.ofNat (48 + y / 10 / 10 % 10), UInt8.ofNat (48 + y / 10 % 10), UInt8.ofNat (48 + y % 10), 45, UInt8.ofNat (48 + m / 10 % 10), UInt8.ofNat (48 + m % 10), 45, UInt8.ofNat (48 + d / 10 % 10), UInt8.ofNat (48 + d % 10)] := rfl
theorem dayL_len (y m d : Nat) : (dayL y m d).length = 10 := rfl
theorem dayL_isD (y m d : Nat) : isD (dayL y m d) 0 = true := by
  have h : ∀ i (h : i < 10), bt (dayL y m d) i = ((dayL y m d)[i]'(by rw [dayL_len]; exact h)).toNat := fun i h => bt_lt _
  simp only [isD, tw, dg, Bool.and_eq_true, decide_eq_true_iff, Nat.zero_add]
  refine ⟨⟨?_, ?_⟩, ⟨?_, ?_⟩, ?_, ⟨?_, ?_⟩, ?_, ⟨?_, ?_⟩⟩
  · rw [h 0 (by omega)]; exact num_dig _
  · rw [h 1 (by omega)]; exact num_dig _
  · rw [h 2 (by omega)]; exact num_dig _
  · rw [h 3 (by omega)]; exact num_dig _
  · rw [h 4 (by omega)]; rfl
  · rw [h 5 (by omega)]; exact num_dig _
  · rw [h 6 (by omega)]; exact num_dig _
  · rw [h 7 (by omega)]; rfl
  · rw [h 8 (by omega)]; exact num_dig _
  · rw [h 9 (by omega)]; exact num_dig _
theorem day_twN (y m d : Nat) (hy : y < 10000) (hm : m < 100) (hd : d < 100) : 100 * twN (dayL y m d) 0 + twN (dayL y m d) 2 = y ∧ twN (dayL y m d) 5 = m ∧ twN (dayL y m d) 8 = d := by
  have h : ∀ i (h : i < 10), bt (dayL y m d) i = ((dayL y m d)[i]'(by rw [dayL_len]; exact h)).toNat := fun i h => bt_lt _
  simp only [twN, Nat.zero_add, Nat.reduceAdd]
  have e0 : bt (dayL y m d) 0 = 48 + y / 10 / 10 / 10 % 10 := (h 0 (by omega)).trans (num_byte _)
  have e1 : bt (dayL y m d) 1 = 48 + y / 10 / 10 % 10 := (h 1 (by omega)).trans (num_byte _)
  have e2 : bt (dayL y m d) 2 = 48 + y / 10 % 10 := (h 2 (by omega)).trans (num_byte _)
  have e3 : bt (dayL y m d) 3 = 48 + y % 10 := (h 3 (by omega)).trans (num_byte _)
  have e5 : bt (dayL y m d) 5 = 48 + m / 10 % 10 := (h 5 (by omega)).trans (num_byte _)
  have e6 : bt (dayL y m d) 6 = 48 + m % 10 := (h 6 (by omega)).trans (num_byte _)
  have e8 : bt (dayL y m d) 8 = 48 + d / 10 % 10 := (h 8 (by omega)).trans (num_byte _)
  have e9 : bt (dayL y m d) 9 = 48 + d % 10 := (h 9 (by omega)).trans (num_byte _)
  rw [e0, e1, e2, e3, e5, e6, e8, e9]
  omega
theorem read_day (y m d : Nat) (hy : y < 10000) (hm : m < 100) (hd : d < 100) : readD (dayL y m d) = if 1 ≤ m ∧ m ≤ 12 ∧ 1 ≤ d ∧ d ≤ daysN y m then (dayL y m d, 0) else ([], 9) := by
  obtain ⟨h1, h2, h3⟩ := day_twN y m d hy hm hd
  rw [read_date (dayL_len y m d) (dayL_isD y m d), dateN, h1, h2, h3]
  by_cases h : 1 ≤ m ∧ m ≤ 12 ∧ 1 ≤ d ∧ d ≤ daysN y m
  · rw [if_pos h, if_pos (decide_eq_true h)]
  · rw [if_neg h, if_neg (by simpa using h)]
theorem daysN_bd (y m : Nat) : 28 ≤ daysN y m ∧ daysN y m ≤ 31 := by
  unfold daysN; repeat' split
  all_goals omega

/-- Days from the first of March of a year far ahead on, to the first of a month. -/
def farI (y m : Int) : Int :=
  let shift := (m + 9) % 12
  let fr := 400 + y - shift / 10
  fr * 365 + fr / 4 - fr / 100 + fr / 400 + (shift * 306 + 5) / 10
theorem far_diff (y m : Nat) (hm1 : 1 ≤ m) (hm2 : m ≤ 12) : farI ((y : Int) + (m : Int) / 12) ((m : Int) % 12 + 1) - farI y m = daysN y m := by
  have h : m = 1 ∨ m = 2 ∨ m = 3 ∨ m = 4 ∨ m = 5 ∨ m = 6 ∨ m = 7 ∨ m = 8 ∨ m = 9 ∨ m = 10 ∨ m = 11 ∨ m = 12 := by omega
  rcases h with rfl | rfl | rfl | rfl | rfl | rfl | rfl | rfl | rfl | rfl | rfl | rfl
  all_goals
    simp [farI, daysN]
    try (repeat' split)
    all_goals omega

end Go.Proofs.YtgchhogdbigafaaDoor
