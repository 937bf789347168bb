/- Plain words of chapter 07: a date-time's parts, its bounds, its normal form; no program in them, and no statement of the seat is proved here. -/
import Derived.Test.YtgchhogdbigafaaDoorBase
namespace Go.Proofs.YtgchhogdbigafaaDoor
open Go.RowKit

/-- The byte at a place; 256: none. -/
def bt (l : List UInt8) (i : Nat) : Nat := match l[i]? with | some c => c.toNat | none => 256
theorem bt_lt {l : List UInt8} {i : Nat} (h : i < l.length) : bt l i = l[i].toNat := by simp [bt, h]
theorem bt_ge {l : List UInt8} {i : Nat} (h : l.length ≤ i) : bt l i = 256 := by simp [bt, h]
theorem bt_drop (l : List UInt8) (i j : Nat) : bt (l.drop i) j = bt l (i + j) := by simp [bt]
theorem bt_take (l : List UInt8) {i j : Nat} (h : j < i) : bt (l.take i) j = bt l j := by simp [bt, h]
theorem bt_in {l : List UInt8} {i : Nat} (h : bt l i < 256) : i < l.length := by
  rcases Nat.lt_or_ge i l.length with h' | h'
  · exact h'
  · rw [bt_ge h'] at h; omega
theorem bt_le (l : List UInt8) (i : Nat) : bt l i ≤ 256 := by
  unfold bt; split
  · have := UInt8.toNat_lt ‹_›; omega
  · omega

/-- a digit? -/
def dgN (n : Nat) : Bool := decide (48 ≤ n ∧ n ≤ 57)
theorem dgN_t {n : Nat} : dgN n = true ↔ 48 ≤ n ∧ n ≤ 57 := by simp [dgN]
def dg (l : List UInt8) (i : Nat) : Bool := dgN (bt l i)
theorem dg_in {l : List UInt8} {i : Nat} (h : dg l i = true) : i < l.length := bt_in (by have := dgN_t.1 h; omega)

/-- Does a text begin with a form? 57 stands for a digit. -/
def fit : List UInt8 → List UInt8 → Bool
  | [], _ => true
  | _ :: _, [] => false
  | w :: ws, c :: cs => (if w = 57 then dgN c.toNat else decide (c = w)) && fit ws cs
theorem fit_cons (w : UInt8) (ws l : List UInt8) (i : Nat) : fit (w :: ws) (l.drop i) = ((if w = 57 then dg l i else decide (bt l i = w.toNat)) && fit ws (l.drop (i + 1))) := by
  rcases Nat.lt_or_ge i l.length with h | h
  · rw [List.drop_eq_getElem_cons h, fit, dg, bt_lt h]
    by_cases hw : w = 57
    · rw [if_pos hw, if_pos hw]
    · rw [if_neg hw, if_neg hw]; congr 1; rw [Bool.eq_iff_iff]; simp [← UInt8.toNat_inj]
  · rw [List.drop_eq_nil_of_le h, fit, dg, bt_ge h]
    have := w.toNat_lt
    have h1 : dgN 256 = false := rfl
    have h2 : decide (256 = w.toNat) = false := by simp; omega
    rw [h1, h2]; simp
theorem fit_len : ∀ {ws l : List UInt8}, fit ws l = true → ws.length ≤ l.length
  | [], _, _ => by simp
  | _ :: _, [], h => by simp [fit] at h
  | w :: ws, c :: cs, h => by
    rw [fit, Bool.and_eq_true] at h
    have := fit_len h.2
    simp; omega
def formL (l ws : List UInt8) : List UInt8 := if fit ws l then l.take ws.length else []
def dateF : List UInt8 := [57, 57, 57, 57, 45, 57, 57, 45, 57, 57]
def timeF : List UInt8 := [57, 57, 58, 57, 57, 58, 57, 57]
def zoneF : List UInt8 := [57, 57, 58, 57, 57]

/-- Two digits? -/
def tw (l : List UInt8) (i : Nat) : Bool := dg l i && dg l (i + 1)
/-- .. their number -/
def twN (l : List UInt8) (i : Nat) : Nat := 10 * (bt l i - 48) + (bt l (i + 1) - 48)
def isD (l : List UInt8) (i : Nat) : Bool := tw l i && (tw l (i + 2) && (decide (bt l (i + 4) = 45) && (tw l (i + 5) && (decide (bt l (i + 7) = 45) && tw l (i + 8)))))
def isC (l : List UInt8) (i : Nat) : Bool := tw l i && (decide (bt l (i + 2) = 58) && (tw l (i + 3) && (decide (bt l (i + 5) = 58) && tw l (i + 6))))
def isZ (l : List UInt8) (i : Nat) : Bool := tw l i && (decide (bt l (i + 2) = 58) && tw l (i + 3))
theorem fit_nil (l : List UInt8) : fit [] l = true := by cases l <;> rfl
theorem fit_dt (l : List UInt8) (i : Nat) : fit dateF (l.drop i) = isD l i := by
  unfold dateF
  repeat rw [fit_cons]
  simp [fit_nil, isD, tw, Bool.and_assoc, Nat.add_assoc]
theorem fit_tm (l : List UInt8) (i : Nat) : fit timeF (l.drop i) = isC l i := by
  unfold timeF
  repeat rw [fit_cons]
  simp [fit_nil, isC, tw, Bool.and_assoc, Nat.add_assoc]
theorem fit_zn (l : List UInt8) (i : Nat) : fit zoneF (l.drop i) = isZ l i := by
  unfold zoneF
  repeat rw [fit_cons]
  simp [fit_nil, isZ, tw, Bool.and_assoc, Nat.add_assoc]
theorem tw_len {l : List UInt8} {i : Nat} (h : tw l i = true) : i + 2 ≤ l.length := by
  unfold tw at h; rw [Bool.and_eq_true] at h; have := dg_in h.2; omega
theorem isD_len {l : List UInt8} {i : Nat} (h : isD l i = true) : i + 10 ≤ l.length := by
  simp only [isD, Bool.and_eq_true] at h; have := tw_len h.2.2.2.2.2; omega
theorem isC_len {l : List UInt8} {i : Nat} (h : isC l i = true) : i + 8 ≤ l.length := by
  simp only [isC, Bool.and_eq_true] at h; have := tw_len h.2.2.2.2; omega
theorem isZ_len {l : List UInt8} {i : Nat} (h : isZ l i = true) : i + 5 ≤ l.length := by
  simp only [isZ, Bool.and_eq_true] at h; have := tw_len h.2.2; omega

/-- How many digits stand at a place. -/
def runD (l : List UInt8) (i : Nat) : Nat := ((l.drop i).takeWhile fun c => dgN c.toNat).length
theorem runD_yes {l : List UInt8} {i : Nat} (h : dg l i = true) : runD l i = runD l (i + 1) + 1 := by
  have hi := dg_in h
  unfold dg at h; rw [bt_lt hi] at h
  unfold runD; rw [List.drop_eq_getElem_cons hi, List.takeWhile_cons_of_pos (p := fun c : UInt8 => dgN c.toNat) h]; simp
theorem runD_no {l : List UInt8} {i : Nat} (h : dg l i = false) : runD l i = 0 := by
  rcases Nat.lt_or_ge i l.length with hi | hi
  · unfold dg at h; rw [bt_lt hi] at h
    unfold runD; rw [List.drop_eq_getElem_cons hi, List.takeWhile_cons_of_neg (p := fun c : UInt8 => dgN c.toNat) (by simp [h])]; rfl
  · unfold runD; rw [List.drop_eq_nil_of_le hi]; rfl
theorem runD_ge {l : List UInt8} {i : Nat} (h : l.length ≤ i) : runD l i = 0 := by unfold runD; rw [List.drop_eq_nil_of_le h]; rfl
theorem runD_le (l : List UInt8) (i : Nat) : runD l i ≤ l.length - i := by
  have := (List.takeWhile_sublist (fun c : UInt8 => dgN c.toNat) (l := l.drop i)).length_le
  simp at this; exact this

/-- Bytes of a part of a second behind a time's end: its point, and its digits; 0: none. -/
def partN (l : List UInt8) (i : Nat) : Nat := if bt l i = 46 then runD l (i + 1) else 0
/-- .. the bytes of all of it -/
def pN (n : Nat) : Nat := if n = 0 then 0 else n + 1
/-- Bytes of a zone. -/
def zoneN (l : List UInt8) (i : Nat) : Nat := if bt l i = 90 ∨ bt l i = 122 then 1 else if (bt l i = 43 ∨ bt l i = 45) ∧ isZ l (i + 1) = true then 6 else 0
/-- The byte between a date and a time. -/
def midB (l : List UInt8) : Bool := decide (bt l 10 = 84 ∨ bt l 10 = 116 ∨ bt l 10 = 32)

/-- A beginning's parts: is there a date; a time, and where; how long its part; how long a zone. -/
structure Parts where
  date : Bool
  time : Bool
  at_ : Nat
  part : Nat
  zone : Nat
deriving DecidableEq
def Parts.zAt (p : Parts) : Nat := p.at_ + 8 + pN p.part
def Parts.long (p : Parts) : Nat := if p.time then p.zAt + p.zone else if p.date then 10 else 0
def spl (l : List UInt8) : Parts :=
  if isD l 0 then
    if midB l && isC l 11 then ⟨true, true, 11, partN l 19, zoneN l (19 + pN (partN l 19))⟩ else ⟨true, false, 0, 0, 0⟩
  else if isC l 0 then ⟨false, true, 0, partN l 8, 0⟩ else ⟨false, false, 0, 0, 0⟩
def Parts.dateL (p : Parts) (l : List UInt8) : List UInt8 := if p.date then l.take 10 else []
def Parts.timeL (p : Parts) (l : List UInt8) : List UInt8 := if p.time then (l.drop p.at_).take 8 else []
def Parts.partL (p : Parts) (l : List UInt8) : List UInt8 := (l.drop (p.at_ + 9)).take p.part
def Parts.zoneL (p : Parts) (l : List UInt8) : List UInt8 := (l.drop p.zAt).take p.zone

def daysN (y m : Nat) : Nat := if m = 2 then (if y % 400 = 0 ∨ (y % 4 = 0 ∧ y % 100 ≠ 0) then 29 else 28) else if m = 4 ∨ m = 6 ∨ m = 9 ∨ m = 11 then 30 else 31
def mayDate (l : List UInt8) : Bool := decide (1 ≤ twN l 5 ∧ twN l 5 ≤ 12 ∧ 1 ≤ twN l 8 ∧ twN l 8 ≤ daysN (100 * twN l 0 + twN l 2) (twN l 5))
def mayTime (l : List UInt8) (i : Nat) : Bool := decide (twN l i ≤ 23 ∧ twN l (i + 3) ≤ 59 ∧ twN l (i + 6) ≤ (if twN l (i + 3) = 59 then 60 else 59))
def mayZone (l : List UInt8) (i : Nat) : Bool := decide (twN l (i + 1) ≤ 23 ∧ twN l (i + 4) ≤ 59)
def mayL (l : List UInt8) : Bool := (!(spl l).date || mayDate l) && ((!(spl l).time || mayTime l (spl l).at_) && (decide ((spl l).zone < 2) || mayZone l (spl l).zAt))

/-- Without noughts at its end. -/
def rstrip (l : List UInt8) : List UInt8 := (l.reverse.dropWhile (· == 48)).reverse
def dotP (p : List UInt8) : List UInt8 := if p = [] then [] else 46 :: p
def upZ (z : List UInt8) : List UInt8 := if z = [122] then [90] else z
def textOf (d t p z : List UInt8) : List UInt8 := d ++ ((if d ≠ [] ∧ t ≠ [] then [84] else []) ++ (t ++ (dotP (rstrip p) ++ upZ z)))
def textL (l : List UInt8) : List UInt8 := textOf ((spl l).dateL l) ((spl l).timeL l) ((spl l).partL l) ((spl l).zoneL l)
def readD (l : List UInt8) : List UInt8 × Int :=
  if (spl l).long = 0 ∨ (spl l).long < l.length then ([], 3) else if mayL l then (textL l, 0) else ([], 9)
def kindP (p : Parts) : Nat := if p.zone ≠ 0 then 4 else if p.time then (if p.date then 3 else 2) else if p.date then 1 else 0
def ofD (l : List UInt8) : Nat := if readD l = (l, 0) then kindP (spl l) else 0

end Go.Proofs.YtgchhogdbigafaaDoor
