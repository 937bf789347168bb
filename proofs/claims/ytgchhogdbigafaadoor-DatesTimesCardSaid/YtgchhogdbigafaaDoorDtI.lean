/- Plain laws of chapter 07: what a text that is put together from its parts reads as; a normal form is its own; no program in them, and no statement of the seat is proved here. -/
import Derived.Test.YtgchhogdbigafaaDoorDtN
import Derived.Test.YtgchhogdbigafaaDoorDtW
namespace Go.Proofs.YtgchhogdbigafaaDoor
open Go.RowKit

theorem bt_left {a : List UInt8} (b : List UInt8) {j : Nat} (h : j < a.length) : bt (a ++ b) j = bt a j := by simp [bt, List.getElem?_append_left h]
theorem bt_right (a b : List UInt8) (j : Nat) : bt (a ++ b) (a.length + j) = bt b j := by
  unfold bt; rw [List.getElem?_append_right (by omega), Nat.add_sub_cancel_left]
theorem tw_left {a : List UInt8} (b : List UInt8) {j : Nat} (h : j + 1 < a.length) : tw (a ++ b) j = tw a j := by
  simp only [tw, dg, bt_left b (show j < a.length by omega), bt_left b h]
theorem twN_left {a : List UInt8} (b : List UInt8) {j : Nat} (h : j + 1 < a.length) : twN (a ++ b) j = twN a j := by
  simp only [twN, bt_left b (show j < a.length by omega), bt_left b h]
theorem tw_right (a b : List UInt8) (j : Nat) : tw (a ++ b) (a.length + j) = tw b j := by
  simp only [tw, dg, bt_right, Nat.add_assoc]
theorem twN_right (a b : List UInt8) (j : Nat) : twN (a ++ b) (a.length + j) = twN b j := by
  simp only [twN, bt_right, Nat.add_assoc]
theorem isD_left {a : List UInt8} (b : List UInt8) (h : a.length = 10) : isD (a ++ b) 0 = isD a 0 := by
  simp only [isD, Nat.zero_add]
  rw [tw_left b (by omega), tw_left b (by omega), tw_left b (by omega), tw_left b (by omega), bt_left b (by omega), bt_left b (by omega)]
theorem isC_left {a : List UInt8} (b : List UInt8) (h : a.length = 8) : isC (a ++ b) 0 = isC a 0 := by
  simp only [isC, Nat.zero_add]
  rw [tw_left b (by omega), tw_left b (by omega), tw_left b (by omega), bt_left b (by omega), bt_left b (by omega)]
theorem isC_right (a b : List UInt8) (j : Nat) : isC (a ++ b) (a.length + j) = isC b j := by
  simp only [isC, Nat.add_assoc, tw_right, bt_right]
theorem isZ_right (a b : List UInt8) (j : Nat) : isZ (a ++ b) (a.length + j) = isZ b j := by
  simp only [isZ, Nat.add_assoc, tw_right, bt_right]
theorem runD_right (a b : List UInt8) (j : Nat) : runD (a ++ b) (a.length + j) = runD b j := by
  unfold runD; rw [← List.drop_drop, List.drop_left]
theorem partN_right (a b : List UInt8) (j : Nat) : partN (a ++ b) (a.length + j) = partN b j := by
  simp only [partN, bt_right, Nat.add_assoc, runD_right]
theorem zoneN_right (a b : List UInt8) (j : Nat) : zoneN (a ++ b) (a.length + j) = zoneN b j := by
  simp only [zoneN, bt_right, Nat.add_assoc, isZ_right]

/-- What may stand behind a part of a second. -/
def Nd (r : List UInt8) : Prop := dgN (bt r 0) = false ∧ bt r 0 ≠ 46
def Digs (q : List UInt8) : Prop := ∀ c ∈ q, dgN c.toNat = true
theorem run_digs {q : List UInt8} (r : List UInt8) (hq : Digs q) (hr : dgN (bt r 0) = false) : runD (q ++ r) 0 = q.length := by
  unfold runD
  rw [List.drop_zero]
  induction q with
  | nil =>
    cases r with
    | nil => rfl
    | cons c r =>
      rw [List.nil_append, List.takeWhile_cons_of_neg (by have : bt (c :: r) 0 = c.toNat := rfl; rw [this] at hr; simp [hr])]
  | cons c q ih =>
    rw [List.cons_append, List.takeWhile_cons_of_pos (p := fun c : UInt8 => dgN c.toNat) (hq c (by simp))]
    simp [ih (fun c hc => hq c (by simp [hc]))]
theorem part_dot {q : List UInt8} (r : List UInt8) (hq : Digs q) (hr : Nd r) : partN (dotP q ++ r) 0 = q.length := by
  unfold dotP
  split
  · rename_i h
    rw [h, List.nil_append, partN, if_neg hr.2]; rfl
  · have e : bt (46 :: q ++ r) 0 = 46 := rfl
    rw [partN, if_pos e]
    have := runD_right [46] (q ++ r) 0
    have e2 : ([46] ++ (q ++ r) : List UInt8) = 46 :: q ++ r := rfl
    rw [e2] at this
    exact this.trans (run_digs r hq hr.1)
theorem dotP_len (q : List UInt8) : (dotP q).length = pN q.length := by
  unfold dotP pN
  by_cases h : q = []
  · rw [h]; rfl
  · rw [if_neg h, if_neg (by rw [List.length_eq_zero_iff]; exact h)]; rfl
theorem not_both {l : List UInt8} (h : isC l 0 = true) : isD l 0 = false := by
  cases hD : isD l 0 with
  | false => rfl
  | true =>
    simp only [isC, isD, Bool.and_eq_true, decide_eq_true_iff, Nat.zero_add] at h hD
    have h1 := hD.2.1
    simp only [tw, Bool.and_eq_true] at h1
    have := dgN_t.1 h1.1
    omega

/-- A time, its part, and what stands behind. -/
theorem spl_time {T q r : List UInt8} (hT : T.length = 8) (hC : isC T 0 = true) (hq : Digs q) (hr : Nd r) : spl (T ++ (dotP q ++ r)) = ⟨false, true, 0, q.length, 0⟩ := by
  have h1 : isC (T ++ (dotP q ++ r)) 0 = true := by rw [isC_left _ hT]; exact hC
  have h2 : partN (T ++ (dotP q ++ r)) 8 = q.length := by
    have := partN_right T (dotP q ++ r) 0
    rw [hT] at this
    exact this.trans (part_dot r hq hr)
  rw [spl, if_neg (by simp [not_both h1]), if_pos h1, h2]
/-- A date, a byte between, a time, its part, a zone or what else. -/
theorem spl_full {D T q r : List UInt8} {c : UInt8} (hD : D.length = 10) (hDD : isD D 0 = true) (hc : c.toNat = 84 ∨ c.toNat = 116 ∨ c.toNat = 32) (hT : T.length = 8) (hC : isC T 0 = true) (hq : Digs q) (hr : Nd r) :
    spl (D ++ (c :: (T ++ (dotP q ++ r)))) = ⟨true, true, 11, q.length, zoneN r 0⟩ := by
  have h1 : isD (D ++ (c :: (T ++ (dotP q ++ r)))) 0 = true := by rw [isD_left _ hD]; exact hDD
  have hb : bt (D ++ (c :: (T ++ (dotP q ++ r)))) 10 = c.toNat := by
    have := bt_right D (c :: (T ++ (dotP q ++ r))) 0
    rw [hD] at this; exact this
  have e : D ++ (c :: (T ++ (dotP q ++ r))) = (D ++ [c]) ++ (T ++ (dotP q ++ r)) := by simp
  have hl : (D ++ [c]).length = 11 := by simp [hD]
  have h2 : isC (D ++ (c :: (T ++ (dotP q ++ r)))) 11 = true := by
    have := isC_right (D ++ [c]) (T ++ (dotP q ++ r)) 0
    rw [hl] at this
    rw [e]; exact this.trans (by rw [isC_left _ hT]; exact hC)
  have hl2 : ((D ++ [c]) ++ T).length = 19 := by simp [hD, hT]
  have e2 : D ++ (c :: (T ++ (dotP q ++ r))) = ((D ++ [c]) ++ T) ++ (dotP q ++ r) := by simp
  have h3 : partN (D ++ (c :: (T ++ (dotP q ++ r)))) 19 = q.length := by
    have := partN_right ((D ++ [c]) ++ T) (dotP q ++ r) 0
    rw [hl2] at this
    rw [e2]; exact this.trans (part_dot r hq hr)
  have hl3 : (((D ++ [c]) ++ T) ++ dotP q).length = 19 + pN q.length := by rw [List.length_append, hl2, dotP_len]
  have e3 : D ++ (c :: (T ++ (dotP q ++ r))) = (((D ++ [c]) ++ T) ++ dotP q) ++ r := by simp
  have h4 : zoneN (D ++ (c :: (T ++ (dotP q ++ r)))) (19 + pN q.length) = zoneN r 0 := by
    have := zoneN_right (((D ++ [c]) ++ T) ++ dotP q) r 0
    rw [hl3] at this
    rw [e3]; exact this
  have hm : midB (D ++ (c :: (T ++ (dotP q ++ r)))) = true := by unfold midB; rw [hb]; exact decide_eq_true hc
  rw [spl, if_pos h1, if_pos (by rw [hm, h2]; rfl), h3, h4]

end Go.Proofs.YtgchhogdbigafaaDoor
