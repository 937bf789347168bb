/- Plain laws of chapter 07's times: what the texts of the law DatesTimes read as; no program in them, and no statement of the seat is proved here. -/
import Derived.Test.YtgchhogdbigafaaDoorDtM
namespace Go.Proofs.YtgchhogdbigafaaDoor
open Go.RowKit

/-- A time's text. -/
def timL (h m s : Nat) : List UInt8 := numL h 2 ++ ([58] ++ (numL m 2 ++ ([58] ++ numL s 2)))
theorem timL_len (h m s : Nat) : (timL h m s).length = 8 := rfl
theorem timL_isC (h m s : Nat) : isC (timL h m s) 0 = true := by
  have e : ∀ i (q : i < 8), bt (timL h m s) i = ((timL h m s)[i]'(by rw [timL_len]; exact q)).toNat := fun i q => bt_lt _
  simp only [isC, tw, dg, Bool.and_eq_true, decide_eq_true_iff, Nat.zero_add]
  refine ⟨⟨?_, ?_⟩, ?_, ⟨?_, ?_⟩, ?_, ⟨?_, ?_⟩⟩
  · rw [e 0 (by omega)]; exact num_dig _
  · rw [e 1 (by omega)]; exact num_dig _
  · rw [e 2 (by omega)]; rfl
  · rw [e 3 (by omega)]; exact num_dig _
  · rw [e 4 (by omega)]; exact num_dig _
  · rw [e 5 (by omega)]; rfl
  · rw [e 6 (by omega)]; exact num_dig _
  · rw [e 7 (by omega)]; exact num_dig _
theorem timL_twN (h m s : Nat) (hh : h < 100) (hm : m < 100) (hs : s < 100) : twN (timL h m s) 0 = h ∧ twN (timL h m s) 3 = m ∧ twN (timL h m s) 6 = s := by
  have e : ∀ i (q : i < 8), bt (timL h m s) i = ((timL h m s)[i]'(by rw [timL_len]; exact q)).toNat := fun i q => bt_lt _
  simp only [twN, Nat.zero_add, Nat.reduceAdd]
  have e0 : bt (timL h m s) 0 = 48 + h / 10 % 10 := (e 0 (by omega)).trans (num_byte _)
  have e1 : bt (timL h m s) 1 = 48 + h % 10 := (e 1 (by omega)).trans (num_byte _)
  have e3 : bt (timL h m s) 3 = 48 + m / 10 % 10 := (e 3 (by omega)).trans (num_byte _)
  have e4 : bt (timL h m s) 4 = 48 + m % 10 := (e 4 (by omega)).trans (num_byte _)
  have e6 : bt (timL h m s) 6 = 48 + s / 10 % 10 := (e 6 (by omega)).trans (num_byte _)
  have e7 : bt (timL h m s) 7 = 48 + s % 10 := (e 7 (by omega)).trans (num_byte _)
  rw [e0, e1, e3, e4, e6, e7]
  omega
/-- A zone's text, behind its sign. -/
def zonL (a b : Nat) : List UInt8 := numL a 2 ++ ([58] ++ numL b 2)
theorem zonL_len (a b : Nat) : (zonL a b).length = 5 := rfl
theorem zonL_is (c : UInt8) (a b : Nat) (hc : c.toNat = 43 ∨ c.toNat = 45) : zoneN (c :: zonL a b) 0 = (c :: zonL a b).length := by
  have e : ∀ i (q : i < 6), bt (c :: zonL a b) i = ((c :: zonL a b)[i]'(by simp [zonL_len]; omega)).toNat := fun i q => bt_lt _
  have e0 : bt (c :: zonL a b) 0 = c.toNat := rfl
  have hz : isZ (c :: zonL a b) 1 = true := by
    simp only [isZ, tw, dg, Bool.and_eq_true, decide_eq_true_iff, Nat.reduceAdd]
    refine ⟨⟨?_, ?_⟩, ?_, ⟨?_, ?_⟩⟩
    · rw [e 1 (by omega)]; exact num_dig _
    · rw [e 2 (by omega)]; exact num_dig _
    · rw [e 3 (by omega)]; rfl
    · rw [e 4 (by omega)]; exact num_dig _
    · rw [e 5 (by omega)]; exact num_dig _
  rw [zoneN, e0, if_neg (by omega), if_pos ⟨hc, hz⟩]; simp [zonL_len]
theorem zonL_twN (c : UInt8) (a b : Nat) (ha : a < 100) (hb : b < 100) : twN (c :: zonL a b) 1 = a ∧ twN (c :: zonL a b) 4 = b := by
  have e : ∀ i (q : i < 6), bt (c :: zonL a b) i = ((c :: zonL a b)[i]'(by simp [zonL_len]; omega)).toNat := fun i q => bt_lt _
  simp only [twN, Nat.reduceAdd]
  have e1 : bt (c :: zonL a b) 1 = 48 + a / 10 % 10 := (e 1 (by omega)).trans (num_byte _)
  have e2 : bt (c :: zonL a b) 2 = 48 + a % 10 := (e 2 (by omega)).trans (num_byte _)
  have e4 : bt (c :: zonL a b) 4 = 48 + b / 10 % 10 := (e 4 (by omega)).trans (num_byte _)
  have e5 : bt (c :: zonL a b) 5 = 48 + b % 10 := (e 5 (by omega)).trans (num_byte _)
  rw [e1, e2, e4, e5]
  omega

theorem strip_zeros (q : List UInt8) (k : Nat) : rstrip (q ++ List.replicate k 48) = rstrip q := by
  induction k with
  | zero => simp
  | succ k ih => rw [List.replicate_succ', ← List.append_assoc, rstrip_snoc, if_pos rfl, ih]
theorem digs_zeros {q : List UInt8} (h : Digs q) (k : Nat) : Digs (q ++ List.replicate k 48) := by
  intro c hc
  rw [List.mem_append] at hc
  rcases hc with hc | hc
  · exact h c hc
  · rw [List.eq_of_mem_replicate hc]; rfl
def dayX : List UInt8 := [50, 48, 48, 49, 45, 48, 50, 45, 48, 51]
/-- The text of a time with a part, and its normal form. -/
structure TimeX (h m s : Nat) (q cut : List UInt8) : Prop where
  hh : h < 100
  hm : m < 100
  hs : s < 100
  hq : Digs q
  q0 : q ≠ []
  hcut : rstrip q = cut
def toldL (h m s : Nat) (q : List UInt8) : List UInt8 := timL h m s ++ 46 :: q
def wantL (h m s : Nat) (cut : List UInt8) : List UInt8 := timL h m s ++ dotP cut
def okX (h m s : Nat) : Bool := timeN h m s
variable {h m s : Nat} {q cut : List UInt8}
theorem TimeX.tw (x : TimeX h m s q cut) : timeN (twN (timL h m s) 0) (twN (timL h m s) 3) (twN (timL h m s) 6) = okX h m s := by
  obtain ⟨e1, e2, e3⟩ := timL_twN h m s x.hh x.hm x.hs
  rw [e1, e2, e3]; rfl
theorem told_eq (x : TimeX h m s q cut) (r : List UInt8) : toldL h m s q ++ r = timL h m s ++ (dotP q ++ r) := by
  unfold toldL dotP; rw [if_neg x.q0]; simp
theorem TimeX.told (x : TimeX h m s q cut) : readD (toldL h m s q) = if okX h m s then (wantL h m s cut, 0) else ([], 9) := by
  have e := told_eq x []
  rw [List.append_nil] at e
  rw [e, read_time (timL_len h m s) (timL_isC h m s) x.hq, x.tw, x.hcut]; rfl
theorem TimeX.bare (x : TimeX h m s q cut) (ho : okX h m s = false) : readD (timL h m s) = ([], 9) := by
  have := read_time (timL_len h m s) (timL_isC h m s) (q := []) (fun c hc => by simp at hc)
  rw [x.tw, ho] at this
  have e : timL h m s ++ (dotP [] ++ []) = timL h m s := by simp [dotP]
  rw [e] at this; exact this
theorem dayX_is : dayX.length = 10 ∧ isD dayX 0 = true ∧ dateN (twN dayX 0) (twN dayX 2) (twN dayX 5) (twN dayX 8) = true := by decide
/-- With a day ahead, and what is a zone, or nothing, behind. -/
theorem TimeX.full (x : TimeX h m s q cut) {c : UInt8} (hc : c.toNat = 84 ∨ c.toNat = 116 ∨ c.toNat = 32) {r : List UInt8} (hr : zoneN r 0 = r.length) :
    readD (dayX ++ (c :: (toldL h m s q ++ r))) = if okX h m s && (decide (r.length < 2) || zonN (twN r 1) (twN r 4)) then (dayX ++ (84 :: (wantL h m s cut ++ upZ r)), 0) else ([], 9) := by
  rw [told_eq x r, read_full dayX_is.1 dayX_is.2.1 hc (timL_len h m s) (timL_isC h m s) x.hq hr, fullOk, dayX_is.2.2, x.tw, x.hcut]
  simp [wantL]
theorem TimeX.over (x : TimeX h m s q cut) {r : List UInt8} (hr : zoneN r 0 = r.length) (h0 : r ≠ []) : readD (toldL h m s q ++ r) = ([], 3) := by
  have hl : 0 < r.length := List.length_pos_iff.2 h0
  rw [told_eq x r]
  refine readD_syn (.inr ?_)
  rw [spl_time (timL_len h m s) (timL_isC h m s) x.hq (nd_zone hr)]
  simp only [Parts.long, Parts.zAt, if_true, List.length_append, dotP_len, timL_len]
  omega
theorem TimeX.of2 (x : TimeX h m s q cut) (ho : okX h m s = true) : ofD (wantL h m s cut) = 2 := by
  have h1 := x.told
  rw [if_pos ho] at h1
  rw [ofD, if_pos (read_read h1).1]
  have e : wantL h m s cut = timL h m s ++ (dotP cut ++ []) := by simp [wantL]
  rw [e, spl_time (timL_len h m s) (timL_isC h m s) (by rw [← x.hcut]; exact digs_strip x.hq) nd_nil]; rfl
theorem TimeX.of34 (x : TimeX h m s q cut) (ho : okX h m s = true) : ofD (dayX ++ (84 :: wantL h m s cut)) = 3 ∧ ofD (dayX ++ (84 :: (wantL h m s cut ++ [90]))) = 4 := by
  constructor
  · have h1 := x.full (c := 84) (by decide) (r := []) (by decide)
    rw [if_pos (by rw [ho]; rfl)] at h1
    have e : dayX ++ (84 :: (wantL h m s cut ++ upZ [])) = dayX ++ (84 :: wantL h m s cut) := by simp [upZ]
    rw [e] at h1
    rw [ofD, if_pos (read_read h1).1]
    have e : dayX ++ (84 :: wantL h m s cut) = dayX ++ (84 :: (timL h m s ++ (dotP cut ++ []))) := by simp [wantL]
    rw [e, spl_full dayX_is.1 dayX_is.2.1 (by decide) (timL_len h m s) (timL_isC h m s) (by rw [← x.hcut]; exact digs_strip x.hq) nd_nil]; rfl
  · have h1 := x.full (c := 84) (by decide) (r := [90]) (by decide)
    rw [if_pos (by rw [ho]; rfl)] at h1
    have e : dayX ++ (84 :: (wantL h m s cut ++ upZ [90])) = dayX ++ (84 :: (wantL h m s cut ++ [90])) := by simp [upZ]
    rw [e] at h1
    rw [ofD, if_pos (read_read h1).1]
    have e : dayX ++ (84 :: (wantL h m s cut ++ [90])) = dayX ++ (84 :: (timL h m s ++ (dotP cut ++ [90]))) := by simp [wantL]
    rw [e, spl_full dayX_is.1 dayX_is.2.1 (by decide) (timL_len h m s) (timL_isC h m s) (by rw [← x.hcut]; exact digs_strip x.hq) (nd_zone (by decide))]; rfl

end Go.Proofs.YtgchhogdbigafaaDoor
