/- Plain laws of chapter 07: a beginning that is of the form; what it reads as; a normal form is its own; no program in them, and no statement of the seat is proved here. -/
import Derived.Test.YtgchhogdbigafaaDoorDtI
namespace Go.Proofs.YtgchhogdbigafaaDoor
open Go.RowKit

/-- A whole form: a date; a time; both, with or without a zone. -/
inductive Asm : List UInt8 → Prop
  | date {D : List UInt8} : D.length = 10 → isD D 0 = true → Asm D
  | time {T q : List UInt8} : T.length = 8 → isC T 0 = true → Digs q → Asm (T ++ (dotP q ++ []))
  | full {D T q r : List UInt8} {c : UInt8} : D.length = 10 → isD D 0 = true → (c.toNat = 84 ∨ c.toNat = 116 ∨ c.toNat = 32) → T.length = 8 → isC T 0 = true → Digs q → zoneN r 0 = r.length → Asm (D ++ (c :: (T ++ (dotP q ++ r))))

theorem nd_nil : Nd [] := ⟨by decide, by decide⟩
theorem nd_zone {r : List UInt8} (h : zoneN r 0 = r.length) : Nd r := by
  rcases zoneN_cases r 0 with q | ⟨q, h1⟩ | ⟨q, h1, _⟩
  · have : r = [] := List.length_eq_zero_iff.1 (by omega)
    rw [this]; exact nd_nil
  · refine ⟨?_, by omega⟩
    unfold dgN; exact decide_eq_false (by omega)
  · refine ⟨?_, by omega⟩
    unfold dgN; exact decide_eq_false (by omega)
theorem spl_date {D : List UInt8} (h : D.length = 10) (hD : isD D 0 = true) : spl D = ⟨true, false, 0, 0, 0⟩ := by
  have : midB D = false := by unfold midB; rw [bt_ge (by omega)]; decide
  rw [spl, if_pos hD, if_neg (by simp [this])]
theorem asm_long {A : List UInt8} (h : Asm A) : (spl A).long = A.length ∧ A.length ≠ 0 := by
  cases h with
  | date h hD => rw [spl_date h hD]; exact ⟨by simp [Parts.long, h], by omega⟩
  | time h hC hq =>
    rw [spl_time h hC hq nd_nil]
    simp only [Parts.long, Parts.zAt, if_true, List.length_append, dotP_len, h, List.length_nil]
    omega
  | full hD hDD hc hT hC hq hr =>
    rw [spl_full hD hDD hc hT hC hq (nd_zone hr), hr]
    simp only [Parts.long, Parts.zAt, if_true, List.length_append, List.length_cons, dotP_len, hD, hT]
    omega

theorem runD_ge_digs {q : List UInt8} (r : List UInt8) (hq : Digs q) : q.length ≤ runD (q ++ r) 0 := by
  unfold runD
  rw [List.drop_zero]
  induction q with
  | nil => simp
  | cons c q ih =>
    rw [List.cons_append, List.takeWhile_cons_of_pos (p := fun c : UInt8 => dgN c.toNat) (hq c (by simp))]
    have := ih (fun c hc => hq c (by simp [hc]))
    simp; omega
theorem part_ge {q : List UInt8} (r : List UInt8) (hq : Digs q) : q.length ≤ partN (dotP q ++ r) 0 := by
  unfold dotP
  split
  · rename_i h; rw [h]; simp
  · have e : bt (46 :: q ++ r) 0 = 46 := rfl
    rw [partN, if_pos e]
    have := runD_right [46] (q ++ r) 0
    have e2 : ([46] ++ (q ++ r) : List UInt8) = 46 :: q ++ r := rfl
    rw [e2] at this
    have h2 := runD_ge_digs r hq
    exact Nat.le_trans h2 (Nat.le_of_eq this.symm)
theorem pN_mono {a b : Nat} (h : a ≤ b) : pN a ≤ pN b := by unfold pN; split <;> split <;> omega
theorem zone_app {r : List UInt8} (s : List UInt8) (h : zoneN r 0 = r.length) (h0 : r ≠ []) : zoneN (r ++ s) 0 = r.length := by
  have hl : 0 < r.length := List.length_pos_iff.2 h0
  have hb := bt_left s hl
  rcases zoneN_cases r 0 with q | ⟨q, h1⟩ | ⟨q, h1, h2⟩
  · omega
  · rw [zoneN, hb, if_pos h1]; omega
  · have h3 : isZ (r ++ s) 1 = isZ r 1 := by
      simp only [isZ]
      rw [tw_left s (by omega), tw_left s (by omega), bt_left s (by omega)]
    rw [zoneN, hb, if_neg (by omega), if_pos ⟨h1, by rw [h3]; exact h2⟩]; omega
theorem nd_app {r : List UInt8} (s : List UInt8) (h : Nd r) (h0 : r ≠ []) : Nd (r ++ s) := by
  have hl : 0 < r.length := List.length_pos_iff.2 h0
  unfold Nd; rw [bt_left s hl]; exact h
/-- What begins with a whole form has a form at least as long. -/
theorem asm_ge {A : List UInt8} (h : Asm A) (s : List UInt8) : A.length ≤ (spl (A ++ s)).long := by
  cases h with
  | date h hD =>
    have h1 : isD (A ++ s) 0 = true := by rw [isD_left _ h]; exact hD
    rcases spl_cases (A ++ s) with ⟨q, _, _⟩ | ⟨q, _, _⟩ | ⟨_, _, e⟩ | ⟨_, _, _, e⟩
    · rw [h1] at q; cases q
    · rw [h1] at q; cases q
    · rw [e]; simp [Parts.long, h]
    · rw [e]; simp only [Parts.long, Parts.zAt, if_true]; omega
  | @time T q h hC hq =>
    have e0 : T ++ (dotP q ++ []) ++ s = T ++ (dotP q ++ s) := by simp
    rw [e0]
    have h1 : isC (T ++ (dotP q ++ s)) 0 = true := by rw [isC_left _ h]; exact hC
    have h2 : q.length ≤ partN (T ++ (dotP q ++ s)) 8 := by
      have := partN_right T (dotP q ++ s) 0
      rw [h] at this
      rw [show 8 = 8 + 0 from rfl, this]; exact part_ge s hq
    rw [spl, if_neg (by simp [not_both h1]), if_pos h1]
    have := pN_mono h2
    simp only [Parts.long, Parts.zAt, if_true, List.length_append, dotP_len, h, List.length_nil]
    omega
  | @full D T q r c hD hDD hc hT hC hq hr =>
    by_cases h0 : r = []
    · subst h0
      have e0 : D ++ (c :: (T ++ (dotP q ++ []))) ++ s = D ++ (c :: (T ++ (dotP q ++ s))) := by simp
      rw [e0]
      have h1 : isD (D ++ (c :: (T ++ (dotP q ++ s)))) 0 = true := by rw [isD_left _ hD]; exact hDD
      have hb : bt (D ++ (c :: (T ++ (dotP q ++ s)))) 10 = c.toNat := by
        have := bt_right D (c :: (T ++ (dotP q ++ s))) 0
        rw [hD] at this; exact this
      have hm : midB (D ++ (c :: (T ++ (dotP q ++ s)))) = true := by unfold midB; rw [hb]; exact decide_eq_true hc
      have hl : (D ++ [c]).length = 11 := by simp [hD]
      have e : D ++ (c :: (T ++ (dotP q ++ s))) = (D ++ [c]) ++ (T ++ (dotP q ++ s)) := by simp
      have h2 : isC (D ++ (c :: (T ++ (dotP q ++ s)))) 11 = true := by
        have := isC_right (D ++ [c]) (T ++ (dotP q ++ s)) 0
        rw [hl] at this
        rw [e]; exact this.trans (by rw [isC_left _ hT]; exact hC)
      have hl2 : ((D ++ [c]) ++ T).length = 19 := by simp [hD, hT]
      have e2 : D ++ (c :: (T ++ (dotP q ++ s))) = ((D ++ [c]) ++ T) ++ (dotP q ++ s) := by simp
      have h3 : q.length ≤ partN (D ++ (c :: (T ++ (dotP q ++ s)))) 19 := by
        have := partN_right ((D ++ [c]) ++ T) (dotP q ++ s) 0
        rw [hl2] at this
        rw [e2]; exact Nat.le_trans (part_ge s hq) (Nat.le_of_eq this.symm)
      have := pN_mono h3
      rw [spl, if_pos h1, if_pos (by rw [hm, h2]; rfl)]
      simp only [Parts.long, Parts.zAt, if_true, List.length_append, List.length_cons, dotP_len, hD, hT, List.length_nil]
      omega
    · have e0 : D ++ (c :: (T ++ (dotP q ++ r))) ++ s = D ++ (c :: (T ++ (dotP q ++ (r ++ s)))) := by simp
      rw [e0, spl_full hD hDD hc hT hC hq (nd_app s (nd_zone hr) h0), zone_app s hr h0]
      simp only [Parts.long, Parts.zAt, if_true, List.length_append, List.length_cons, dotP_len, hD, hT]
      omega

theorem digs_run (l : List UInt8) (i : Nat) : Digs ((l.drop i).take (runD l i)) := by
  unfold runD
  have e : (l.drop i).take ((l.drop i).takeWhile fun c => dgN c.toNat).length = (l.drop i).takeWhile fun c => dgN c.toNat := by
    have h : (l.drop i).takeWhile (fun c : UInt8 => dgN c.toNat) ++ (l.drop i).dropWhile (fun c : UInt8 => dgN c.toNat) = l.drop i := List.takeWhile_append_dropWhile
    calc _ = ((l.drop i).takeWhile (fun c : UInt8 => dgN c.toNat) ++ (l.drop i).dropWhile (fun c : UInt8 => dgN c.toNat)).take ((l.drop i).takeWhile fun c => dgN c.toNat).length := by rw [h]
      _ = _ := List.take_left
  rw [e]
  intro c hc
  exact List.all_eq_true.1 (List.all_takeWhile (p := fun c : UInt8 => dgN c.toNat) (l := l.drop i)) c hc
theorem digs_part (l : List UInt8) (i : Nat) : Digs ((l.drop (i + 1)).take (partN l i)) := by
  unfold partN
  split
  · exact digs_run l (i + 1)
  · intro c hc; simp at hc
theorem part_len (l : List UInt8) (i : Nat) : ((l.drop (i + 1)).take (partN l i)).length = partN l i := by
  unfold partN
  split
  · have := runD_le l (i + 1)
    simp; omega
  · simp
theorem behind_dot (l : List UInt8) (i : Nat) : (l.drop i).take (pN (partN l i)) = dotP ((l.drop (i + 1)).take (partN l i)) := by
  rw [behind_part]
  by_cases h : partN l i = 0
  · rw [if_pos h, h]; rfl
  · rw [if_neg h, dotP, if_neg (by intro e; have := part_len l i; rw [e] at this; simp at this; omega)]
theorem zoneN_take (l : List UInt8) (i : Nat) (hi : i ≤ l.length) : zoneN ((l.drop i).take (zoneN l i)) 0 = ((l.drop i).take (zoneN l i)).length := by
  have hz := zoneN_le l i hi
  have hl : ((l.drop i).take (zoneN l i)).length = zoneN l i := by simp; omega
  rw [hl]
  have hb : ∀ j, j < zoneN l i → bt ((l.drop i).take (zoneN l i)) j = bt l (i + j) := fun j hj => by rw [bt_take _ hj, bt_drop]
  rcases zoneN_cases l i with h | ⟨h, h1⟩ | ⟨h, h1, h2⟩
  · rw [h, List.take_zero]; decide
  · have h0 := hb 0 (by omega)
    rw [Nat.add_zero] at h0
    rw [zoneN, h0, if_pos h1, h]
  · have h0 := hb 0 (by omega)
    rw [Nat.add_zero] at h0
    have h3 : isZ ((l.drop i).take (zoneN l i)) 1 = isZ l (i + 1) := by
      simp only [isZ, tw, dg]
      rw [hb 1 (by omega), hb (1 + 1) (by omega), hb (1 + 2) (by omega), hb (1 + 3) (by omega), hb (1 + 3 + 1) (by omega)]
    rw [zoneN, h0, if_neg (by omega), if_pos ⟨h1, by rw [h3]; exact h2⟩, h]
/-- The longest beginning that is of the form is a whole form. -/
theorem asm_take (l : List UInt8) (h : (spl l).long ≠ 0) : Asm (l.take (spl l).long) := by
  rcases spl_cases l with ⟨_, _, e⟩ | ⟨_, hC, e⟩ | ⟨hD, _, e⟩ | ⟨hD, hM, hC, e⟩
  · rw [e] at h; exact absurd rfl h
  · have h8 := isC_len hC
    have hp := partN_le l 8 (by omega)
    have e1 : l.take (spl l).long = l.take 8 ++ (dotP ((l.drop 9).take (partN l 8)) ++ []) := by
      rw [e]
      simp only [Parts.long, Parts.zAt, if_true, List.append_nil]
      rw [← behind_dot l 8, show 0 + 8 + pN (partN l 8) + 0 = 8 + pN (partN l 8) by omega, List.take_add]
    rw [e1]
    exact .time (by simp; omega) (by rw [← hC]; simp only [isC, tw, dg]; repeat rw [bt_take l (by omega)]) (digs_part l 8)
  · have h10 := isD_len hD
    rw [e]
    exact .date (by simp [Parts.long]; omega) (by
      show isD (l.take 10) 0 = true
      rw [← hD]; simp only [isD, tw, dg]; repeat rw [bt_take l (by omega)])
  · have h19 := isC_len hC
    have hp := partN_le l 19 (by omega)
    have h10 : 10 < l.length := by omega
    have e1 : l.take (spl l).long = l.take 10 ++ (l[10] :: ((l.drop 11).take 8 ++ (dotP ((l.drop 20).take (partN l 19)) ++ (l.drop (19 + pN (partN l 19))).take (zoneN l (19 + pN (partN l 19)))))) := by
      rw [e]
      simp only [Parts.long, Parts.zAt, if_true]
      rw [← behind_dot l 19, show 11 + 8 + pN (partN l 19) + zoneN l (19 + pN (partN l 19)) = 10 + (1 + (8 + (pN (partN l 19) + zoneN l (19 + pN (partN l 19))))) by omega]
      rw [List.take_add, List.take_add (l := l.drop 10), List.take_add (l := (l.drop 10).drop 1), List.take_add (l := ((l.drop 10).drop 1).drop 8)]
      simp only [List.drop_drop]
      congr 1
      have e10 : (l.drop 10).take 1 = [l[10]] := by rw [List.drop_eq_getElem_cons h10]; rfl
      rw [e10]; simp
    have hm : l[10].toNat = 84 ∨ l[10].toNat = 116 ∨ l[10].toNat = 32 := by
      unfold midB at hM; rw [bt_lt h10] at hM; exact of_decide_eq_true hM
    rw [e1]
    refine .full (by simp; omega) ?_ hm (by simp; omega) ?_ (digs_part l 19) (zoneN_take l _ hp)
    · rw [← hD]; simp only [isD, tw, dg]; repeat rw [bt_take l (by omega)]
    · rw [← hC]; simp only [isC, tw, dg]; repeat rw [bt_take _ (by omega), bt_drop]
theorem long_take (l : List UInt8) (h : (spl l).long ≠ 0) : (spl (l.take (spl l).long)).long = (spl l).long := by
  have := (asm_long (asm_take l h)).1
  rw [this, List.length_take]
  have := long_le l
  omega
theorem long_over (l : List UInt8) {i : Nat} (hi : i ≤ l.length) (h : (spl l).long < i) : (spl (l.take i)).long = 0 ∨ (spl (l.take i)).long < i := by
  rcases Nat.eq_zero_or_pos (spl (l.take i)).long with h0 | h0
  · exact .inl h0
  · refine .inr ?_
    have hle := long_le (l.take i)
    have hl : (l.take i).length = i := by rw [List.length_take]; omega
    rcases Nat.lt_or_ge (spl (l.take i)).long i with h1 | h1
    · exact h1
    · have e : (spl (l.take i)).long = i := by omega
      have ha := asm_take (l.take i) (by omega)
      rw [e, List.take_take, Nat.min_self] at ha
      have := asm_ge ha (l.drop i)
      rw [List.take_append_drop, hl] at this
      omega

/-- What the parts' numbers say, of both. -/
def fullOk (D T r : List UInt8) : Bool := dateN (twN D 0) (twN D 2) (twN D 5) (twN D 8) && (timeN (twN T 0) (twN T 3) (twN T 6) && (decide (r.length < 2) || zonN (twN r 1) (twN r 4)))
theorem read_date {D : List UInt8} (h : D.length = 10) (hD : isD D 0 = true) : readD D = if dateN (twN D 0) (twN D 2) (twN D 5) (twN D 8) then (D, 0) else ([], 9) := by
  have hs := spl_date h hD
  have hl := asm_long (.date h hD)
  have hm := may_day hs
  cases hb : dateN (twN D 0) (twN D 2) (twN D 5) (twN D 8)
  · rw [hb] at hm; rw [readD_bad hl.1 (by rw [hl.1]; exact hl.2) hm]; rfl
  · rw [hb] at hm
    rw [readD_ok hl.1 (by rw [hl.1]; exact hl.2) hm, textL, textOf, hs]
    simp [Parts.dateL, Parts.timeL, Parts.partL, Parts.zoneL, upZ, dotP, rstrip_nil, List.take_of_length_le (show D.length ≤ 10 by omega)]
theorem read_time {T q : List UInt8} (h : T.length = 8) (hC : isC T 0 = true) (hq : Digs q) : readD (T ++ (dotP q ++ [])) = if timeN (twN T 0) (twN T 3) (twN T 6) then (T ++ dotP (rstrip q), 0) else ([], 9) := by
  have hs := spl_time h hC hq nd_nil
  have hl := asm_long (.time h hC hq)
  have hm := may_time hs
  rw [twN_left _ (by omega), twN_left _ (by omega), twN_left _ (by omega)] at hm
  cases hb : timeN (twN T 0) (twN T 3) (twN T 6)
  · rw [hb] at hm; rw [readD_bad hl.1 (by rw [hl.1]; exact hl.2) hm]; rfl
  · rw [hb] at hm
    have e1 : (T ++ (dotP q ++ [])).take 8 = T := by rw [← h, List.take_left]
    have e2 : ((T ++ (dotP q ++ [])).drop 9).take q.length = q := by
      rw [List.append_nil]
      unfold dotP
      by_cases h0 : q = []
      · rw [if_pos h0, h0]; simp
      · have e : T ++ 46 :: q = (T ++ [46]) ++ q := by simp
        rw [if_neg h0, e, show 9 = (T ++ [46]).length by simp [h], List.drop_left, List.take_length]
    rw [readD_ok hl.1 (by rw [hl.1]; exact hl.2) hm, textL, textOf, hs]
    simp only [Parts.dateL, Parts.timeL, Parts.partL, Parts.zoneL, Bool.false_eq_true, if_false, if_true, List.drop_zero, Nat.zero_add, e1, e2, List.take_zero]
    simp [upZ]
theorem read_full {D T q r : List UInt8} {c : UInt8} (hD : D.length = 10) (hDD : isD D 0 = true) (hc : c.toNat = 84 ∨ c.toNat = 116 ∨ c.toNat = 32) (hT : T.length = 8) (hC : isC T 0 = true) (hq : Digs q) (hr : zoneN r 0 = r.length) :
    readD (D ++ (c :: (T ++ (dotP q ++ r)))) = if fullOk D T r then (D ++ (84 :: (T ++ (dotP (rstrip q) ++ upZ r))), 0) else ([], 9) := by
  have hs := spl_full hD hDD hc hT hC hq (nd_zone hr)
  have hl := asm_long (.full hD hDD hc hT hC hq hr)
  have hl11 : (D ++ [c]).length = 11 := by simp [hD]
  have hl19 : ((D ++ [c]) ++ T).length = 19 := by simp [hD, hT]
  have hlz : (((D ++ [c]) ++ T) ++ dotP q).length = 19 + pN q.length := by rw [List.length_append, hl19, dotP_len]
  have e1 : D ++ (c :: (T ++ (dotP q ++ r))) = (D ++ [c]) ++ (T ++ (dotP q ++ r)) := by simp
  have e2 : D ++ (c :: (T ++ (dotP q ++ r))) = ((D ++ [c]) ++ T) ++ (dotP q ++ r) := by simp
  have e3 : D ++ (c :: (T ++ (dotP q ++ r))) = (((D ++ [c]) ++ T) ++ dotP q) ++ r := by simp
  have n11 : ∀ j, j + 1 < 8 → twN (D ++ (c :: (T ++ (dotP q ++ r)))) (11 + j) = twN T j := fun j hj => by
    rw [e1]; have := twN_right (D ++ [c]) (T ++ (dotP q ++ r)) j; rw [hl11] at this; rw [this, twN_left _ (by omega)]
  have nz : ∀ j, twN (D ++ (c :: (T ++ (dotP q ++ r)))) (19 + pN q.length + j) = twN r j := fun j => by
    rw [e3]; have := twN_right (((D ++ [c]) ++ T) ++ dotP q) r j; rw [hlz] at this; exact this
  have hm : mayL (D ++ (c :: (T ++ (dotP q ++ r)))) = fullOk D T r := by
    unfold fullOk
    by_cases h2 : r.length < 2
    · rw [may_both hs (by omega), twN_left _ (by omega), twN_left _ (by omega), twN_left _ (by omega), twN_left _ (by omega), show 11 = 11 + 0 from rfl, show 14 = 11 + 3 from rfl, show 17 = 11 + 6 from rfl, n11 0 (by omega), n11 3 (by omega), n11 6 (by omega), decide_eq_true h2]
      simp
    · rw [may_zone hs (by omega), twN_left _ (by omega), twN_left _ (by omega), twN_left _ (by omega), twN_left _ (by omega), nz 1, nz 4, show 14 = 11 + 3 from rfl, show 17 = 11 + 6 from rfl, n11 3 (by omega), n11 6 (by omega), show 11 = 11 + 0 from rfl, n11 0 (by omega), decide_eq_false h2]
      simp
  cases hb : fullOk D T r
  · rw [hb] at hm; rw [readD_bad hl.1 (by rw [hl.1]; exact hl.2) hm]; rfl
  · rw [hb] at hm
    have d1 : (D ++ (c :: (T ++ (dotP q ++ r)))).take 10 = D := by rw [← hD, List.take_left]
    have t1 : ((D ++ (c :: (T ++ (dotP q ++ r)))).drop 11).take 8 = T := by rw [e1, ← hl11, List.drop_left, ← hT, List.take_left]
    have p1 : ((D ++ (c :: (T ++ (dotP q ++ r)))).drop 20).take q.length = q := by
      rw [e2, show 20 = ((D ++ [c]) ++ T).length + 1 by rw [hl19], ← List.drop_drop, List.drop_left]
      unfold dotP
      by_cases h0 : q = []
      · rw [h0]; simp
      · rw [if_neg h0]; simp
    have z1 : ((D ++ (c :: (T ++ (dotP q ++ r)))).drop (19 + pN q.length)).take r.length = r := by rw [e3, ← hlz, List.drop_left, List.take_length]
    have hne1 : D ≠ [] := by intro e; rw [e] at hD; simp at hD
    have hne2 : T ≠ [] := by intro e; rw [e] at hT; simp at hT
    rw [readD_ok hl.1 (by rw [hl.1]; exact hl.2) hm, textL, textOf, hs, hr]
    simp only [Parts.dateL, Parts.timeL, Parts.partL, Parts.zoneL, Parts.zAt, if_true]
    rw [show 11 + 9 = 20 from rfl, show 11 + 8 + pN q.length = 19 + pN q.length by omega, d1, t1, p1, z1, if_pos ⟨hne1, hne2⟩]
    simp

theorem digs_strip {q : List UInt8} (h : Digs q) : Digs (rstrip q) := by
  intro c hc
  unfold rstrip at hc
  refine h c ?_
  have := (List.dropWhile_sublist (fun x : UInt8 => x == 48) (l := q.reverse)).subset (List.mem_reverse.1 hc)
  exact List.mem_reverse.1 this
theorem strip_strip (q : List UInt8) : rstrip (rstrip q) = rstrip q := by
  unfold rstrip
  rw [List.reverse_reverse]
  congr 1
  generalize q.reverse = l
  induction l with
  | nil => rfl
  | cons c l ih =>
    by_cases h : c = 48
    · subst h; simpa using ih
    · rw [List.dropWhile_cons_of_neg (by simpa using h), List.dropWhile_cons_of_neg (by simpa using h)]
theorem upZ_upZ (r : List UInt8) : upZ (upZ r) = upZ r := by
  unfold upZ
  by_cases h : r = [122]
  · rw [if_pos h, if_neg (by decide)]
  · rw [if_neg h, if_neg h]
theorem zone_up {r : List UInt8} (h : zoneN r 0 = r.length) : zoneN (upZ r) 0 = (upZ r).length := by
  unfold upZ
  by_cases h0 : r = [122]
  · rw [if_pos h0]; decide
  · rw [if_neg h0]; exact h
theorem full_up (D T r : List UInt8) : fullOk D T (upZ r) = fullOk D T r := by
  unfold upZ
  by_cases h0 : r = [122]
  · rw [if_pos h0, h0]; rfl
  · rw [if_neg h0]
/-- What is read is a normal form: its own. -/
theorem read_read {l t : List UInt8} (h : readD l = (t, 0)) : readD t = (t, 0) ∧ Asm t := by
  have hl : (spl l).long = l.length ∧ (spl l).long ≠ 0 := by
    have := long_le l
    by_cases h1 : (spl l).long = 0 ∨ (spl l).long < l.length
    · rw [readD_syn h1] at h; injection h with _ h; exact absurd h (by decide)
    · omega
  have ha := asm_take l hl.2
  rw [hl.1, List.take_length] at ha
  cases ha with
  | date hD hDD =>
    have e := read_date hD hDD
    rw [h] at e
    split at e
    · injection e with e _
      subst e
      exact ⟨h, .date hD hDD⟩
    · injection e with _ e; exact absurd e (by decide)
  | @time T q hT hC hq =>
    have e := read_time hT hC hq
    rw [h] at e
    split at e
    · rename_i hb
      injection e with e _
      subst e
      have h2 := read_time hT hC (digs_strip hq)
      rw [if_pos hb, strip_strip] at h2
      rw [List.append_nil] at h2
      have h3 := Asm.time hT hC (digs_strip hq)
      rw [List.append_nil] at h3
      exact ⟨h2, h3⟩
    · injection e with _ e; exact absurd e (by decide)
  | @full D T q r c hD hDD hc hT hC hq hr =>
    have e := read_full hD hDD hc hT hC hq hr
    rw [h] at e
    split at e
    · rename_i hb
      injection e with e _
      subst e
      have h2 := read_full (c := 84) hD hDD (by decide) hT hC (digs_strip hq) (zone_up hr)
      rw [full_up, if_pos hb, strip_strip, upZ_upZ] at h2
      exact ⟨h2, .full hD hDD (by decide) hT hC (digs_strip hq) (zone_up hr)⟩
    · injection e with _ e; exact absurd e (by decide)
theorem kind_pos {l : List UInt8} (h : (spl l).long ≠ 0) : kindP (spl l) ≠ 0 := by
  unfold kindP
  split
  · omega
  · split
    · split <;> omega
    · split
      · omega
      · rename_i h1 h2 h3
        exfalso; apply h; simp [Parts.long, h2, h3]
theorem of_pos {l : List UInt8} (h : readD l = (l, 0)) : ofD l ≠ 0 := by
  have hl : (spl l).long ≠ 0 := by
    intro e
    rw [readD_syn (.inl e)] at h; injection h with _ h; exact absurd h (by decide)
  rw [ofD, if_pos h]; exact kind_pos hl

end Go.Proofs.YtgchhogdbigafaaDoor
