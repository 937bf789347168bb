/- Plain laws for PatternsStars: texts of steps with stars, joined, with /** between; no program in them, and no statement of the seat is proved here. -/
import Derived.Test.YtjnedbkbhoiopaaDoorPtX
namespace Go.Proofs.YtjnedbkbhoiopaaDoor
open Go.RowKit

/-- Texts of patterns of which each takes its step of the path. -/
def SR (l : List PS4) (ts : List ByteArray) (ps : List Pat) : Prop :=
  ts.length = l.length ∧ ps.length = l.length ∧ ∀ (j : Nat) (x : PS4), l[j]? = some x → ∃ (t : ByteArray) (p : Pat), ts[j]? = some t ∧ ps[j]? = some p ∧ StepT t.data.toList p ∧ p.takes (asP x).step = true ∧ t.size ≤ 400
theorem SR.nil : SR [] [] [] := ⟨rfl, rfl, fun j x h => by simp at h⟩
theorem SR.snoc {l : List PS4} {ts : List ByteArray} {ps : List Pat} (h : SR l ts ps) {x : PS4} {t : ByteArray} {p : Pat} (h1 : StepT t.data.toList p) (h2 : p.takes (asP x).step = true) (h3 : t.size ≤ 400) : SR (l ++ [x]) (ts ++ [t]) (ps ++ [p]) := by
  obtain ⟨a, b, c⟩ := h
  refine ⟨by simp [a], by simp [b], fun j y hy => ?_⟩
  by_cases hj : j < l.length
  · rw [List.getElem?_append_left hj] at hy
    rw [List.getElem?_append_left (by omega), List.getElem?_append_left (by omega)]
    exact c j y hy
  · rw [List.getElem?_append_right (by omega)] at hy
    rw [List.getElem?_append_right (by omega), List.getElem?_append_right (by omega), a, b]
    have e : j - l.length = 0 := by
      have := (List.getElem?_eq_some_iff.1 hy).1
      simp at this; omega
    rw [e] at hy ⊢
    simp at hy
    subst hy
    exact ⟨t, p, rfl, rfl, h1, h2, h3⟩
theorem SR.head {l : List PS4} {ts : List ByteArray} {ps : List Pat} (h : SR l ts ps) (k : Nat) : SR (l.take k) (ts.take k) (ps.take k) := by
  obtain ⟨a, b, c⟩ := h
  refine ⟨by simp [a], by simp [b], fun j x hx => ?_⟩
  rw [List.getElem?_take] at hx
  split at hx
  · rename_i hj
    rw [List.getElem?_take, if_pos hj, List.getElem?_take, if_pos hj]
    exact c j x hx
  · cases hx
theorem SR.tail {l : List PS4} {ts : List ByteArray} {ps : List Pat} (h : SR l ts ps) (k : Nat) : SR (l.drop k) (ts.drop k) (ps.drop k) := by
  obtain ⟨a, b, c⟩ := h
  refine ⟨by simp [a], by simp [b], fun j x hx => ?_⟩
  rw [List.getElem?_drop] at hx ⊢
  rw [List.getElem?_drop]
  exact c _ x hx
/-- The texts, one behind the other. -/
def catB (ts : List ByteArray) : List UInt8 := (ts.map (·.data.toList)).flatten
theorem SR.steps {l : List PS4} {ts : List ByteArray} {ps : List Pat} (h : SR l ts ps) : StepsT (catB ts) ps := by
  induction l generalizing ts ps with
  | nil =>
    obtain ⟨a, b, _⟩ := h
    rw [List.eq_nil_of_length_eq_zero a, List.eq_nil_of_length_eq_zero b]
    exact .nil
  | cons x l ih =>
    obtain ⟨t, p, h1, h2, h3, _, _⟩ := h.2.2 0 x rfl
    cases ts with
    | nil => cases h1
    | cons t' ts =>
      cases ps with
      | nil => cases h2
      | cons p' ps =>
        cases h1; cases h2
        have := ih (ts := ts) (ps := ps) (by simpa using h.tail 1)
        exact .cons h3 this
theorem SR.len {l : List PS4} {ts : List ByteArray} {ps : List Pat} (h : SR l ts ps) : (catB ts).length ≤ 400 * l.length := by
  induction l generalizing ts ps with
  | nil =>
    obtain ⟨a, _, _⟩ := h
    rw [List.eq_nil_of_length_eq_zero a]; simp [catB]
  | cons x l ih =>
    obtain ⟨t, p, h1, h2, _, _, h3⟩ := h.2.2 0 x rfl
    cases ts with
    | nil => cases h1
    | cons t' ts =>
      cases ps with
      | nil => cases h2
      | cons p' ps =>
        cases h1
        have := ih (ts := ts) (ps := ps) (by simpa using h.tail 1)
        show (t.data.toList ++ catB ts).length ≤ _
        rw [List.length_append, bal, List.length_cons]; omega
theorem SR.takesAt {l : List PS4} {ts : List ByteArray} {ps : List Pat} (h : SR l ts ps) {i : Nat} : ∀ k q, (ps.drop i)[k]? = some q → ∃ s, ((l.map asP).map PS4.step)[i + k]? = some s ∧ q.takes s = true := by
  intro k q hq
  rw [List.getElem?_drop] at hq
  have hlt : i + k < l.length := by have := (List.getElem?_eq_some_iff.1 hq).1; have := h.2.1; omega
  obtain ⟨t, p, _, h2, _, h4, _⟩ := h.2.2 (i + k) l[i + k] (List.getElem?_eq_getElem hlt)
  rw [h2] at hq
  cases hq
  exact ⟨_, by rw [List.getElem?_map, List.getElem?_map, List.getElem?_eq_getElem hlt]; rfl, h4⟩
theorem starsT : StepT [47, 42, 42] .stars := .stars
theorem SR.plain {l : List PS4} {ts : List ByteArray} {ps : List Pat} (h : SR l ts ps) (hl : l.length ≤ 20) (h0 : l ≠ []) : matchesL (catB ts) ((l.map asP).map PS4.step) = true := by
  have hne : catB ts ≠ [] := by
    intro e
    cases l with
    | nil => exact h0 rfl
    | cons x l =>
      obtain ⟨t, p, h1, _, h3, _⟩ := h.2.2 0 x rfl
      cases ts with
      | nil => cases h1
      | cons t' ts =>
        cases h1
        have e' : t.data.toList = [] := (List.append_eq_nil_iff.1 (show t.data.toList ++ catB ts = [] from e)).1
        rw [e'] at h3
        cases h3
  have hp := parse_steps h.steps (by have := h.2.1; omega) hne
  unfold matchesL
  rw [hp]
  show matchL _ _ = true
  have := may_steps ps [] 0 (may_nil ((l.map asP).map PS4.step)) (fun k q hq => by have := h.takesAt (i := 0) k q (by simpa using hq); simpa using this)
  rw [List.nil_append, Nat.zero_add, h.2.1] at this
  show mayL ps _ _ = true
  rw [show ((l.map asP).map PS4.step).length = l.length by simp]
  exact this
theorem SR.over {l : List PS4} {ts : List ByteArray} {ps : List Pat} (h : SR l ts ps) (hl : l.length ≤ 20) {i j : Nat} (hij : i ≤ j) (hj : j ≤ l.length) :
    matchesL (catB (ts.take i) ++ [47, 42, 42] ++ catB (ts.drop j)) ((l.map asP).map PS4.step) = true ∧ matchesL (catB (ts.take i) ++ [47, 42, 42] ++ catB (ts.drop j) ++ [47, 42, 42]) ((l.map asP).map PS4.step) = true := by
  have hpl : ((l.map asP).map PS4.step).length = l.length := by simp
  have h1 := (h.head i).steps
  have h2 := (h.tail j).steps
  have s1 : StepsT (catB (ts.take i) ++ [47, 42, 42] ++ catB (ts.drop j)) ((ps.take i ++ [.stars]) ++ ps.drop j) := (h1.app (StepsT.one starsT)).app h2
  have s2 := s1.app (StepsT.one starsT)
  have m1 := may_steps (ps.take i) [] 0 (may_nil ((l.map asP).map PS4.step)) (fun k q hq => by
    rw [List.getElem?_take] at hq
    split at hq
    · have := h.takesAt (i := 0) k q (by simpa using hq); simpa using this
    · cases hq)
  have hti : (ps.take i).length = i := by rw [List.length_take, h.2.1]; omega
  rw [List.nil_append, hti, Nat.zero_add] at m1
  have m2 := may_stars m1 hij (by rw [hpl]; exact hj)
  have m3 := may_steps (ps.drop j) (ps.take i ++ [.stars]) j m2 (fun k q hq => h.takesAt (i := j) k q hq)
  have hdl : j + (ps.drop j).length = l.length := by rw [List.length_drop, h.2.1]; omega
  rw [hdl] at m3
  have m4 := may_stars m3 (Nat.le_refl _) (by rw [hpl]; exact Nat.le_refl _)
  have hln : ((ps.take i ++ [Pat.stars]) ++ ps.drop j).length ≤ 21 := by have := h.2.1; simp only [List.length_append, List.length_take, List.length_drop, List.length_singleton]; omega
  constructor
  · have hp := parse_steps s1 (by omega) (by simp)
    unfold matchesL
    rw [hp]
    show mayL _ _ _ = true
    rw [hpl]; exact m3
  · have hp := parse_steps s2 (by rw [List.length_append, List.length_singleton]; omega) (by simp)
    unfold matchesL
    rw [hp]
    show mayL _ _ _ = true
    rw [hpl]; exact m4
theorem stars_all (l : List PS4) : matchesL [47, 42, 42] ((l.map asP).map PS4.step) = true := by
  have hp := parse_steps (StepsT.one starsT) (by simp) (by simp)
  unfold matchesL
  rw [hp]
  have := may_stars (may_nil ((l.map asP).map PS4.step)) (Nat.zero_le _) (Nat.le_refl _)
  exact this
theorem joinE (xs : List (List UInt8)) : Lib.join xs [] = xs.flatten := by
  cases xs with
  | nil => rfl
  | cons x r =>
    rw [Lib.join_cons]
    show x ++ (r.map (fun y => [] ++ y)).flatten = _
    simp
/-- The five ways of a step. -/
theorem way_key {x : PS4} (h : isKey x = true) : StepT (47 :: encW x.t.data.toList) (.key x.t.data.toList) ∧ (Pat.key x.t.data.toList).takes (asP x).step = true := by
  refine ⟨.key (encW_enc _) encW_head, ?_⟩
  have := takes_as x
  unfold patP at this
  rwa [if_pos h] at this
theorem way_anyKey {x : PS4} (h : isKey x = true) : Pat.anyKey.takes (asP x).step = true := by
  unfold asP; rw [if_pos h]; rfl
theorem way_anyAt {x : PS4} (h : isKey x = false) : Pat.anyAt.takes (asP x).step = true := by
  unfold asP; rw [if_neg (by rw [h]; simp)]; rfl
theorem way_id {x : PS4} (h : isKey x = false) : StepT (91 :: (encW x.t.data.toList ++ 61 :: (encW x.d.data.toList ++ [93]))) (.id x.t.data.toList x.d.data.toList) ∧ (Pat.id x.t.data.toList x.d.data.toList).takes (asP x).step = true := by
  refine ⟨.id (encW_enc _) encW_head (encW_enc _) encW_head, ?_⟩
  have := takes_as x
  unfold patP at this
  rwa [if_neg (by rw [h]; simp)] at this
theorem way_anyId {x : PS4} (h : isKey x = false) : StepT (91 :: (encW x.t.data.toList ++ [61, 42, 93])) (.anyId x.t.data.toList) ∧ (Pat.anyId x.t.data.toList).takes (asP x).step = true := by
  refine ⟨.anyId (encW_enc _) encW_head, ?_⟩
  unfold asP; rw [if_neg (by rw [h]; simp)]
  show (decide ((2 : Int) = 2) && decide (x.t.data.toList = x.t.data.toList)) = true
  simp

end Go.Proofs.YtjnedbkbhoiopaaDoor
