/- Plain laws of chapter 17's patterns: what encoded words tell, texts of steps, matching without stars; no program in them, and no statement of the seat is proved here. -/
import Derived.Test.YtjnedbkbhoiopaaDoorPtC
import Derived.Test.YtjnedbkbhoiopaaDoorHx1
namespace Go.Proofs.YtjnedbkbhoiopaaDoor
open Go.RowKit

/-- A text of a word: behind it the reader goes on. -/
def Enc (e t : List UInt8) : Prop := ∀ r, wordL (e ++ r) = wApp t e.length (wordL r)
theorem Enc.nil : Enc [] [] := fun r => by rw [List.nil_append]; exact (wApp_zero r).symm
theorem Enc.app {e t e' t' : List UInt8} (h : Enc e t) (h' : Enc e' t') : Enc (e ++ e') (t ++ t') := fun r => by
  rw [List.append_assoc, h, h', wApp_app, List.length_append]
/-- A byte with a percent sign, of upper case. -/
def hexU (n : Nat) : UInt8 := UInt8.ofNat (if n < 10 then 48 + n else 55 + n)
def encC (c : UInt8) : List UInt8 := [37, hexU (c.toNat / 16), hexU (c.toNat % 16)]
def encW (l : List UInt8) : List UInt8 := l.flatMap encC
theorem hexU_ok : ∀ c : UInt8, (hexd (hexU (c.toNat / 16)) && hexd (hexU (c.toNat % 16)) && (UInt8.ofNat (hexv (hexU (c.toNat / 16)) * 16 + hexv (hexU (c.toNat % 16))) == c)) = true := u8_all (by decide +kernel)
theorem hexc_ok : ∀ c : UInt8, (hexd (hexc (c.toNat / 16)) && hexd (hexc (c.toNat % 16)) && (UInt8.ofNat (hexv (hexc (c.toNat / 16)) * 16 + hexv (hexc (c.toNat % 16))) == c)) = true := u8_all (by decide +kernel)
theorem encC_enc (c : UInt8) : Enc (encC c) [c] := fun r => by
  have h := hexU_ok c
  simp only [Bool.and_eq_true, beq_iff_eq] at h
  obtain ⟨⟨h1, h2⟩, h3⟩ := h
  show wordL (37 :: _ :: _ :: r) = _
  rw [wordL_hex h1 h2, h3]; rfl
theorem spellC_enc (c : UInt8) : Enc (spellC c) [c] := fun r => by
  unfold spellC
  by_cases hs : (spec c || decide (128 ≤ c.toNat)) = true
  · rw [if_pos hs]
    have h := hexc_ok c
    simp only [Bool.and_eq_true, beq_iff_eq] at h
    obtain ⟨⟨h1, h2⟩, h3⟩ := h
    show wordL (37 :: _ :: _ :: r) = _
    rw [wordL_hex h1 h2, h3]; rfl
  · rw [if_neg hs]
    rw [Bool.or_eq_true, not_or] at hs
    exact wordL_plain (by simpa using hs.1)
theorem encW_enc (l : List UInt8) : Enc (encW l) l := by
  induction l with
  | nil => exact Enc.nil
  | cons c l ih => exact (encC_enc c).app ih
theorem spellL_enc (l : List UInt8) : Enc (spellL l) l := by
  induction l with
  | nil => exact Enc.nil
  | cons c l ih => exact (spellC_enc c).app ih
/-- No star begins a word's text. -/
theorem encW_head {l : List UInt8} : (encW l)[0]? ≠ some 42 := by
  cases l with
  | nil => simp [encW]
  | cons c l => simp [encW, encC]
theorem spellC_head (c : UInt8) : (spellC c)[0]? ≠ some 42 ∧ spellC c ≠ [] := by
  unfold spellC
  by_cases hs : (spec c || decide (128 ≤ c.toNat)) = true
  · rw [if_pos hs]; simp
  · rw [if_neg hs]
    refine ⟨?_, by simp⟩
    intro h
    simp at h
    subst h
    exact hs (by decide)
theorem spellL_head {l : List UInt8} : (spellL l)[0]? ≠ some 42 := by
  cases l with
  | nil => simp [spellL]
  | cons c l =>
    have h := spellC_head c
    show (spellC c ++ _)[0]? ≠ _
    rw [List.getElem?_append_left (by cases e : spellC c with | nil => exact absurd e h.2 | cons a b => simp)]
    exact h.1

/-- How a step may be written: by which texts of its words. -/
inductive StepT : List UInt8 → Pat → Prop where
  | key {e t : List UInt8} (h : Enc e t) (h0 : e[0]? ≠ some 42) : StepT (47 :: e) (.key t)
  | anyKey : StepT [47, 42] .anyKey
  | stars : StepT [47, 42, 42] .stars
  | anyAt : StepT [91, 42, 93] .anyAt
  | id {e t e' t' : List UInt8} (h : Enc e t) (h0 : e[0]? ≠ some 42) (h' : Enc e' t') (h0' : e'[0]? ≠ some 42) : StepT (91 :: (e ++ 61 :: (e' ++ [93]))) (.id t t')
  | anyId {e t : List UInt8} (h : Enc e t) (h0 : e[0]? ≠ some 42) : StepT (91 :: (e ++ [61, 42, 93])) (.anyId t)
theorem text_stepT (p : Pat) : StepT p.text p := by
  cases p with
  | key w => exact .key (spellL_enc w) spellL_head
  | anyKey => exact .anyKey
  | stars => exact .stars
  | anyAt => exact .anyAt
  | id f w => exact .id (spellL_enc f) spellL_head (spellL_enc w) spellL_head
  | anyId f => exact .anyId (spellL_enc f) spellL_head

/-- What stands behind a step begins with no star, and stops a word. -/
def Stops (r : List UInt8) : Prop := r = [] ∨ ∃ t, r = 47 :: t ∨ r = 91 :: t
theorem Stops.word {r : List UInt8} (h : Stops r) : wordL r = ([], 0, none) := by
  rcases h with rfl | ⟨t, rfl | rfl⟩
  · rfl
  · exact wordL_stop (by decide) (by decide)
  · exact wordL_stop (by decide) (by decide)
theorem Stops.head {r : List UInt8} (h : Stops r) : r[0]? ≠ some 42 := by
  rcases h with rfl | ⟨t, rfl | rfl⟩ <;> simp
theorem Enc.stop {e t r : List UInt8} (h : Enc e t) (hr : wordL r = ([], 0, none)) : wordL (e ++ r) = (t, e.length, none) := by
  rw [h, hr]; simp [wApp]
theorem get_two {e r : List UInt8} {c : UInt8} (h : e[0]? ≠ some c) (h' : r[0]? ≠ some c) : (e ++ r)[0]? ≠ some c := by
  cases e with
  | nil => exact h'
  | cons a t => exact h
theorem get_off {a b : List UInt8} {i k : Nat} (h : a.length = i) : (a ++ b)[i + k]? = b[k]? := by
  subst h; rw [List.getElem?_append_right (by omega), Nat.add_sub_cancel_left]
theorem drop_off {a b : List UInt8} {i k : Nat} (h : a.length = i) : (a ++ b).drop (i + k) = b.drop k := by
  subst h; rw [List.drop_append]; simp
theorem drop_here {a b : List UInt8} {i : Nat} (h : a.length = i) : (a ++ b).drop i = b := by
  subst h; simp

/-- One step is read. -/
theorem step_read {e : List UInt8} {p : Pat} (h : StepT e p) (a r : List UInt8) (hr : Stops r) (ps : List Pat) (hps : ps.length < 512) (fuel : Nat) :
    stepsL (a ++ (e ++ r)) (fuel + 1) a.length ps = stepsL (a ++ (e ++ r)) fuel (a.length + e.length) (ps ++ [p]) := by
  have hne : 0 < e.length := by cases h <;> simp
  rw [stepsL, if_pos (by simp; omega), if_neg (by omega)]
  have g : ∀ k, (a ++ (e ++ r))[a.length + k]? = (e ++ r)[k]? := fun k => get_off rfl
  have d : ∀ k, (a ++ (e ++ r)).drop (a.length + k) = (e ++ r).drop k := fun k => drop_off rfl
  have g0 := g 0
  rw [Nat.add_zero] at g0
  generalize hl : a ++ (e ++ r) = l at *
  cases h with
  | @key e t h h0 =>
    rw [g0, if_pos (by rfl)]
    have hk : keyedL l (a.length + 1) = .ok (.key t, a.length + 1 + e.length) := by
      rw [keyedL, g 1, d 1, if_neg (by exact get_two h0 hr.head)]
      show (match wordL (e ++ r) with | (o, n, none) => _ | (_, _, some k) => _) = _
      rw [h.stop hr.word]
    rw [hk, List.length_cons]
    show stepsL l fuel (a.length + 1 + e.length) _ = _
    rw [show a.length + (e.length + 1) = a.length + 1 + e.length by omega]
  | anyKey =>
    rw [g0, if_pos (by rfl)]
    have hk : keyedL l (a.length + 1) = .ok (.anyKey, a.length + 2) := by
      rw [keyedL, g 1, if_pos (by rfl), Nat.add_assoc, g 2, if_neg (by exact hr.head)]
    rw [hk]; rfl
  | stars =>
    rw [g0, if_pos (by rfl)]
    have hk : keyedL l (a.length + 1) = .ok (.stars, a.length + 3) := by
      rw [keyedL, g 1, if_pos (by rfl), Nat.add_assoc, g 2, if_pos (by rfl)]
    rw [hk]; rfl
  | anyAt =>
    rw [g0, if_neg (by simp), if_pos (by rfl)]
    have hk : listedL l (a.length + 1) = .ok (.anyAt, a.length + 3) := by
      rw [listedL, g 1, if_pos (by rfl), closedL, Nat.add_assoc, g 2, if_pos (by rfl)]
    rw [hk]; rfl
  | @id e t e' t' h h0 h' h0' =>
    rw [g0, if_neg (by simp), if_pos (by rfl)]
    have hk : listedL l (a.length + 1) = .ok (.id t t', a.length + (e.length + e'.length + 3)) := by
      rw [listedL, g 1, d 1]
      rw [if_neg (by
        show ((e ++ 61 :: (e' ++ [93])) ++ r)[0]? ≠ _
        rw [List.append_assoc]; exact get_two h0 (by simp))]
      have w1 : wordL (List.drop 1 (91 :: (e ++ 61 :: (e' ++ [93])) ++ r)) = (t, e.length, none) := by
        show wordL ((e ++ 61 :: (e' ++ [93])) ++ r) = _
        rw [List.append_assoc]; exact h.stop (wordL_stop (by decide) (by decide))
      rw [w1]
      show (if l[a.length + 1 + e.length]? = some 61 then _ else _) = _
      have x1 : ∀ k, (91 :: (e ++ 61 :: (e' ++ [93])) ++ r)[1 + e.length + k]? = (61 :: (e' ++ 93 :: r))[k]? := fun k => by
        rw [show (91 :: (e ++ 61 :: (e' ++ [93])) ++ r) = (91 :: e) ++ (61 :: (e' ++ 93 :: r)) by simp]
        exact get_off (by simp; omega)
      have x2 : (91 :: (e ++ 61 :: (e' ++ [93])) ++ r).drop (1 + e.length + 1) = e' ++ 93 :: r := by
        rw [show (91 :: (e ++ 61 :: (e' ++ [93])) ++ r) = (91 :: e) ++ (61 :: (e' ++ 93 :: r)) by simp]
        rw [drop_off (by simp; omega)]; rfl
      rw [Nat.add_assoc, g, show 1 + e.length = 1 + e.length + 0 by omega, x1 0, if_pos (by rfl)]
      rw [show a.length + (1 + e.length + 0) + 1 = a.length + (1 + e.length + 1) by omega, g, d, x1 1, x2]
      rw [if_neg (by show (e' ++ 93 :: r)[0]? ≠ _; exact get_two h0' (by simp))]
      rw [h'.stop (wordL_stop (by decide) (by decide))]
      show closedL l (.id t t') _ = _
      have x3 : (91 :: (e ++ 61 :: (e' ++ [93])) ++ r)[1 + e.length + 1 + e'.length]? = some 93 := by
        rw [show 1 + e.length + 1 + e'.length = 1 + e.length + (1 + e'.length) by omega, x1]
        rw [show (61 :: (e' ++ 93 :: r)) = (61 :: e') ++ (93 :: r) by rfl, show 1 + e'.length = (1 + e'.length) + 0 by rfl, get_off (by simp; omega)]; rfl
      rw [closedL, show a.length + (1 + e.length + 1) + e'.length = a.length + (1 + e.length + 1 + e'.length) by omega, g, x3, if_pos rfl]
      congr 2; omega
    rw [hk]
    show stepsL l fuel (a.length + (e.length + e'.length + 3)) _ = _
    congr 1
    simp; omega
  | @anyId e t h h0 =>
    rw [g0, if_neg (by simp), if_pos (by rfl)]
    have hk : listedL l (a.length + 1) = .ok (.anyId t, a.length + (e.length + 4)) := by
      rw [listedL, g 1, d 1]
      rw [if_neg (by
        show ((e ++ [61, 42, 93]) ++ r)[0]? ≠ _
        rw [List.append_assoc]; exact get_two h0 (by simp))]
      have w1 : wordL (List.drop 1 (91 :: (e ++ [61, 42, 93]) ++ r)) = (t, e.length, none) := by
        show wordL ((e ++ [61, 42, 93]) ++ r) = _
        rw [List.append_assoc]; exact h.stop (wordL_stop (by decide) (by decide))
      rw [w1]
      show (if l[a.length + 1 + e.length]? = some 61 then _ else _) = _
      have x1 : ∀ k, (91 :: (e ++ [61, 42, 93]) ++ r)[1 + e.length + k]? = (61 :: 42 :: 93 :: r)[k]? := fun k => by
        rw [show (91 :: (e ++ [61, 42, 93]) ++ r) = (91 :: e) ++ (61 :: 42 :: 93 :: r) by simp]
        exact get_off (by simp; omega)
      rw [Nat.add_assoc, g, show 1 + e.length = 1 + e.length + 0 by omega, x1 0, if_pos (by rfl)]
      rw [show a.length + (1 + e.length + 0) + 1 = a.length + (1 + e.length + 1) by omega, g, x1 1, if_pos (by rfl)]
      rw [closedL, show a.length + (1 + e.length + 0) + 2 = a.length + (1 + e.length + 2) by omega, g, x1 2, if_pos (by rfl)]
      congr 2; omega
    rw [hk]
    show stepsL l fuel (a.length + (e.length + 4)) _ = _
    congr 1
    simp

/-- Texts of steps, one behind the other. -/
inductive StepsT : List UInt8 → List Pat → Prop where
  | nil : StepsT [] []
  | cons {e es : List UInt8} {p : Pat} {ps : List Pat} (h : StepT e p) (hs : StepsT es ps) : StepsT (e ++ es) (p :: ps)
theorem StepT.begins {e : List UInt8} {p : Pat} (h : StepT e p) (r : List UInt8) : Stops (e ++ r) := by
  cases h <;> exact .inr ⟨_, by first | exact .inl rfl | exact .inr rfl⟩
theorem StepsT.stops {e : List UInt8} {ps : List Pat} (h : StepsT e ps) : Stops e := by
  cases h with
  | nil => exact .inl rfl
  | cons h hs => exact h.begins _
theorem StepsT.app {e e' : List UInt8} {ps ps' : List Pat} (h : StepsT e ps) (h' : StepsT e' ps') : StepsT (e ++ e') (ps ++ ps') := by
  induction h with
  | nil => exact h'
  | cons h hs ih => rw [List.append_assoc]; exact .cons h ih
theorem StepsT.one {e : List UInt8} {p : Pat} (h : StepT e p) : StepsT e [p] := by
  have := StepsT.cons h .nil; rwa [List.append_nil] at this
theorem StepsT.len {e : List UInt8} {ps : List Pat} (h : StepsT e ps) : ps.length ≤ e.length := by
  induction h with
  | nil => simp
  | @cons e es p ps h hs ih =>
    have hne : 0 < e.length := by cases h <;> simp
    simp; omega
theorem steps_read {e : List UInt8} {qs : List Pat} (h : StepsT e qs) : ∀ (a : List UInt8) (ps : List Pat) (fuel : Nat), ps.length + qs.length ≤ 512 → qs.length < fuel → stepsL (a ++ e) fuel a.length ps = .ok (ps ++ qs) := by
  induction h with
  | nil =>
    intro a ps fuel _ hf
    cases fuel with
    | zero => omega
    | succ fuel => rw [stepsL, if_neg (by simp)]; simp
  | @cons e es p qs h hs ih =>
    intro a ps fuel hp hf
    cases fuel with
    | zero => omega
    | succ fuel =>
      simp only [List.length_cons] at hp hf
      rw [step_read h a es hs.stops ps (by omega) fuel]
      have := ih (a ++ e) (ps ++ [p]) fuel (by simp; omega) (by omega)
      rw [List.append_assoc, List.length_append, List.append_assoc] at this
      rw [this]; rfl
/-- What is written step by step is that pattern. -/
theorem parse_steps {e : List UInt8} {qs : List Pat} (h : StepsT e qs) (hq : qs.length ≤ 512) (h0 : e ≠ []) : parseL e = .ok qs := by
  have h46 : e ≠ [46] := by
    rintro rfl
    rcases h.stops with h | ⟨t, h | h⟩ <;> cases h
  rw [parseL, if_neg h46, if_neg h0]
  have := steps_read h [] [] (e.length + 1) (by simpa using hq) (by have := h.len; omega)
  exact this
theorem text_steps (ps : List Pat) : StepsT (ps.flatMap Pat.text) ps := by
  induction ps with
  | nil => exact .nil
  | cons p ps ih => exact .cons (text_stepT p) ih
theorem parse_text (ps : List Pat) (h : ps.length ≤ 512) : parseL (textL ps) = .ok ps := by
  unfold textL
  by_cases h0 : ps = []
  · subst h0; rfl
  · rw [if_neg h0]
    refine parse_steps (text_steps ps) h ?_
    cases ps with
    | nil => exact absurd rfl h0
    | cons p ps => cases p <;> simp [Pat.text]

/-! Matching. -/
theorem nxt_one {p : Pat} (hp : p.any = false) (may : Nat → Bool) (path : List PStep) (i : Nat) : nxt p may path i = (match i with | 0 => false | k + 1 => match path[k]? with | some s => p.takes s && may k | none => false) := by
  cases i with
  | zero => simp [nxt, hp]
  | succ k =>
    rw [nxt, hp]
    dsimp only
    cases path[k]? <;> simp
theorem snoc_ind {α : Type} {M : List α → Prop} (h0 : M []) (h1 : ∀ l x, M l → M (l ++ [x])) : ∀ l, M l := by
  have : ∀ n (l : List α), l.length = n → M l := by
    intro n
    induction n with
    | zero => intro l hl; cases l with | nil => exact h0 | cons => simp at hl
    | succ n ih =>
      intro l hl
      rcases List.eq_nil_or_concat l with rfl | ⟨l', x, rfl⟩
      · exact h0
      · rw [List.concat_eq_append]; exact h1 l' x (ih l' (by simpa using hl))
  exact fun l => this _ l rfl
/-- Without stars: each step takes its own. -/
theorem may_one (path : List PStep) : ∀ ps : List Pat, (∀ p ∈ ps, p.any = false) → ∀ i, mayL ps path i = true ↔ i = ps.length ∧ i ≤ path.length ∧ ∀ (k : Nat) (p : Pat) (s : PStep), ps[k]? = some p → path[k]? = some s → p.takes s = true := by
  refine snoc_ind ?_ ?_
  · intro _ i
    simp [mayL]
    omega
  · intro ps p ih hp i
    have hp' : ∀ q ∈ ps, q.any = false := fun q hq => hp q (by simp [hq])
    rw [mayL_snoc, nxt_one (hp p (by simp))]
    cases i with
    | zero => simp
    | succ k =>
      dsimp only
      cases hs : path[k]? with
      | none =>
        have : path.length ≤ k := by simpa using hs
        simp; omega
      | some s =>
        have hk : k < path.length := (List.getElem?_eq_some_iff.1 hs).1
        dsimp only
        rw [Bool.and_eq_true, ih hp' k]
        constructor
        · rintro ⟨h1, rfl, h3, h4⟩
          refine ⟨by simp, by omega, fun j q s' hq hs' => ?_⟩
          rcases Nat.lt_or_ge j ps.length with h | h
          · rw [List.getElem?_append_left h] at hq; exact h4 j q s' hq hs'
          · rw [List.getElem?_append_right h] at hq
            have hj : j - ps.length = 0 := by
              rcases Nat.eq_zero_or_pos (j - ps.length) with h | h
              · exact h
              · rw [List.getElem?_eq_none (by simp; omega)] at hq; cases hq
            rw [hj] at hq
            simp at hq; subst hq
            obtain rfl : j = ps.length := by omega
            rw [hs] at hs'; cases hs'; exact h1
        · rintro ⟨h1, h2, h3⟩
          have hkl : k = ps.length := by simp at h1; exact h1
          refine ⟨h3 k p s (by rw [hkl]; simp) hs, hkl, by omega, fun j q s' hq hs' => h3 j q s' ?_ hs'⟩
          rw [List.getElem?_append_left (List.getElem?_eq_some_iff.1 hq).1]; exact hq
theorem match_one {ps : List Pat} {path : List PStep} (hp : ∀ p ∈ ps, p.any = false) : matchL ps path = true ↔ path.length = ps.length ∧ ∀ (k : Nat) (p : Pat) (s : PStep), ps[k]? = some p → path[k]? = some s → p.takes s = true := by
  unfold matchL
  rw [may_one path ps hp]
  simp

/-- A star for steps: from whatever place. -/
theorem nxt_stars (may : Nat → Bool) (path : List PStep) : ∀ i, i ≤ path.length → (nxt .stars may path i = true ↔ ∃ j, j ≤ i ∧ may j = true)
  | 0, _ => by simp [nxt, Pat.any]
  | i + 1, h => by
    have hi : i < path.length := h
    rw [nxt, List.getElem?_eq_getElem hi]
    simp only [Pat.any, Pat.takes, Bool.true_and, Bool.or_eq_true]
    rw [nxt_stars may path i (by omega)]
    constructor
    · rintro (h | h | ⟨j, h1, h2⟩)
      · exact ⟨i + 1, Nat.le_refl _, h⟩
      · exact ⟨i, by omega, h⟩
      · exact ⟨j, by omega, h2⟩
    · rintro ⟨j, h1, h2⟩
      rcases Nat.lt_or_eq_of_le h1 with h | rfl
      · exact .inr (.inr ⟨j, by omega, h2⟩)
      · exact .inl h2
/-- One step is one that takes its own. -/
theorem may_step {ps : List Pat} {p : Pat} {path : List PStep} {i : Nat} {s : PStep} (h : mayL ps path i = true) (hs : path[i]? = some s) (ht : p.takes s = true) : mayL (ps ++ [p]) path (i + 1) = true := by
  rw [mayL_snoc, nxt, hs]
  simp [h, ht]
theorem may_steps {path : List PStep} : ∀ (qs ps : List Pat) (i : Nat), mayL ps path i = true → (∀ k q, qs[k]? = some q → ∃ s, path[i + k]? = some s ∧ q.takes s = true) → mayL (ps ++ qs) path (i + qs.length) = true
  | [], ps, i, h, _ => by simpa using h
  | q :: qs, ps, i, h, ht => by
    obtain ⟨s, h1, h2⟩ := ht 0 q rfl
    have := may_steps qs (ps ++ [q]) (i + 1) (may_step h h1 h2) (fun k q' hq => by
      obtain ⟨s', h1, h2⟩ := ht (k + 1) q' (by simpa using hq)
      exact ⟨s', by rw [← h1]; congr 1; omega, h2⟩)
    rw [List.append_assoc] at this
    rw [List.length_cons, ← Nat.add_assoc, Nat.add_right_comm]; exact this
theorem may_stars {ps : List Pat} {path : List PStep} {i j : Nat} (h : mayL ps path i = true) (hij : i ≤ j) (hj : j ≤ path.length) : mayL (ps ++ [.stars]) path j = true := by
  rw [mayL_snoc, nxt_stars _ _ _ hj]; exact ⟨i, hij, h⟩
theorem may_nil (path : List PStep) : mayL [] path 0 = true := rfl

end Go.Proofs.YtjnedbkbhoiopaaDoor
