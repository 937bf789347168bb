/- Plain laws of chapter 17's patterns for the law PatternsCut; no program in them, and no statement of the seat is proved here. -/
import Derived.Test.YtjnedbkbhoiopaaDoorPtP
namespace Go.Proofs.YtjnedbkbhoiopaaDoor
open Go.RowKit

/-- No blank up to a place. -/
def NS (l : List UInt8) (i : Nat) : Prop := (32 : UInt8) ∉ l.take i
theorem ns_add {l : List UInt8} {i n : Nat} (h : NS l i) (h' : NS (l.drop i) n) : NS l (i + n) := by
  unfold NS at *; rw [List.take_add, List.mem_append]; exact fun q => q.elim h h'
theorem ns_one {l : List UInt8} {i : Nat} {c : UInt8} (h : NS l i) (hc : l[i]? = some c) (h32 : c ≠ 32) : NS l (i + 1) := by
  refine ns_add h ?_
  unfold NS
  obtain ⟨hi, e⟩ := List.getElem?_eq_some_iff.1 hc
  rw [List.drop_eq_getElem_cons hi, e]
  simpa using fun q => h32 q.symm
theorem ns_zero (l : List UInt8) : NS l 0 := by simp [NS]
theorem ns_cons {l : List UInt8} {c : UInt8} {n : Nat} (h32 : c ≠ 32) (h : NS l n) : NS (c :: l) (n + 1) := by
  unfold NS at *; rw [List.take_succ_cons, List.mem_cons]; exact fun q => q.elim (fun q => h32 q.symm) h
/-- How far a word was looked at. -/
def reach (x : List UInt8 × Nat × Option Nat) : Nat := match x with | (_, n, none) => n | (_, _, some j) => j
theorem reach_app (o : List UInt8) (k : Nat) (x : List UInt8 × Nat × Option Nat) : reach (wApp o k x) = k + reach x := by
  obtain ⟨a, n, b⟩ := x
  cases b <;> rfl
theorem hexd_ns {c : UInt8} (h : hexd c = true) : c ≠ 32 := by rintro rfl; exact absurd h (by decide)
theorem wordL_ns : ∀ (n : Nat) (l : List UInt8), l.length ≤ n → NS l (reach (wordL l))
  | _, [], _ => by simp [NS]
  | 0, _ :: _, h => by simp at h
  | n + 1, c :: t, hl => by
    rw [List.length_cons] at hl
    have h1 : ∀ t : List UInt8, NS (37 :: t) 1 := fun t => ns_cons (by decide) (ns_zero t)
    by_cases h37 : c = 37
    · subst h37
      match t, hl with
      | [], _ => exact h1 _
      | [a], _ =>
        by_cases ha : hexd a = true
        · rw [wordL_bad2 ha (by rintro _ ⟨⟩)]
          exact ns_cons (by decide) (ns_cons (hexd_ns ha) (ns_zero _))
        · rw [wordL_bad1 (by rintro _ ⟨⟩; simpa using ha)]; exact h1 _
      | a :: b :: r, hl =>
        by_cases ha : hexd a = true
        · by_cases hb : hexd b = true
          · have ih := wordL_ns n r (by simp only [List.length_cons] at hl; omega)
            rw [wordL_hex ha hb, reach_app, Nat.add_comm]
            exact ns_cons (by decide) (ns_cons (hexd_ns ha) (ns_cons (hexd_ns hb) ih))
          · rw [wordL_bad2 ha (by rintro _ ⟨⟩; simpa using hb)]
            exact ns_cons (by decide) (ns_cons (hexd_ns ha) (ns_zero _))
        · rw [wordL_bad1 (by rintro _ ⟨⟩; simpa using ha)]; exact h1 _
    · by_cases hs : spec c = true
      · rw [wordL_stop hs h37]; exact ns_zero _
      · have ih := wordL_ns n t (by omega)
        rw [wordL_plain (by simpa using hs), reach_app, Nat.add_comm]
        exact ns_cons (by rintro rfl; exact hs (by decide)) ih
theorem word_ns {l : List UInt8} {i : Nat} {x : List UInt8 × Nat × Option Nat} (h : NS l i) (e : wordL (l.drop i) = x) : NS l (i + reach x) := by
  rw [← e]; exact ns_add h (wordL_ns _ _ (Nat.le_refl _))
/-- .. and a step. -/
def endOf : Except Nat (Pat × Nat) → Nat
  | .ok (_, e) => e
  | .error k => k
theorem closed_ns {l : List UInt8} {p : Pat} {i : Nat} (h : NS l i) : NS l (endOf (closedL l p i)) := by
  unfold closedL
  by_cases q : l[i]? = some 93
  · rw [if_pos q]; exact ns_one h q (by decide)
  · rw [if_neg q]; exact h
theorem keyed_ns {l : List UInt8} {i : Nat} (h : NS l i) : NS l (endOf (keyedL l i)) := by
  unfold keyedL
  by_cases q : l[i]? = some 42
  · rw [if_pos q]
    have h1 := ns_one h q (by decide)
    by_cases q2 : l[i + 1]? = some 42
    · rw [if_pos q2]; exact ns_one h1 q2 (by decide)
    · rw [if_neg q2]; exact h1
  · rw [if_neg q]
    obtain ⟨x, hx⟩ : ∃ x, wordL (l.drop i) = x := ⟨_, rfl⟩
    have hn := word_ns h hx
    rw [hx]
    obtain ⟨o, n, b⟩ := x
    cases b <;> exact hn
theorem listed_ns {l : List UInt8} {i : Nat} (h : NS l i) : NS l (endOf (listedL l i)) := by
  unfold listedL
  by_cases q : l[i]? = some 42
  · rw [if_pos q]; exact closed_ns (ns_one h q (by decide))
  · rw [if_neg q]
    obtain ⟨x, hx⟩ : ∃ x, wordL (l.drop i) = x := ⟨_, rfl⟩
    have hn := word_ns h hx
    rw [hx]
    obtain ⟨o, n, b⟩ := x
    cases b with
    | some k => exact hn
    | none =>
      show NS l (endOf (if l[i + n]? = some 61 then _ else _))
      have hn : NS l (i + n) := hn
      by_cases q1 : l[i + n]? = some 61
      · rw [if_pos q1]
        have h2 := ns_one hn q1 (by decide)
        by_cases q2 : l[i + n + 1]? = some 42
        · rw [if_pos q2]; exact closed_ns (ns_one h2 q2 (by decide))
        · rw [if_neg q2]
          obtain ⟨y, hy⟩ : ∃ y, wordL (l.drop (i + n + 1)) = y := ⟨_, rfl⟩
          have hm := word_ns h2 hy
          rw [hy]
          obtain ⟨v, m, b⟩ := y
          cases b with
          | some k => exact hm
          | none => exact closed_ns hm
      · rw [if_neg q1]; exact hn

/-- A step goes on, and not behind the end. -/
theorem word_le {l : List UInt8} {i : Nat} {o : List UInt8} {n : Nat} {b : Option Nat} (e : wordL (l.drop i) = (o, n, b)) : n ≤ l.length - i ∧ ∀ k, b = some k → k ≤ l.length - i := by
  have := wordL_le _ (l.drop i) (Nat.le_refl _)
  rw [e, List.length_drop] at this
  exact ⟨this.1, fun k hk => this.2.2 k hk⟩
theorem get_lt {l : List UInt8} {i : Nat} {c : UInt8} (h : l[i]? = some c) : i < l.length := (List.getElem?_eq_some_iff.1 h).1
theorem closed_end {l : List UInt8} {p : Pat} {i : Nat} (h : i ≤ l.length) : i ≤ endOf (closedL l p i) ∧ endOf (closedL l p i) ≤ l.length := by
  unfold closedL
  by_cases q : l[i]? = some 93
  · have := get_lt q
    rw [if_pos q]; simp only [endOf]; omega
  · rw [if_neg q]; simp only [endOf]; omega
theorem keyed_end {l : List UInt8} {i : Nat} (h : i ≤ l.length) : i ≤ endOf (keyedL l i) ∧ endOf (keyedL l i) ≤ l.length := by
  unfold keyedL
  by_cases q : l[i]? = some 42
  · have := get_lt q
    rw [if_pos q]
    by_cases q2 : l[i + 1]? = some 42
    · have := get_lt q2
      rw [if_pos q2]; simp only [endOf]; omega
    · rw [if_neg q2]; simp only [endOf]; omega
  · rw [if_neg q]
    obtain ⟨⟨o, n, b⟩, hx⟩ : ∃ x, wordL (l.drop i) = x := ⟨_, rfl⟩
    have hn := word_le hx
    rw [hx]
    cases b with
    | none => simp only [endOf]; omega
    | some k => have := hn.2 k rfl; simp only [endOf]; omega
theorem listed_end {l : List UInt8} {i : Nat} (h : i ≤ l.length) : i ≤ endOf (listedL l i) ∧ endOf (listedL l i) ≤ l.length := by
  unfold listedL
  by_cases q : l[i]? = some 42
  · have := get_lt q
    rw [if_pos q]
    have := closed_end (l := l) (p := .anyAt) (i := i + 1) (by omega)
    omega
  · rw [if_neg q]
    obtain ⟨⟨o, n, b⟩, hx⟩ : ∃ x, wordL (l.drop i) = x := ⟨_, rfl⟩
    have hn := word_le hx
    rw [hx]
    cases b with
    | some k => have := hn.2 k rfl; simp only [endOf]; omega
    | none =>
      show i ≤ endOf (if l[i + n]? = some 61 then _ else _) ∧ endOf (if l[i + n]? = some 61 then _ else _) ≤ l.length
      by_cases q1 : l[i + n]? = some 61
      · have := get_lt q1
        rw [if_pos q1]
        by_cases q2 : l[i + n + 1]? = some 42
        · have := get_lt q2
          rw [if_pos q2]
          have := closed_end (l := l) (p := .anyId o) (i := i + n + 2) (by omega)
          omega
        · rw [if_neg q2]
          obtain ⟨⟨v, m, b⟩, hy⟩ : ∃ y, wordL (l.drop (i + n + 1)) = y := ⟨_, rfl⟩
          have hm := word_le hy
          rw [hy]
          cases b with
          | some k => have := hm.2 k rfl; simp only [endOf]; omega
          | none =>
            have := closed_end (l := l) (p := .id o v) (i := i + n + 1 + m) (by omega)
            show i ≤ endOf (closedL l (.id o v) (i + n + 1 + m)) ∧ endOf (closedL l (.id o v) (i + n + 1 + m)) ≤ l.length
            omega
      · rw [if_neg q1]; simp only [endOf]; omega

/-- What is a pattern has no blank; what is none has none ahead of the place. -/
theorem steps_ns (l : List UInt8) : ∀ (fuel i : Nat) (ps : List Pat), NS l i → i ≤ l.length → l.length < fuel + i →
    (∀ qs, stepsL l fuel i ps = .ok qs → NS l l.length) ∧ ∀ k, stepsL l fuel i ps = .error k → NS l k ∧ k ≤ l.length
  | 0, i, ps, _, hi, hf => absurd hf (by omega)
  | fuel + 1, i, ps, h, hi, hf => by
    rw [stepsL]
    by_cases hl : i < l.length
    · rw [if_pos hl]
      by_cases h5 : ps.length = 512
      · rw [if_pos h5]; exact ⟨nofun, fun k e => by cases e; exact ⟨h, hi⟩⟩
      · rw [if_neg h5]
        by_cases q : l[i]? = some 47
        · rw [if_pos q]
          have h1 := keyed_ns (ns_one h q (by decide))
          have h2 := keyed_end (l := l) (i := i + 1) (by omega)
          cases e : keyedL l (i + 1) with
          | error k => rw [e] at h1 h2; exact ⟨nofun, fun k e => by cases e; exact ⟨h1, h2.2⟩⟩
          | ok x => rw [e] at h1 h2; exact steps_ns l fuel x.2 (ps ++ [x.1]) h1 h2.2 (by have : i + 1 ≤ x.2 := h2.1; omega)
        · rw [if_neg q]
          by_cases q2 : l[i]? = some 91
          · rw [if_pos q2]
            have h1 := listed_ns (ns_one h q2 (by decide))
            have h2 := listed_end (l := l) (i := i + 1) (by omega)
            cases e : listedL l (i + 1) with
            | error k => rw [e] at h1 h2; exact ⟨nofun, fun k e => by cases e; exact ⟨h1, h2.2⟩⟩
            | ok x => rw [e] at h1 h2; exact steps_ns l fuel x.2 (ps ++ [x.1]) h1 h2.2 (by have : i + 1 ≤ x.2 := h2.1; omega)
          · rw [if_neg q2]
            refine ⟨nofun, fun k e => ?_⟩
            injection e with e
            subst e
            by_cases q3 : i = 0 ∧ l[0]? = some 46
            · obtain ⟨rfl, q3⟩ := q3
              rw [if_pos ⟨rfl, q3⟩]; exact ⟨ns_one h q3 (by decide), by omega⟩
            · rw [if_neg q3]; exact ⟨h, by omega⟩
    · rw [if_neg hl]
      exact ⟨fun _ _ => by rw [show l.length = i by omega]; exact h, nofun⟩
theorem parse_ns (l : List UInt8) : (∀ qs, parseL l = .ok qs → (32 : UInt8) ∉ l) ∧ ∀ k, parseL l = .error k → NS l k ∧ k ≤ l.length := by
  unfold parseL
  by_cases h1 : l = [46]
  · subst h1; exact ⟨fun _ _ => by decide, nofun⟩
  · rw [if_neg h1]
    by_cases h2 : l = []
    · subst h2; exact ⟨nofun, fun k e => by cases e; exact ⟨ns_zero _, by simp⟩⟩
    · rw [if_neg h2]
      obtain ⟨a, b⟩ := steps_ns l (l.length + 1) 0 [] (ns_zero l) (by omega) (by omega)
      exact ⟨fun qs e => by have := a qs e; unfold NS at this; rwa [List.take_length] at this, b⟩
/-- With a blank within, it is none there, or ahead. -/
theorem parse_blank (l r : List UInt8) : ∃ k, parseL (l ++ 32 :: r) = .error k ∧ k ≤ l.length := by
  obtain ⟨a, b⟩ := parse_ns (l ++ 32 :: r)
  cases e : parseL (l ++ 32 :: r) with
  | ok qs => exact absurd (by simp) (a qs e)
  | error k =>
    refine ⟨k, rfl, ?_⟩
    rcases Nat.lt_or_ge l.length k with h | h
    · refine absurd ?_ (b k e).1
      rw [List.mem_take_iff_getElem]
      exact ⟨l.length, by simp; omega, by simp⟩
    · exact h

/-- With a bracket more behind it is none there. -/
theorem wordL_snoc : ∀ (n : Nat) (l : List UInt8), l.length ≤ n → (wordL l).2.2 = none → wordL (l ++ [93]) = wordL l
  | _, [], _, _ => by rw [List.nil_append, wordL_stop (by decide) (by decide)]; rfl
  | 0, _ :: _, h, _ => by simp at h
  | n + 1, c :: t, hl, hn => by
    rw [List.length_cons] at hl
    by_cases h37 : c = 37
    · subst h37
      match t, hl, hn with
      | [], _, hn => exact absurd hn (by simp [wordL])
      | [a], _, hn => exact absurd hn (by simp [wordL])
      | a :: b :: r, hl, hn =>
        by_cases ha : hexd a = true
        · by_cases hb : hexd b = true
          · rw [wordL_hex ha hb] at hn ⊢
            have ih := wordL_snoc n r (by simp only [List.length_cons] at hl; omega) (by
              revert hn; generalize wordL r = x; obtain ⟨y, k, z⟩ := x; cases z <;> simp [wApp])
            rw [List.cons_append, List.cons_append, List.cons_append, wordL_hex ha hb, ih]
          · rw [wordL_bad2 ha (by rintro _ ⟨⟩; simpa using hb)] at hn; exact absurd hn (by simp)
        · rw [wordL_bad1 (by rintro _ ⟨⟩; simpa using ha)] at hn; exact absurd hn (by simp)
    · by_cases hs : spec c = true
      · rw [List.cons_append, wordL_stop hs h37, wordL_stop hs h37]
      · have hs' : spec c = false := by simpa using hs
        rw [wordL_plain hs'] at hn ⊢
        have ih := wordL_snoc n t (by omega) (by
          revert hn; generalize wordL t = x; obtain ⟨y, k, z⟩ := x; cases z <;> simp [wApp])
        rw [List.cons_append, wordL_plain hs', ih]

theorem get_snoc {l : List UInt8} {i : Nat} {c : UInt8} (hi : i ≤ l.length) (hc : c ≠ 93) : (l ++ [93])[i]? = some c ↔ l[i]? = some c := by
  rcases Nat.lt_or_eq_of_le hi with h | h
  · rw [List.getElem?_append_left h]
  · subst h; simpa using fun q => hc q.symm
theorem word_snoc {l : List UInt8} {i : Nat} {o : List UInt8} {n : Nat} (hi : i ≤ l.length) (e : wordL (l.drop i) = (o, n, none)) : wordL ((l ++ [93]).drop i) = (o, n, none) := by
  rw [List.drop_append_of_le_length hi, wordL_snoc _ _ (Nat.le_refl _) (by rw [e]), e]
theorem closed_snoc {l : List UInt8} {p : Pat} {i : Nat} {x : Pat × Nat} (h : closedL l p i = .ok x) : closedL (l ++ [93]) p i = .ok x := by
  unfold closedL at *
  by_cases q : l[i]? = some 93
  · rw [if_pos q] at h
    rw [if_pos (by rw [List.getElem?_append_left (get_lt q)]; exact q)]; exact h
  · rw [if_neg q] at h; cases h
theorem keyed_snoc {l : List UInt8} {i : Nat} {x : Pat × Nat} (hi : i ≤ l.length) (h : keyedL l i = .ok x) : keyedL (l ++ [93]) i = .ok x := by
  unfold keyedL at *
  by_cases q : l[i]? = some 42
  · have := get_lt q
    rw [if_pos q] at h
    rw [if_pos ((get_snoc hi (by decide)).2 q)]
    by_cases q2 : l[i + 1]? = some 42
    · rw [if_pos q2] at h; rw [if_pos ((get_snoc (by omega) (by decide)).2 q2)]; exact h
    · rw [if_neg q2] at h; rw [if_neg (fun r => q2 ((get_snoc (by omega) (by decide)).1 r))]; exact h
  · rw [if_neg q] at h
    rw [if_neg (fun r => q ((get_snoc hi (by decide)).1 r))]
    obtain ⟨⟨o, n, b⟩, hx⟩ : ∃ x, wordL (l.drop i) = x := ⟨_, rfl⟩
    rw [hx] at h
    cases b with
    | some k => cases h
    | none => rw [word_snoc hi hx]; exact h
theorem listed_snoc {l : List UInt8} {i : Nat} {x : Pat × Nat} (hi : i ≤ l.length) (h : listedL l i = .ok x) : listedL (l ++ [93]) i = .ok x := by
  unfold listedL at *
  by_cases q : l[i]? = some 42
  · rw [if_pos q] at h
    rw [if_pos ((get_snoc hi (by decide)).2 q)]; exact closed_snoc h
  · rw [if_neg q] at h
    rw [if_neg (fun r => q ((get_snoc hi (by decide)).1 r))]
    obtain ⟨⟨o, n, b⟩, hx⟩ : ∃ x, wordL (l.drop i) = x := ⟨_, rfl⟩
    have hn := word_le hx
    rw [hx] at h
    cases b with
    | some k => cases h
    | none =>
      rw [word_snoc hi hx]
      change (if l[i + n]? = some 61 then _ else _) = _ at h
      show (if (l ++ [93])[i + n]? = some 61 then _ else _) = _
      by_cases q1 : l[i + n]? = some 61
      · have := get_lt q1
        rw [if_pos q1] at h
        rw [if_pos ((get_snoc (by omega) (by decide)).2 q1)]
        by_cases q2 : l[i + n + 1]? = some 42
        · rw [if_pos q2] at h
          rw [if_pos ((get_snoc (by omega) (by decide)).2 q2)]; exact closed_snoc h
        · rw [if_neg q2] at h
          rw [if_neg (fun r => q2 ((get_snoc (by omega) (by decide)).1 r))]
          obtain ⟨⟨v, m, b⟩, hy⟩ : ∃ y, wordL (l.drop (i + n + 1)) = y := ⟨_, rfl⟩
          rw [hy] at h
          cases b with
          | some k => cases h
          | none => rw [word_snoc (by omega) hy]; exact closed_snoc h
      · rw [if_neg q1] at h; cases h
theorem steps_snoc (l : List UInt8) (h0 : l ≠ []) : ∀ (fuel i : Nat) (ps qs : List Pat), i ≤ l.length → l.length < fuel + i → stepsL l fuel i ps = .ok qs → stepsL (l ++ [93]) (fuel + 1) i ps = .error l.length
  | 0, i, ps, qs, hi, hf, _ => absurd hf (by omega)
  | fuel + 1, i, ps, qs, hi, hf, h => by
    rw [stepsL] at h ⊢
    have hpos := List.length_pos_iff.2 h0
    have hlt : i < (l ++ [(93 : UInt8)]).length := by rw [List.length_append]; simp; omega
    rw [if_pos hlt]
    by_cases hl : i < l.length
    · rw [if_pos hl] at h
      by_cases h5 : ps.length = 512
      · rw [if_pos h5] at h; cases h
      · rw [if_neg h5] at h ⊢
        by_cases q : l[i]? = some 47
        · rw [if_pos q] at h
          rw [if_pos ((get_snoc hi (by decide)).2 q)]
          have h2 := keyed_end (l := l) (i := i + 1) (by omega)
          cases e : keyedL l (i + 1) with
          | error k => rw [e] at h; cases h
          | ok x =>
            rw [e] at h h2
            rw [keyed_snoc (by omega) e]
            exact steps_snoc l h0 fuel x.2 (ps ++ [x.1]) qs h2.2 (by have : i + 1 ≤ x.2 := h2.1; omega) h
        · rw [if_neg q] at h
          rw [if_neg (fun r => q ((get_snoc hi (by decide)).1 r))]
          by_cases q2 : l[i]? = some 91
          · rw [if_pos q2] at h
            rw [if_pos ((get_snoc hi (by decide)).2 q2)]
            have h2 := listed_end (l := l) (i := i + 1) (by omega)
            cases e : listedL l (i + 1) with
            | error k => rw [e] at h; cases h
            | ok x =>
              rw [e] at h h2
              rw [listed_snoc (by omega) e]
              exact steps_snoc l h0 fuel x.2 (ps ++ [x.1]) qs h2.2 (by have : i + 1 ≤ x.2 := h2.1; omega) h
          · rw [if_neg q2] at h; cases h
    · obtain rfl : i = l.length := by omega
      by_cases h5 : ps.length = 512
      · rw [if_pos h5]
      · rw [if_neg h5, if_neg (by simp), if_neg (by simp), if_neg (by omega)]; rfl
theorem parse_snoc {l : List UInt8} {qs : List Pat} (h : parseL l = .ok qs) : parseL (l ++ [93]) = .error l.length := by
  by_cases h1 : l = [46]
  · subst h1; rfl
  · unfold parseL at h ⊢
    rw [if_neg h1] at h
    by_cases h2 : l = []
    · rw [if_pos h2] at h; cases h
    · rw [if_neg h2] at h
      rw [if_neg (by intro e; have := congrArg List.getLast? e; simp at this), if_neg (by simp), List.length_append]
      exact steps_snoc l h2 (l.length + 1) 0 [] qs (by omega) (by omega) h

end Go.Proofs.YtjnedbkbhoiopaaDoor
