/- Plain laws: floats' normal forms stand in one order; no statement of the seat is proved here. -/
import Derived.Test.YtncldnghhpdolaaGreatDoorFlG
import Derived.Test.YtncldnghhpdolaaGreatDoorFlJ
namespace Go.Proofs.YtncldnghhpdolaaGreatDoor

theorem lt_no1 {a b : List UInt8} (h : parseD a = none) : lessT a b = false := by unfold lessT; rw [h]
theorem lt_no2 {a b : List UInt8} (h : parseD b = none) : lessT a b = false := by unfold lessT; rw [h]; cases parseD a <;> rfl
theorem lt_some {a b : List UInt8} (h : lessT a b = true) : ∃ x y, parseD a = some x ∧ parseD b = some y ∧ lessD x y = true := by
  unfold lessT at h
  cases ha : parseD a with
  | none => rw [ha] at h; cases h
  | some x =>
    cases hb : parseD b with
    | none => rw [ha, hb] at h; cases h
    | some y => rw [ha, hb] at h; exact ⟨x, y, rfl, rfl, h⟩
theorem lt_self (a : List UInt8) : lessT a a = false := by
  unfold lessT
  cases parseD a with
  | none => rfl
  | some x => exact less_self x
/-- A normal form's rank, and what it is. -/
theorem form_cases {l : List UInt8} (h : isR l = true) :
    (l = nanL ∧ rankL l = 3 ∧ parseD l = none) ∨ (l = infL ∧ rankL l = 2 ∧ parseD l = none) ∨ (l = 45 :: infL ∧ rankL l = 0 ∧ parseD l = none) ∨
    (l ≠ nanL ∧ l ≠ infL ∧ l ≠ 45 :: infL ∧ rankL l = 1 ∧ ∃ d, parseD l = some d) := by
  by_cases h1 : l = nanL
  · subst h1; exact .inl ⟨rfl, by unfold rankL; rw [if_pos rfl], by decide +kernel⟩
  · by_cases h2 : l = infL
    · subst h2; exact .inr (.inl ⟨rfl, by unfold rankL; rw [if_neg h1, if_pos rfl], by decide +kernel⟩)
    · by_cases h3 : l = 45 :: infL
      · subst h3
        have hp : parseD (45 :: infL) = none := by decide +kernel
        exact .inr (.inr (.inl ⟨rfl, by unfold rankL; rw [if_neg h1, if_neg h2, hp, if_neg (by decide), if_pos rfl], hp⟩))
      · refine .inr (.inr (.inr ⟨h1, h2, h3, ?_⟩))
        have hi : isR l = normL l := by
          unfold isR
          rw [decide_eq_false h1, decide_eq_false h2, decide_eq_false h3]; simp
        have hr : rankL l = if (parseD l).isSome then 1 else -1 := by
          unfold rankL
          rw [if_neg h1, if_neg h2, if_neg h3]
        rw [hi, ← parse_norm] at h
        rw [hr, h]
        exact ⟨rfl, Option.isSome_iff_exists.1 h⟩
theorem rank_ge {l : List UInt8} (h : isR l = true) : 0 ≤ rankL l := by rw [← is_eq] at h; exact of_decide_eq_true h
theorem rank_some {l : List UInt8} {d : Dm} (h : parseD l = some d) (hl : isR l = true) : rankL l = 1 := by
  rcases form_cases hl with ⟨_, _, p⟩ | ⟨_, _, p⟩ | ⟨_, _, p⟩ | ⟨_, _, _, r, _⟩
  · rw [p] at h; cases h
  · rw [p] at h; cases h
  · rw [p] at h; cases h
  · exact r
theorem lp_iff {a b : List UInt8} (ha : isR a = true) (hb : isR b = true) : lessP a b = true ↔ rankL a < rankL b ∨ (rankL a = 1 ∧ rankL b = 1 ∧ lessT a b = true) := by
  unfold lessP
  rw [decide_eq_true (rank_ge ha), decide_eq_true (rank_ge hb)]
  simp only [Bool.and_self, Bool.true_and, Bool.or_eq_true, decide_eq_true_eq]
  constructor
  · rintro (h | h)
    · exact .inl h
    · obtain ⟨x, y, px, py, _⟩ := lt_some h
      exact .inr ⟨rank_some px ha, rank_some py hb, h⟩
  · rintro (h | ⟨_, _, h⟩)
    · exact .inl h
    · exact .inr h
theorem lp_self {a : List UInt8} (ha : isR a = true) : lessP a a = false := by
  rw [Bool.eq_false_iff]
  intro h
  rcases (lp_iff ha ha).1 h with h | ⟨_, _, h⟩
  · omega
  · rw [lt_self] at h; cases h
theorem lp_asym {a b : List UInt8} (ha : isR a = true) (hb : isR b = true) (h : lessP a b = true) (h' : lessP b a = true) : False := by
  rcases (lp_iff ha hb).1 h with k | ⟨k1, k2, k⟩
  · rcases (lp_iff hb ha).1 h' with j | ⟨j1, j2, j⟩ <;> omega
  · rcases (lp_iff hb ha).1 h' with j | ⟨_, _, j⟩
    · omega
    · obtain ⟨x, y, px, py, l1⟩ := lt_some k
      obtain ⟨y', x', py', px', l2⟩ := lt_some j
      obtain rfl := Option.some.inj (px.symm.trans px')
      obtain rfl := Option.some.inj (py.symm.trans py')
      exact less_asym l1 l2
theorem lp_trans {a b c : List UInt8} (ha : isR a = true) (hb : isR b = true) (hc : isR c = true) (h : lessP a b = true) (h' : lessP b c = true) : lessP a c = true := by
  rw [lp_iff ha hc]
  rcases (lp_iff ha hb).1 h with k | ⟨k1, k2, k⟩
  · rcases (lp_iff hb hc).1 h' with j | ⟨j1, j2, j⟩
    · left; omega
    · left; omega
  · rcases (lp_iff hb hc).1 h' with j | ⟨_, j2, j⟩
    · left; omega
    · right
      refine ⟨k1, j2, ?_⟩
      obtain ⟨x, y, px, py, l1⟩ := lt_some k
      obtain ⟨y', z, py', pz, l2⟩ := lt_some j
      obtain rfl := Option.some.inj (py.symm.trans py')
      unfold lessT
      rw [px, pz]
      exact less_trans l1 l2
theorem lp_total {a b : List UInt8} (ha : isR a = true) (hb : isR b = true) (h : lessP a b = false) (h' : lessP b a = false) : a = b := by
  have h1 : ¬ (rankL a < rankL b ∨ (rankL a = 1 ∧ rankL b = 1 ∧ lessT a b = true)) := fun k => by rw [(lp_iff ha hb).2 k] at h; cases h
  have h2 : ¬ (rankL b < rankL a ∨ (rankL b = 1 ∧ rankL a = 1 ∧ lessT b a = true)) := fun k => by rw [(lp_iff hb ha).2 k] at h'; cases h'
  have hr : rankL a = rankL b := by
    have := fun k => h1 (.inl k)
    have := fun k => h2 (.inl k)
    omega
  rcases form_cases ha with ⟨ea, ra, _⟩ | ⟨ea, ra, _⟩ | ⟨ea, ra, _⟩ | ⟨_, _, _, ra, d, pa⟩ <;>
    rcases form_cases hb with ⟨eb, rb, _⟩ | ⟨eb, rb, _⟩ | ⟨eb, rb, _⟩ | ⟨_, _, _, rb, e, pb⟩ <;>
    first
      | (rw [ea, eb]; done)
      | (exfalso; omega)
      | skip
  have h3 : lessD d e = false := by
    cases h : lessD d e
    · rfl
    · exact absurd (.inr ⟨ra, rb, by unfold lessT; rw [pa, pb]; exact h⟩) h1
  have h4 : lessD e d = false := by
    cases h : lessD e d
    · rfl
    · exact absurd (.inr ⟨rb, ra, by unfold lessT; rw [pa, pb]; exact h⟩) h2
  obtain ⟨n1, t1⟩ := parse_some pa
  obtain ⟨n2, t2⟩ := parse_some pb
  rw [t1, t2, less_total n1 n2 h3 h4]
theorem neg_is : isR (45 :: infL) = true := rfl
theorem nan_isR : isR nanL = true := rfl
theorem rank_neg : rankL (45 :: infL) = 0 := by
  rcases form_cases neg_is with ⟨e, _⟩ | ⟨e, _⟩ | ⟨_, r, _⟩ | ⟨_, _, n, _⟩
  · cases e
  · cases e
  · exact r
  · exact absurd rfl n
theorem rank_nan : rankL nanL = 3 := by unfold rankL; rw [if_pos rfl]
theorem rank_le {l : List UInt8} (h : isR l = true) : rankL l ≤ 3 := by
  rcases form_cases h with ⟨_, r, _⟩ | ⟨_, r, _⟩ | ⟨_, r, _⟩ | ⟨_, _, _, r, _⟩ <;> omega
/-- Nothing stands ahead of -inf, or behind nan. -/
theorem lp_neg {t : List UInt8} (h : isR t = true) : lessP t (45 :: infL) = false := by
  rw [Bool.eq_false_iff]
  intro k
  rcases (lp_iff h neg_is).1 k with k | ⟨_, k, _⟩
  · rw [rank_neg] at k; have := rank_ge h; omega
  · rw [rank_neg] at k; omega
theorem lp_nan {t : List UInt8} (h : isR t = true) : lessP nanL t = false := by
  rw [Bool.eq_false_iff]
  intro k
  rcases (lp_iff nan_isR h).1 k with k | ⟨k, _, _⟩
  · rw [rank_nan] at k; have := rank_le h; omega
  · rw [rank_nan] at k; omega
theorem lp_neg2 {t : List UInt8} (h : isR t = true) : lessP (45 :: infL) t = !decide (t = 45 :: infL) := by
  by_cases e : t = 45 :: infL
  · rw [decide_eq_true e, e, lp_self neg_is]; rfl
  · rw [decide_eq_false e]
    cases k : lessP (45 :: infL) t
    · exact absurd (lp_total h neg_is (lp_neg h) k) e
    · rfl
theorem lp_nan2 {t : List UInt8} (h : isR t = true) : lessP t nanL = !decide (t = nanL) := by
  by_cases e : t = nanL
  · rw [decide_eq_true e, e, lp_self nan_isR]; rfl
  · rw [decide_eq_false e]
    cases k : lessP t nanL
    · exact absurd (lp_total h nan_isR k (lp_nan h)) e
    · rfl

end Go.Proofs.YtncldnghhpdolaaGreatDoor
