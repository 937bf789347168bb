/- Plain laws for chapter 04: what is written is read, and no byte of it can be spared; no statement of the seat is proved here. -/
import Derived.Test.YtflfedfghnnaeaaDoorTqW
namespace Go.Proofs.YtflfedfghnnaeaaDoor
open Go.RowKit

theorem wr_short : ∀ c : UInt8, letterB c = 0 ∨ shortFrom (letterB c).toNat 0 = some c.toNat := u8_all (by decide +kernel)
theorem wr_plain : ∀ c : UInt8, letterB c ≠ 0 ∨ plainB c.toNat = false ∨ (c.toNat ≠ 34 ∧ c.toNat ≠ 92) := u8_all (by decide +kernel)
theorem wr_hex : ∀ c : UInt8, letterB c ≠ 0 ∨ plainB c.toNat = true ∨ (hexD (hexc (c.toNat / 16)) = ((c.toNat / 16 : Nat) : Int) ∧ hexD (hexc (c.toNat % 16)) = ((c.toNat % 16 : Nat) : Int) ∧ putL [((c.toNat : Nat) : Int)] = [c]) := u8_all (by decide +kernel)
theorem wr_head : ∀ c : UInt8, (wrB c).head? ≠ some 34 := u8_all (by decide +kernel)
theorem wr_ge : ∀ c : UInt8, ∀ x ∈ wrB c, 32 ≤ x.toNat := u8_all (by decide +kernel)
theorem wr_pos (c : UInt8) : 0 < (wrB c).length := by unfold wrB; split <;> (try split) <;> simp

theorem step_wrB (l : List UInt8) (i : Nat) (c : UInt8) (r : List UInt8) (h : l.drop i = wrB c ++ r) : stepT l 34 false i = (0, i + (wrB c).length, [c]) := by
  have hlen := congrArg List.length h
  rw [List.length_drop, List.length_append] at hlen
  unfold wrB at h hlen ⊢
  by_cases h1 : letterB c ≠ 0
  · rw [if_pos h1] at h hlen ⊢
    have b0 : bt l i = 92 := bt_drop h
    have h' := (drop_cons h).2.2
    have b1 := bt_drop h'
    simp only [List.length_cons, List.length_nil] at hlen
    rw [stepT, b0, if_neg (by decide), if_pos ⟨rfl, rfl⟩, if_neg (by simp), escT, if_neg (by omega), b1]
    rcases wr_short c with h2 | h2
    · exact absurd h2 h1
    · rw [h2]; simp
  · rw [if_neg h1] at h hlen ⊢
    cases h2 : plainB c.toNat
    · rw [h2, if_neg (by simp)] at h hlen
      rw [if_neg (by simp)]
      have b0 : bt l i = 92 := bt_drop h
      have g1 := (drop_cons h).2.2
      have b1 : bt l (i + 1) = 117 := bt_drop g1
      have g2 := (drop_cons g1).2.2
      have x2 : hx l (i + 1 + 1) = 0 := hx_drop g2
      have g3 := (drop_cons g2).2.2
      have x3 : hx l (i + 1 + 1 + 1) = 0 := hx_drop g3
      have g4 := (drop_cons g3).2.2
      have x4 := hx_drop g4
      have g5 := (drop_cons g4).2.2
      have x5 := hx_drop g5
      simp only [List.length_cons, List.length_nil] at hlen
      rcases wr_hex c with h3 | h3 | ⟨h3, h4, h5⟩
      · exact absurd h3 h1
      · rw [h2] at h3; cases h3
      · rw [h3] at x4
        rw [h4] at x5
        have hd : dgs l 4 (i + 2) 0 = ((c.toNat : Int), -1) := by
          rw [show i + 2 = i + 1 + 1 from rfl, dgs, if_neg (by omega), x2, dgs, if_neg (by omega), x3, dgs, if_neg (by omega), x4, dgs, if_neg (by omega), x5, dgs]
          have : (c.toNat : Int) = 16 * ((c.toNat / 16 : Nat) : Int) + ((c.toNat % 16 : Nat) : Int) := by omega
          rw [Prod.mk.injEq]; exact ⟨by omega, rfl⟩
        have hc := c.toNat_lt
        rw [stepT, b0, if_neg (by decide), if_pos ⟨rfl, rfl⟩, if_neg (by simp), escT, if_neg (by omega), b1, show shortFrom 117 0 = none by decide +kernel]
        dsimp only
        rw [if_pos rfl, unitT, hd, if_neg (by simp), if_neg (by show ¬ (_ ∨ _); dsimp only; omega), h5]
        simp
    · rw [h2, if_pos rfl] at h hlen
      rw [if_pos rfl]
      have b0 := bt_drop h
      rcases wr_plain c with h3 | h3 | ⟨h3, h4⟩
      · exact absurd h3 h1
      · rw [h2] at h3; cases h3
      · rw [stepT, b0, if_neg h3, if_neg (fun h => h4 h.1), if_neg (by simp), if_neg (by simp), h2]
        simp

theorem rd_wr (l r : List UInt8) : ∀ (a : List UInt8) (i : Nat) (out : List UInt8), l.drop i = a.flatMap wrB ++ r → rdT l 34 false i out = rdT l 34 false (i + (a.flatMap wrB).length) (out ++ a) := by
  intro a
  induction a with
  | nil => intro i out _; simp
  | cons c a ih =>
    intro i out h
    rw [List.flatMap_cons, List.append_assoc] at h
    have hs := step_wrB l i c _ h
    have hp := wr_pos c
    have hi : i < l.length := by
      have := congrArg List.length h
      rw [List.length_drop, List.length_append] at this
      omega
    rw [rdT_on hi hs (by omega), ih (i + (wrB c).length) (out ++ [c]) (by rw [← List.drop_drop, h, List.drop_left])]
    rw [List.flatMap_cons, List.length_append, List.append_assoc, List.singleton_append, Nat.add_assoc]
theorem rd_over (l r : List UInt8) (i : Nat) (out : List UInt8) (h : l.drop i = 34 :: r) : rdT l 34 false i out = (out, ((i + 1 : Nat) : Int), 0, 0) := by
  have hi := (drop_cons h).1
  have hs : stepT l 34 false i = (1, i + 1, []) := by rw [stepT, bt_drop h]; rfl
  rw [rdT_over hi hs, List.append_nil]
theorem writeQ_len (a : List UInt8) : (writeQ a).length = (a.flatMap wrB).length + 2 := by simp [writeQ]
theorem rd_write (l a r : List UInt8) (i : Nat) (h : l.drop i = writeQ a ++ r) : rdT l 34 false (i + 1) [] = (a, ((i + (writeQ a).length : Nat) : Int), 0, 0) := by
  rw [writeQ, List.cons_append, List.append_assoc] at h
  have h1 := (drop_cons h).2.2
  rw [rd_wr l _ a (i + 1) [] h1, rd_over l r _ _ (by rw [← List.drop_drop, h1, List.drop_left]; rfl), writeQ_len]
  simp only [List.nil_append]
  congr 2
  omega
theorem long_write (l a r : List UInt8) (i : Nat) (h : l.drop i = writeQ a ++ r) (hh : a ≠ [] ∨ r.head? ≠ some 34) : longT l i = false := by
  rw [writeQ, List.cons_append, List.append_assoc] at h
  have b0 : bt l i = 34 := bt_drop h
  have h1 := (drop_cons h).2.2
  cases a with
  | nil =>
    have h2 := (drop_cons h1).2.2
    rcases hh with hh | hh
    · exact absurd rfl hh
    · have b2 : bt l (i + 1 + 1) ≠ 34 := by
        cases r with
        | nil =>
          have hl : l.length ≤ i + 1 + 1 := List.drop_eq_nil_iff.1 h2
          rw [bt_ge hl]; omega
        | cons x r =>
          have hx : x.toNat ≠ 34 := fun e => hh (by rw [List.head?_cons, show x = 34 from UInt8.toNat_inj.1 e])
          rw [bt_drop (x := x) (r := r) h2]; exact hx
      rw [longT, b0]
      simp [b2]
  | cons c a =>
    rw [List.flatMap_cons, List.append_assoc] at h1
    obtain ⟨x, t, hx⟩ : ∃ x t, wrB c = x :: t := by
      cases hw : wrB c with
      | nil => have := wr_pos c; rw [hw] at this; exact absurd this (by decide)
      | cons x t => exact ⟨x, t, rfl⟩
    have hn := wr_head c
    rw [hx] at h1 hn
    have b1 : bt l (i + 1) ≠ 34 := by
      rw [bt_drop (x := x) h1]
      exact fun e => hn (by rw [List.head?_cons, show x = 34 from UInt8.toNat_inj.1 e])
    rw [longT, b0]
    simp [b1]
theorem drop_lt {l m : List UInt8} {i : Nat} {x : UInt8} (h : l.drop i = x :: m) : i < l.length := (drop_cons h).1
/-- What is written is read, whatever stands ahead and behind. -/
theorem read_write (l a r : List UInt8) (i : Nat) (h : l.drop i = writeQ a ++ r) (hh : a ≠ [] ∨ r.head? ≠ some 34) : readT l (i : Int) = (a, ((i + (writeQ a).length : Nat) : Int), 0, 0) := by
  have hl := long_write l a r i h hh
  have hi : i < l.length := by rw [writeQ, List.cons_append] at h; exact drop_lt h
  have b0 : bt l i = 34 := by rw [writeQ, List.cons_append] at h; exact bt_drop h
  rw [readT, if_neg (by omega), Int.toNat_natCast, readAt, b0, if_neg (by omega), hl, if_neg (by simp), rd_write l a r i h]

theorem write_inj {a b : List UInt8} (h : writeQ a = writeQ b) : a = b := by
  have ha := read_write (writeQ a) a [] 0 (by simp) (.inr (by simp))
  have hb := read_write (writeQ b) b [] 0 (by simp) (.inr (by simp))
  rw [h, hb] at ha
  injection ha with h1 _
  exact h1.symm
theorem write_app (a b : List UInt8) : writeQ (a ++ b) = (writeQ a).take ((writeQ a).length - 1) ++ (writeQ b).drop 1 := by
  have h1 : (writeQ a).take ((writeQ a).length - 1) = 34 :: a.flatMap wrB := by
    rw [writeQ_len, writeQ, show (a.flatMap wrB).length + 2 - 1 = (34 :: a.flatMap wrB).length by simp, ← List.cons_append, List.take_left]
  rw [h1]
  simp [writeQ]

/-- How many bytes a text's string has between its marks. -/
def cost (t : List UInt8) : Nat := (t.flatMap wrB).length
theorem cost_app (a b : List UInt8) : cost (a ++ b) = cost a + cost b := by simp [cost]
theorem cost_one (c : UInt8) : cost [c] = (wrB c).length := by simp [cost]
theorem cost_big : ∀ c : UInt8, c.toNat < 128 ∨ (wrB c).length = 1 := u8_all (by decide +kernel)
theorem cost_self : ∀ c : UInt8, c.toNat < 32 ∨ c.toNat = 34 ∨ c.toNat = 92 ∨ plainB c.toNat = false ∨ (wrB c).length = 1 := u8_all (by decide +kernel)
theorem cost_bigs : ∀ l : List UInt8, (∀ x ∈ l, 128 ≤ x.toNat) → cost l = l.length := by
  intro l
  induction l with
  | nil => intro _; rfl
  | cons c l ih =>
    intro h
    rw [← List.singleton_append, cost_app, cost_one, ih fun x hx => h x (List.mem_cons_of_mem _ hx)]
    rcases cost_big c with h1 | h1
    · have := h c (List.mem_cons_self ..); omega
    · rw [h1]; simp; omega
theorem enc_big {r : Int} (h : 128 ≤ r) : ∀ x ∈ Lib.encodeRune r, 128 ≤ x.toNat := by
  intro x hx
  simp only [Lib.encodeRune, List.mem_map] at hx
  obtain ⟨z, hz, rfl⟩ := hx
  have hb := Lib.encodeRuneZ_byte r z hz
  have h1 : 128 ≤ z := by
    have cases4 : r ≤ 2047 ∨ ((2048 ≤ r ∧ r < 55296) ∨ (57343 < r ∧ r ≤ 65535)) ∨ (65536 ≤ r ∧ r ≤ 1114111) ∨ (r < 0 ∨ (55296 ≤ r ∧ r ≤ 57343) ∨ 1114111 < r) := by omega
    rcases cases4 with g | g | g | g
    · rw [Lib.encodeRuneZ_two h g] at hz; simp at hz; omega
    · rw [Lib.encodeRuneZ_three g] at hz; simp at hz; omega
    · rw [Lib.encodeRuneZ_four g.1 g.2] at hz; simp at hz; omega
    · rw [Lib.encodeRuneZ_bad g] at hz; simp at hz; omega
  have e : (z.toNat.toUInt8).toNat = z.toNat := by simp; omega
  rw [e]; omega
theorem put_cost (V : Int) (h0 : 0 ≤ V) : cost (putL [V]) ≤ 6 := by
  have e : putL [V] = Lib.encodeRune V := by simp [putL]
  rw [e]
  by_cases h : V < 128
  · have h1 : Lib.encodeRune V = [UInt8.ofNat V.toNat] := by
      rw [Lib.encodeRune, Lib.encodeRuneZ_one h0 (by omega)]; rfl
    rw [h1, cost_one]
    exact wrB_len _
  · rw [cost_bigs _ (enc_big (by omega))]
    have := (Lib.encodeRuneZ_length V).2
    simp [Lib.encodeRune]; omega
theorem dgs_nonneg (l : List UInt8) (k i : Nat) : 0 ≤ (dgs l k i 0).1 := (dgs_rng l k i 0 (by omega)).1
theorem unit_cost {l : List UInt8} {d i p : Nat} {t : List UInt8} (hd : 4 ≤ d) (h : unitT l d i = (0, p, t)) : i + cost t ≤ p ∧ i < p := by
  unfold unitT at h
  split at h
  · injection h with h1 _; cases h1
  · split at h
    · injection h with h1 _; cases h1
    · injection h with _ h; injection h with h1 h2
      subst h1; subst h2
      have := put_cost _ (dgs_nonneg l d (i + 2)); omega
theorem esc_cost {l : List UInt8} {i p : Nat} {t : List UInt8} (h : escT l i = (0, p, t)) : i + cost t ≤ p ∧ i < p := by
  unfold escT at h
  split at h
  · injection h with h1 _; cases h1
  · cases hs : shortFrom (bt l (i + 1)) 0 with
    | some b =>
      rw [hs] at h
      injection h with _ h; injection h with h1 h2
      subst h1; subst h2
      have hb : cost [UInt8.ofNat b] ≤ 2 := by
        unfold shortFrom at hs
        obtain ⟨x, hx, rfl⟩ := Option.map_eq_some_iff.1 hs
        have hm := List.mem_of_find?_eq_some hx
        simp [shortT] at hm
        rcases hm with rfl | rfl | rfl | rfl | rfl | rfl | rfl <;> decide +kernel
      omega
    | none =>
      rw [hs] at h
      dsimp only at h
      split at h
      · exact unit_cost (by omega) h
      · split at h
        · exact unit_cost (by omega) h
        · injection h with h1 _; cases h1
theorem step_cost {l : List UInt8} {i p : Nat} {t : List UInt8} (h32 : 32 ≤ bt l i) (hl : i < l.length) (h : stepT l 34 false i = (0, p, t)) : i + cost t ≤ p ∧ i < p := by
  unfold stepT at h
  split at h
  · rw [if_neg (by simp)] at h; injection h with h1 _; cases h1
  next n34 =>
    split at h
    · rw [if_neg (by simp)] at h; exact esc_cost h
    next n92 =>
      rw [if_neg (by simp), if_neg (by simp)] at h
      split at h
      next hp =>
        injection h with _ h; injection h with h1 h2
        subst h1; subst h2
        have hb := bt_lt hl
        rw [hb] at h32 n34 n92 hp
        rw [hb, cost_one, UInt8.ofNat_toNat]
        rcases cost_self l[i] with g | g | g | g | g
        · omega
        · exact absurd g n34
        · exact absurd ⟨g, rfl⟩ n92
        · rw [hp] at g; cases g
        · omega
      · injection h with h1 _; cases h1
theorem rd_cost (l : List UInt8) (h32 : ∀ j, j < l.length → 32 ≤ bt l j) : ∀ (n i : Nat) (out t : List UInt8) (e : Int), l.length - i ≤ n → rdT l 34 false i out = (t, e, 0, 0) → (cost t : Int) + i + 1 ≤ cost out + e := by
  intro n
  induction n with
  | zero => intro i out t e hn h; rw [rdT_end (by omega)] at h; injection h with _ h; injection h with _ h; injection h with h _; cases h
  | succ n ih =>
    intro i out t e hn h
    by_cases hl : i < l.length
    · obtain ⟨T0, p, u, hT⟩ : ∃ T0 p u, stepT l 34 false i = (T0, p, u) := ⟨_, _, _, rfl⟩
      have hw := stepT_ways l 34 false i hl
      rw [hT] at hw
      rcases hw with ⟨a, b, _⟩ | ⟨a, b, _⟩ | ⟨a, _⟩
      · dsimp only at a b
        subst a
        have hc := step_cost (h32 i hl) hl hT
        rw [rdT_on hl hT b] at h
        have := ih p (out ++ u) t e (by omega) h
        rw [cost_app] at this
        omega
      · dsimp only at a b
        subst a
        rw [rdT_over hl hT] at h
        have hs : bt l i = 34 ∧ u = [] := by
          unfold stepT at hT
          split at hT
          next h34 => rw [if_neg (by simp)] at hT; injection hT with _ hT; injection hT with _ hT; exact ⟨h34, hT.symm⟩
          · split at hT
            · rw [if_neg (by simp)] at hT
              rcases escT_ways l i hl with ⟨g, _⟩ | ⟨g, _⟩ <;> rw [hT] at g <;> cases g
            · rw [if_neg (by simp), if_neg (by simp)] at hT
              split at hT <;> (injection hT with g _; cases g)
        rw [hs.2, List.append_nil] at h
        injection h with h1 h2; injection h2 with h2 _
        subst h1; subst h2; omega
      · dsimp only at a
        subst a
        rw [rdT_bad hl hT] at h
        injection h with _ h; injection h with _ h; injection h with h _; cases h
    · rw [rdT_end (by omega)] at h; injection h with _ h; injection h with _ h; injection h with h _; cases h

theorem runB_at (l : List UInt8) (q : Nat) : ∀ (f i k : Nat), k < runB l q f i → bt l (i + k) = q := by
  intro f
  induction f with
  | zero => intro i k h; simp [runB] at h
  | succ f ih =>
    intro i k h
    rw [runB] at h
    split at h
    next hq =>
      cases k with
      | zero => exact hq
      | succ k => rw [show i + (k + 1) = i + 1 + k by omega]; exact ih (i + 1) k (by omega)
    · omega
theorem step_over {l : List UInt8} {q : Nat} {long : Bool} {i p : Nat} {t : List UInt8} (hl : i < l.length) (h : stepT l q long i = (1, p, t)) : ∃ j, p = j + 1 ∧ bt l j = q := by
  unfold stepT at h
  split at h
  next hq =>
    cases long
    · rw [if_neg (by simp)] at h; injection h with _ h; injection h with h _; exact ⟨i, h.symm, hq⟩
    · rw [if_pos rfl] at h
      unfold marksT at h
      split at h
      next h3 =>
        injection h with _ h; injection h with h _
        refine ⟨i + (runB l q 5 i - 1), by omega, runB_at l q 5 i _ (by omega)⟩
      · injection h with h _; cases h
  · split at h
    · split at h
      · injection h with h _
        rcases foldR_le l (l.length - (i + 1)) (i + 1) false (Nat.le_refl _) (by omega) with ⟨_, _, g | g⟩ <;> rw [g] at h <;> cases h
      · rcases escT_ways l i hl with ⟨g, _⟩ | ⟨g, _⟩ <;> rw [h] at g <;> cases g
    · split at h
      · injection h with h _; cases h
      · split at h
        · split at h <;> (injection h with h _; cases h)
        · split at h <;> (injection h with h _; cases h)
theorem rd_last (l : List UInt8) (q : Nat) (long : Bool) : ∀ (n i : Nat) (out t : List UInt8) (e : Int), l.length - i ≤ n → rdT l q long i out = (t, e, 0, 0) → ∃ j : Nat, e = (j : Int) + 1 ∧ bt l j = q := by
  intro n
  induction n with
  | zero => intro i out t e hn h; rw [rdT_end (by omega)] at h; injection h with _ h; injection h with _ h; injection h with h _; cases h
  | succ n ih =>
    intro i out t e hn h
    by_cases hl : i < l.length
    · obtain ⟨T0, p, u, hT⟩ : ∃ T0 p u, stepT l q long i = (T0, p, u) := ⟨_, _, _, rfl⟩
      have hw := stepT_ways l q long i hl
      rw [hT] at hw
      rcases hw with ⟨a, b, _⟩ | ⟨a, b, _⟩ | ⟨a, _⟩
      · dsimp only at a b
        subst a
        rw [rdT_on hl hT b] at h
        exact ih p (out ++ u) t e (by omega) h
      · dsimp only at a b
        subst a
        rw [rdT_over hl hT] at h
        injection h with _ h; injection h with h _
        obtain ⟨j, h1, h2⟩ := step_over hl hT
        exact ⟨j, by omega, h2⟩
      · dsimp only at a
        subst a
        rw [rdT_bad hl hT] at h
        injection h with _ h; injection h with _ h; injection h with h _; cases h
    · rw [rdT_end (by omega)] at h; injection h with _ h; injection h with _ h; injection h with h _; cases h
theorem bt_of {l : List UInt8} {j : Nat} {x : UInt8} (h : l[j]? = some x) : bt l j = x.toNat := by
  obtain ⟨h1, h2⟩ := List.getElem?_eq_some_iff.1 h
  rw [bt_lt h1, h2]
theorem read0 {l t : List UInt8} {e : Int} (h : readT l 0 = (t, e, 0, 0)) :
    (bt l 0 = 34 ∧ longT l 0 = false ∧ rdT l 34 false 1 [] = (t, e, 0, 0)) ∨ (bt l 0 = 34 ∧ longT l 0 = true ∧ rdT l 34 true (3 + (feedT l 3).1) [] = (t, e, 0, 0)) ∨ (bt l 0 = 39 ∧ ∃ long i, rdT l 39 long i [] = (t, e, 0, 0)) := by
  rw [readT, if_neg (by omega)] at h
  simp only [Int.toNat_zero, readAt, Nat.zero_add] at h
  split at h
  · injection h with _ h; injection h with _ h; injection h with h _; cases h
  next hq =>
    have hq : bt l 0 = 34 ∨ bt l 0 = 39 := by omega
    split at h
    next hlg =>
      split at h
      · injection h with _ h; injection h with _ h; injection h with h _; cases h
      · rcases hq with hq | hq
        · rw [hq] at h; exact .inr (.inl ⟨hq, hlg, h⟩)
        · rw [hq] at h; exact .inr (.inr ⟨hq, true, _, h⟩)
    next hlg =>
      rcases hq with hq | hq
      · rw [hq] at h; exact .inl ⟨hq, by simpa using hlg, h⟩
      · rw [hq] at h; exact .inr (.inr ⟨hq, false, _, h⟩)
theorem writeQ_ge (a : List UInt8) : ∀ x ∈ writeQ a, 32 ≤ x.toNat := by
  intro x hx
  simp only [writeQ, List.mem_cons, List.mem_append, List.mem_flatMap, List.not_mem_nil, or_false] at hx
  rcases hx with rfl | ⟨c, _, h⟩ | rfl
  · decide
  · exact wr_ge c x h
  · decide
theorem long_at {l : List UInt8} (h : longT l 0 = true) (h0 : bt l 0 = 34) : bt l 1 = 34 ∧ bt l 2 = 34 := by
  rw [longT, h0] at h
  simp at h
  exact ⟨h.1, h.2⟩
theorem wr_cons (c : UInt8) : ∃ x t, wrB c = x :: t ∧ x.toNat ≠ 34 := by
  cases hw : wrB c with
  | nil => have := wr_pos c; rw [hw] at this; exact absurd this (by decide)
  | cons x t =>
    refine ⟨x, t, rfl, fun e => wr_head c ?_⟩
    rw [hw, List.head?_cons, show x = 34 from UInt8.toNat_inj.1 e]
theorem wr_two : ∀ c : UInt8, (wrB c).tail = [] ∨ (wrB c).tail = [34] ∨ (wrB c).tail.head? ≠ some 34 := u8_all (by decide +kernel)
/-- No byte can be spared. -/
theorem spare (a l : List UInt8) (i : Nat) (hi : i < (writeQ a).length) (hs : l = (writeQ a).take i ++ (writeQ a).drop (i + 1)) : readT l 0 ≠ (a, (l.length : Int), 0, 0) := by
  intro h
  have hlen : l.length + 1 = (writeQ a).length := by rw [hs, List.length_append, List.length_take, List.length_drop]; omega
  have hcost : (writeQ a).length = cost a + 2 := writeQ_len a
  have h32 : ∀ j, j < l.length → 32 ≤ bt l j := by
    intro j hj
    rw [bt_lt hj]
    apply writeQ_ge a
    have hm : l[j] ∈ (writeQ a).take i ++ (writeQ a).drop (i + 1) := by rw [← hs]; exact List.getElem_mem hj
    rcases List.mem_append.1 hm with g | g
    · exact List.mem_of_mem_take g
    · exact List.mem_of_mem_drop g
  rcases read0 h with ⟨h0, hl, hr⟩ | ⟨h0, hl, hr⟩ | ⟨h0, lg, k, hr⟩
  · have := rd_cost l h32 l.length 1 [] a _ (by omega) hr
    have hz : cost [] = 0 := rfl
    omega
  · obtain ⟨b1, b2⟩ := long_at hl h0
    cases a with
    | nil => have : l.length = 1 := by have : cost [] = 0 := rfl
                                       omega
             rw [bt_ge (by omega)] at b1; cases b1
    | cons c a =>
      obtain ⟨x, t, hw, hx⟩ := wr_cons c
      have hq : writeQ (c :: a) = 34 :: x :: (t ++ (a.flatMap wrB ++ [34])) := by rw [writeQ, List.flatMap_cons, hw]; simp
      rcases Nat.lt_or_ge i 2 with hi2 | hi2
      · have h01 : i = 0 ∨ i = 1 := by omega
        rcases h01 with rfl | rfl
        · rw [hq] at hs
          have : bt l 0 = x.toNat := bt_of (by rw [hs]; rfl)
          rw [this] at h0; exact hx h0
        · rw [hq] at hs
          have hs : l = 34 :: (t ++ (a.flatMap wrB ++ [34])) := hs
          have ht := wr_two c
          rw [hw, List.tail_cons] at ht
          have key : ∀ r : List UInt8, (r = a.flatMap wrB ++ [34]) → r.head? = some 34 → r = [34] := by
            intro r hr hh
            cases a with
            | nil => exact hr
            | cons d a =>
              obtain ⟨y, u, hy, hy'⟩ := wr_cons d
              rw [List.flatMap_cons, hy] at hr
              rw [hr] at hh
              simp at hh
              exact absurd (by rw [hh]; rfl) hy'
          have hd1 : ∀ {j : Nat} {y : UInt8}, l[j]? = some y → bt l j = 34 → y = 34 := fun g1 g2 => UInt8.toNat_inj.1 ((bt_of g1).symm.trans g2)
          rcases ht with rfl | rfl | ht
          · have hn := key (a.flatMap wrB ++ [34]) rfl (by
              have hne : (a.flatMap wrB ++ [34]) ≠ [] := by simp
              cases hg : (a.flatMap wrB ++ [34]) with
              | nil => exact absurd hg hne
              | cons y u =>
                rw [List.nil_append, hg] at hs
                rw [List.head?_cons, hd1 (j := 1) (y := y) (by rw [hs]; rfl) b1])
            rw [List.nil_append, hn] at hs
            rw [hs] at b2
            simp [bt] at b2
          · have hn := key (a.flatMap wrB ++ [34]) rfl (by
              cases hg : (a.flatMap wrB ++ [34]) with
              | nil => simp at hg
              | cons y u =>
                rw [hg] at hs
                rw [List.head?_cons, hd1 (j := 2) (y := y) (by rw [hs]; rfl) b2])
            rw [hn] at hs
            subst hs
            rw [rdT_end (by simp [feedT, bt])] at hr
            injection hr with _ h; injection h with _ h; injection h with h _; cases h
          · cases t with
            | nil =>
              have hn := key (a.flatMap wrB ++ [34]) rfl (by
                cases hg : (a.flatMap wrB ++ [34]) with
                | nil => simp at hg
                | cons y u =>
                  rw [List.nil_append, hg] at hs
                  rw [List.head?_cons, hd1 (j := 1) (y := y) (by rw [hs]; rfl) b1])
              rw [List.nil_append, hn] at hs
              rw [hs] at b2
              simp [bt] at b2
            | cons y u =>
              exact ht (by rw [List.head?_cons, hd1 (j := 1) (y := y) (by rw [hs]; rfl) b1])
      · rw [hq] at hs
        have hl1 : l[1]? = some x := by
          rw [hs, List.getElem?_append_left (by rw [List.length_take]; rw [hq] at hi; omega), List.getElem?_take, if_pos (by omega)]
          rfl
        rw [bt_of hl1] at b1
        exact hx b1
  · obtain ⟨j, hj, hb⟩ := rd_last l 39 lg l.length k [] a _ (by omega) hr
    rcases Nat.eq_zero_or_pos i with rfl | hi0
    · have hs : l = a.flatMap wrB ++ [34] := by rw [hs]; rfl
      have : l[j]? = some 34 := by
        have hl2 : l.length = (a.flatMap wrB).length + 1 := by rw [hs]; simp
        have hj' : j = (a.flatMap wrB).length := by omega
        rw [hs, hj']; simp
      rw [bt_of this] at hb
      exact absurd hb (by decide)
    · have : l[0]? = some 34 := by
        rw [hs, List.getElem?_append_left (by rw [List.length_take]; omega), List.getElem?_take, if_pos hi0]
        rfl
      rw [bt_of this] at h0
      exact absurd h0 (by decide)

end Go.Proofs.YtflfedfghnnaeaaDoor
