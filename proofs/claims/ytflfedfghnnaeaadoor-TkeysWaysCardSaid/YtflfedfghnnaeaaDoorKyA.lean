/- Walks for chapter 10: tquotes.Read at a string that is written, or is a literal one; plain laws of literal strings; no statement of the seat is proved here. -/
import Derived.Test.YtflfedfghnnaeaaDoorKyP
namespace Go.Proofs.YtflfedfghnnaeaaDoor
open Go.RowKit

theorem wr_letter : ∀ c : UInt8, letterB c = 0 ∨ ((letterB c).toNat ≠ 117 ∧ (letterB c).toNat ≠ 85) := u8_all (by decide +kernel)
theorem digits_wr (l : List UInt8) (i : Nat) (c : UInt8) (r : List UInt8) (h : l.drop i = wrB c ++ r) : DigitsAt l i := by
  intro h92
  unfold wrB at h
  by_cases h1 : letterB c ≠ 0
  · rw [if_pos h1] at h
    have h' := (drop_cons h).2.2
    have b1 := bt_drop h'
    rcases wr_letter c with h2 | h2
    · exact absurd h2 h1
    · exact ⟨fun e => absurd (b1.symm.trans e) h2.1, fun e => absurd (b1.symm.trans e) h2.2⟩
  · rw [if_neg h1] at h
    cases h2 : plainB c.toNat
    · rw [h2, if_neg (by simp)] at h
      have g1 := (drop_cons h).2.2
      have b1 : bt l (i + 1) = 117 := bt_drop g1
      have g2 := (drop_cons g1).2.2
      have x2 : hx l (i + 1 + 1) = 0 := hx_drop g2
      have g3 := (drop_cons g2).2.2
      have x3 : hx l (i + 1 + 1 + 1) = 0 := hx_drop g3
      have g4 := (drop_cons g3).2.2
      have x4 := hx_drop g4
      have g5 := (drop_cons g4).2.2
      have x5 := hx_drop g5
      rcases wr_hex c with h3 | h3 | ⟨h3, h4, _⟩
      · exact absurd h3 h1
      · rw [h2] at h3; cases h3
      · rw [h3] at x4
        rw [h4] at x5
        refine ⟨fun _ => ?_, fun e => by rw [b1] at e; cases e⟩
        rw [show i + 2 = i + 1 + 1 from rfl, dgs, if_neg (by omega), x2, dgs, if_neg (by omega), x3, dgs, if_neg (by omega), x4, dgs, if_neg (by omega), x5, dgs]
    · rw [h2, if_pos rfl] at h
      have b0 := bt_drop h
      rcases wr_plain c with h3 | h3 | ⟨h3, h4⟩
      · exact absurd h3 h1
      · rw [h2] at h3; cases h3
      · exact absurd (b0.symm.trans h92) h4
/-- tquotes.Read at what tquotes.Write has written. -/
theorem read_basicW (s : ByteArray) (i : Nat) (a r : List UInt8) (h : s.data.toList.drop i = writeQ a ++ r) (hh : a ≠ [] ∨ r.head? ≠ some 34) (hs : s.size ≤ 1073740000) (w : World) (hG : Glob w) :
    Calls Tryd.prog 12 #[.string s, .int .i64 (i : Int)] w (RdPost (a, ((i + (writeQ a).length : Nat) : Int), 0, 0) w) := by
  have hl := long_write _ a r i h hh
  have hrd := rd_write _ a r i h
  rw [writeQ, List.cons_append, List.append_assoc] at h
  have hin : i < s.size := (drop_cons h).1
  have hq : s[i].toNat = 34 := by rw [← bt_str hin]; exact bt_drop h
  have h1 : s.data.toList.drop (i + 1) = a.flatMap wrB ++ (34 :: r) := (drop_cons h).2.2
  have := read_shortOn (fun j => ∃ a' : List UInt8, s.data.toList.drop j = a'.flatMap wrB ++ (34 :: r)) s i hin hs 34 hq rfl hl ⟨a, h1⟩ (by
    rintro j p e ⟨a', hj⟩ _ hst
    cases a' with
    | nil =>
      have hj : s.data.toList.drop j = 34 :: r := hj
      have h2 : stepT s.data.toList 34 false j = (1, j + 1, []) := by rw [stepT, bt_drop hj]; rfl
      rw [h2] at hst; injection hst with h3 _; cases h3
    | cons c a' =>
      rw [List.flatMap_cons, List.append_assoc] at hj
      rw [step_wrB _ j c _ hj] at hst
      injection hst with _ hst
      injection hst with hp _
      subst hp
      exact ⟨a', drop_on hj⟩) w (basic_stepsOn hs (by
    rintro j ⟨a', hj⟩
    cases a' with
    | nil =>
      have hj : s.data.toList.drop j = 34 :: r := hj
      intro h92
      rw [bt_drop hj] at h92; cases h92
    | cons c a' =>
      rw [List.flatMap_cons, List.append_assoc] at hj
      exact digits_wr _ j c _ hj) hG (by omega))
  rw [hrd] at this
  exact this
/-- tquotes.Read at a short literal string. -/
theorem read_litW (s : ByteArray) (i : Nat) (t r : List UInt8) (hp : ∀ c ∈ t, plainB c.toNat = true ∧ c.toNat ≠ 39) (h : s.data.toList.drop i = (39 :: (t ++ [39])) ++ r) (hr : ∀ c, r.head? = some c → c.toNat ≠ 39) (hs : s.size ≤ 1073740000) (w : World) :
    Calls Tryd.prog 12 #[.string s, .int .i64 (i : Int)] w (RdPost (t, ((i + (39 :: (t ++ [39])).length : Nat) : Int), 0, 0) w) := by
  have hl := long_lit _ t r i hp h hr
  rw [List.cons_append, List.append_assoc] at h
  have hin : i < s.size := (drop_cons h).1
  have hq : s[i].toNat = 39 := by rw [← bt_str hin]; exact bt_drop h
  have h1 : s.data.toList.drop (i + 1) = t ++ (39 :: r) := (drop_cons h).2.2
  have := read_literal s i hin hs 39 hq rfl hl w (literal_steps hs)
  rw [rd_lit _ r t (i + 1) [] hp h1] at this
  rw [List.nil_append, show i + 1 + t.length + 1 = i + (39 :: (t ++ [39])).length by simp; omega] at this
  exact this

theorem rd_lit_inv (l : List UInt8) : ∀ (a : List UInt8) (i : Nat) (out : List UInt8), l.drop i = a ++ [39] → rdT l 39 false i out = (out ++ a, ((i + a.length + 1 : Nat) : Int), 0, 0) → ∀ c ∈ a, plainB c.toNat = true ∧ c.toNat ≠ 39 := by
  intro a
  induction a with
  | nil => intro i out _ _ c hc; cases hc
  | cons c a ih =>
    intro i out h hr
    have hi := (drop_cons h).1
    have b0 : bt l i = c.toNat := bt_drop h
    by_cases h39 : c.toNat = 39
    · have hs : stepT l 39 false i = (1, i + 1, []) := by rw [stepT, b0, if_pos h39]; rfl
      rw [rdT_over hi hs] at hr
      injection hr with _ hr
      injection hr with hr _
      simp only [List.length_cons] at hr
      omega
    · cases hp : plainB c.toNat
      · have hs : stepT l 39 false i = (2, i, []) := by
          rw [stepT, b0, if_neg h39, if_neg (fun e => by cases e.2), if_neg (by simp), if_neg (by simp), if_neg (by rw [hp]; simp)]
        rw [rdT_bad hi hs] at hr
        injection hr with _ hr; injection hr with _ hr; injection hr with hr _; cases hr
      · have hs : stepT l 39 false i = (0, i + 1, [c]) := by
          rw [stepT, b0, if_neg h39, if_neg (fun e => by cases e.2), if_neg (by simp), if_neg (by simp), if_pos hp]
          simp
        rw [rdT_on hi hs (by omega)] at hr
        have := ih (i + 1) (out ++ [c]) (drop_cons h).2.2 (by
          rw [hr]
          simp only [List.append_assoc, List.singleton_append, List.length_cons]
          congr 2
          omega)
        intro x hx
        rcases List.mem_cons.1 hx with rfl | hx
        · exact ⟨hp, h39⟩
        · exact this x hx
theorem step_long {l : List UInt8} {q i p : Nat} {t : List UInt8} (hl : i < l.length) (h : stepT l q true i = (1, p, t)) : i + t.length + 3 ≤ p := by
  unfold stepT at h
  split at h
  · rw [if_pos rfl] at h
    unfold marksT at h
    split at h
    next h3 =>
      injection h with _ h; injection h with h1 h2
      subst h1; subst h2
      rw [List.length_replicate]; omega
    · injection h with h _; cases h
  · split at h
    · split at h
      · injection h with h _
        rcases foldR_le l (l.length - (i + 1)) (i + 1) false (Nat.le_refl _) (by omega) with ⟨_, _, g | g⟩ <;> rw [g] at h <;> cases h
      · rcases escT_ways l i hl with ⟨g, _⟩ | ⟨g, _⟩ <;> rw [h] at g <;> cases g
    · split at h
      · injection h with h _; cases h
      · split at h
        · split at h <;> (injection h with h _; cases h)
        · split at h <;> (injection h with h _; cases h)
theorem rd_long_len (l : List UInt8) (q : Nat) : ∀ (n i : Nat) (out t : List UInt8) (e : Int), l.length - i ≤ n → rdT l q true i out = (t, e, 0, 0) → (t.length : Int) + i + 3 ≤ out.length + e := by
  intro n
  induction n with
  | zero => intro i out t e hn h; rw [rdT_end (by omega)] at h; injection h with _ h; injection h with _ h; injection h with h _; cases h
  | succ n ih =>
    intro i out t e hn h
    by_cases hl : i < l.length
    · obtain ⟨T0, p, u, hT⟩ : ∃ T0 p u, stepT l q true i = (T0, p, u) := ⟨_, _, _, rfl⟩
      have hw := stepT_ways l q true i hl
      rw [hT] at hw
      rcases hw with ⟨a, b, _, c⟩ | ⟨a, b, _⟩ | ⟨a, _⟩
      · dsimp only at a b c
        subst a
        rw [rdT_on hl hT b] at h
        have := ih p (out ++ u) t e (by omega) h
        rw [List.length_append] at this
        omega
      · dsimp only at a b
        subst a
        have h3 := step_long hl hT
        rw [rdT_over hl hT] at h
        injection h with h1 h; injection h with h2 _
        subst h1
        rw [List.length_append]
        omega
      · dsimp only at a
        subst a
        rw [rdT_bad hl hT] at h
        injection h with _ h; injection h with _ h; injection h with h _; cases h
    · rw [rdT_end (by omega)] at h; injection h with _ h; injection h with _ h; injection h with h _; cases h
/-- A text between single marks that is read as that text is a literal string. -/
theorem lit_of_read (a : List UInt8) (h : readT (39 :: (a ++ [39])) 0 = (a, ((a.length + 2 : Nat) : Int), 0, 0)) : ∀ c ∈ a, plainB c.toNat = true ∧ c.toNat ≠ 39 := by
  have b0 : bt (39 :: (a ++ [39])) 0 = 39 := rfl
  rw [readT, if_neg (by omega), Int.toNat_zero, readAt, b0, if_neg (by omega)] at h
  by_cases hl : longT (39 :: (a ++ [39])) 0 = true
  · rw [if_pos hl] at h
    split at h
    · injection h with _ h; injection h with _ h; injection h with h _; cases h
    · have := rd_long_len _ 39 _ _ _ _ _ (Nat.le_refl _) h
      simp only [List.length_nil] at this
      omega
  · rw [if_neg hl] at h
    exact rd_lit_inv (39 :: (a ++ [39])) a 1 [] rfl (by rw [List.nil_append, show 1 + a.length + 1 = a.length + 2 by omega]; exact h)

end Go.Proofs.YtflfedfghnnaeaaDoor
