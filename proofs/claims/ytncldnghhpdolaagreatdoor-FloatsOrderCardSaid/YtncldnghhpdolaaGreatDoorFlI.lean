/- Plain laws on a low mark that is put into a float's text; lists and numbers alone: no statement of the seat is proved here. -/
import Derived.Test.YtncldnghhpdolaaGreatDoorFlR
namespace Go.Proofs.YtncldnghhpdolaaGreatDoor

theorem dig_split {A B U V : List UInt8} {c d : UInt8} (h : A ++ B = U ++ c :: d :: V) (hc : dgB c = true) (hd : dgB d = true) (hB : hdB dgB B = false) :
    (∃ V', A = U ++ c :: d :: V' ∧ V = V' ++ B) ∨ ∃ U', U = A ++ U' ∧ B = U' ++ c :: d :: V := by
  rcases List.append_eq_append_iff.1 h with ⟨u, h1, h2⟩ | ⟨W, h1, h2⟩
  · exact .inr ⟨u, h1, h2⟩
  · left
    cases W with
    | nil =>
      rw [List.nil_append] at h2
      rw [← h2] at hB
      have : dgB c = false := hB
      rw [hc] at this; cases this
    | cons x W =>
      cases W with
      | nil =>
        injection h2 with _ h2
        have h2 : d :: V = B := h2
        rw [← h2] at hB
        have : dgB d = false := hB
        rw [hd] at this; cases this
      | cons y W =>
        injection h2 with e1 h2
        injection h2 with e2 h2
        subst e1 e2
        exact ⟨W, h1, h2⟩
theorem non_split {A B U V : List UInt8} {c : UInt8} (hA : ∀ x ∈ A, dgB x = false) (h : A ++ B = U ++ c :: V) (hc : dgB c = true) : ∃ U', U = A ++ U' ∧ B = U' ++ c :: V := by
  rcases List.append_eq_append_iff.1 h with ⟨u, h1, h2⟩ | ⟨W, h1, h2⟩
  · exact ⟨u, h1, h2⟩
  · cases W with
    | nil => exact ⟨[], by rw [h1]; simp, by simpa using h2.symm⟩
    | cons x W =>
      injection h2 with e1 h2
      have := hA c (by rw [h1, e1]; simp)
      rw [hc] at this; cases this
theorem scan_ins {c d : UInt8} (hc : dgB c = true) (hd : dgB d = true) (v : List UInt8) : ∀ (u : List UInt8) (p : Bool) (n : Nat), scanQ 10 p (u ++ c :: 95 :: d :: v) n = scanQ 10 p (u ++ c :: d :: v) n
  | [], p, n => by
    rw [List.nil_append, List.nil_append, scanQ, if_neg (dg_ne95 hc), if_pos ((dg_iff c).1 hc), scanQ, if_pos rfl, if_neg (by simp), scanQ, if_neg (dg_ne95 hd), if_pos ((dg_iff d).1 hd)]
    conv => rhs; rw [scanQ, if_neg (dg_ne95 hc), if_pos ((dg_iff c).1 hc), scanQ, if_neg (dg_ne95 hd), if_pos ((dg_iff d).1 hd)]
  | x :: u, p, n => by
    rw [List.cons_append, List.cons_append, scanQ, scanQ, scan_ins hc hd v u, scan_ins hc hd v u]
    simp
theorem md_ins {u v : List UInt8} {c d : UInt8} (hc : dgB c = true) (hd : dgB d = true) (h : MD (u ++ c :: d :: v)) : MD (u ++ c :: 95 :: d :: v) :=
  ⟨by simp, by rw [scan_ins hc hd]; exact h.2⟩
theorem low_ins (u v : List UInt8) (c d : UInt8) : lowless (u ++ c :: 95 :: d :: v) = lowless (u ++ c :: d :: v) := by
  unfold lowless
  simp [List.filter_append, List.filter_cons]
theorem sg_dg {sg : List UInt8} (h : sg = [] ∨ sg = [43] ∨ sg = [45]) : ∀ x ∈ sg, dgB x = false := by
  rcases h with rfl | rfl | rfl
  · simp
  · intro x hx; rw [List.mem_singleton] at hx; subst hx; decide
  · intro x hx; rw [List.mem_singleton] at hx; subst hx; decide
theorem Fm.ins {l sg X1 X2 es X3 U V : List UInt8} {pt ra : Bool} {e c d : UInt8} (h : Fm l sg X1 pt X2 ra e es X3) (hl : l = U ++ c :: d :: V) (hc : dgB c = true) (hd : dgB d = true) :
    ∃ Y1 Y2 Y3, Fm (U ++ c :: 95 :: d :: V) sg Y1 pt Y2 ra e es Y3 ∧ lowless Y1 = lowless X1 ∧ lowless Y2 = lowless X2 ∧ lowless Y3 = lowless X3 := by
  have h0 := h.txt
  rw [hl] at h0
  obtain ⟨U1, rfl, h1⟩ := non_split (sg_dg h.sq) h0.symm hc
  have hZ : hdB dgB (if ra then e :: (es ++ X3) else []) = false := (off_opt h.le _).1
  have hYZ : hdB dgB ((if pt then 46 :: X2 else []) ++ (if ra then e :: (es ++ X3) else [])) = false := by
    cases pt
    · exact hZ
    · rfl
  have hE : ∀ {U3 : List UInt8}, (if ra then e :: (es ++ X3) else []) = U3 ++ c :: d :: V → ∃ U4, ra = true ∧ U3 = e :: (es ++ U4) ∧ X3 = U4 ++ c :: d :: V := by
    intro U3 hz
    cases ra
    · simp at hz
    · simp only [if_true] at hz
      obtain ⟨U4, e1, e2⟩ := non_split (A := e :: es) (B := X3) (by
        intro x hx
        rcases List.mem_cons.1 hx with rfl | hx
        · exact (exp_dg h.le).1
        · exact sg_dg h.eq x hx) (by rw [List.cons_append]; exact hz) hc
      exact ⟨U4, rfl, e1, e2⟩
  rcases dig_split h1 hc hd hYZ with ⟨V', hX, rfl⟩ | ⟨U2, rfl, h2⟩
  · subst hX
    refine ⟨U1 ++ c :: 95 :: d :: V', X2, X3, ⟨by simp, h.sq, md_ins hc hd h.m1, ?_, h.m2, h.pn, h.le, h.eq, h.m3, h.rn, h.any⟩, low_ins _ _ _ _, rfl, rfl⟩
    rintro ⟨_, k2⟩
    refine h.nb ⟨by simp; omega, ?_⟩
    cases U1 with
    | nil => exact k2
    | cons x u => exact k2
  · cases pt
    · rw [if_neg (by decide), List.nil_append] at h2
      obtain ⟨U4, rfl, rfl, rfl⟩ := hE h2
      refine ⟨X1, X2, U4 ++ c :: 95 :: d :: V, ⟨by simp, h.sq, h.m1, h.nb, h.m2, h.pn, h.le, h.eq, fun _ => md_ins hc hd (h.m3 rfl), fun k => (by cases k), h.any⟩, rfl, rfl, low_ins _ _ _ _⟩
    · rw [if_pos rfl] at h2
      rcases dig_split h2 hc hd hZ with ⟨V', hX, rfl⟩ | ⟨U3, rfl, h3⟩
      · cases U2 with
        | nil => injection hX with k _; subst k; cases hc
        | cons x U2 =>
          injection hX with k hX
          subst k hX
          refine ⟨X1, U2 ++ c :: 95 :: d :: V', X3, ⟨by simp, h.sq, h.m1, h.nb, fun _ => md_ins hc hd (h.m2 rfl), fun k => (by cases k), h.le, h.eq, h.m3, h.rn, h.any⟩, rfl, low_ins _ _ _ _, rfl⟩
      · obtain ⟨U4, rfl, rfl, rfl⟩ := hE h3
        refine ⟨X1, X2, U4 ++ c :: 95 :: d :: V, ⟨by simp, h.sq, h.m1, h.nb, h.m2, h.pn, h.le, h.eq, fun _ => md_ins hc hd (h.m3 rfl), fun k => (by cases k), h.any⟩, rfl, rfl, low_ins _ _ _ _⟩

theorem beh_mem {l t : List UInt8} (h : behR l = t) : ∀ x ∈ l, x = 43 ∨ x = 45 ∨ x ∈ t := by
  obtain ⟨es, h1, h2⟩ := sig_split l
  rw [h] at h1
  intro x hx
  rw [h1] at hx
  rcases List.mem_append.1 hx with hx | hx
  · rcases h2 with rfl | rfl | rfl
    · cases hx
    · exact .inl (List.mem_singleton.1 hx)
    · exact .inr (.inl (List.mem_singleton.1 hx))
  · exact .inr (.inr hx)
/-- A mark between two digits makes no difference. -/
theorem mark_between {U V : List UInt8} {c d : UInt8} (hc : dgB c = true) (hd : dgB d = true) (hne : fltR (U ++ c :: d :: V) ≠ ([], 3)) : fltR (U ++ c :: 95 :: d :: V) = fltR (U ++ c :: d :: V) := by
  have hs : ∀ t : List UInt8, (∀ x ∈ t, dgB x = false) → behR (U ++ c :: d :: V) ≠ t := by
    intro t ht e
    rcases beh_mem e c (by simp) with k | k | k
    · subst k; cases hc
    · subst k; cases hc
    · rw [ht c k] at hc; cases hc
  rcases ref_ways _ (hs infL (by decide)) (hs nanL (by decide)) with g | ⟨_, _, _, _, _, _, _, _, g⟩
  · exact absurd g hne
  · obtain ⟨Y1, Y2, Y3, k, e1, e2, e3⟩ := g.ins rfl hc hd
    rw [k.ref, g.ref, e1, e2, e3]
theorem mark_split {P Q A B : List UInt8} (h : P ++ Q = A ++ 95 :: B) : (∃ W, P = A ++ 95 :: W ∧ B = W ++ Q) ∨ ∃ W, A = P ++ W ∧ Q = W ++ 95 :: B := by
  rcases List.append_eq_append_iff.1 h with ⟨u, h1, h2⟩ | ⟨W, h1, h2⟩
  · exact .inr ⟨u, h1, h2⟩
  · cases W with
    | nil => exact .inr ⟨[], by rw [h1]; simp, by simpa using h2.symm⟩
    | cons x W =>
      injection h2 with e1 h2
      subst e1
      exact .inl ⟨W, h1, h2⟩
theorem none_split {P Q A B : List UInt8} (hP : ∀ x ∈ P, x ≠ 95) (h : P ++ Q = A ++ 95 :: B) : ∃ W, A = P ++ W ∧ Q = W ++ 95 :: B := by
  rcases mark_split h with ⟨W, h1, _⟩ | k
  · exact absurd rfl (hP 95 (by rw [h1]; simp))
  · exact k
/-- Both of a mark's neighbours are digits. -/
def Both (A B : List UInt8) : Prop := ∃ U V c d, A = U ++ [c] ∧ B = d :: V ∧ dgB c = true ∧ dgB d = true
theorem Both.ahead {A B : List UInt8} (h : Both A B) (P Q : List UInt8) : Both (P ++ A) (B ++ Q) := by
  obtain ⟨U, V, c, d, rfl, rfl, h1, h2⟩ := h
  exact ⟨P ++ U, V ++ Q, c, d, by simp, by simp, h1, h2⟩
theorem scan_mark (W : List UInt8) : ∀ (A : List UInt8) (p : Bool) (n : Nat), scanQ 10 p (A ++ 95 :: W) n ≠ none → (A = [] ∧ p = true ∨ ∃ U c, A = U ++ [c] ∧ dgB c = true) ∧ ∃ d V, W = d :: V ∧ dgB d = true
  | [], p, n, h => by
    rw [List.nil_append, scanQ, if_pos rfl] at h
    by_cases hp : p = false ∨ W = []
    · rw [if_pos hp] at h; exact absurd rfl h
    · rw [if_neg hp] at h
      have hpt : p = true := by cases p; exact absurd (.inl rfl) hp; rfl
      refine ⟨.inl ⟨rfl, hpt⟩, ?_⟩
      cases W with
      | nil => exact absurd (.inr rfl) hp
      | cons d V =>
        refine ⟨d, V, rfl, ?_⟩
        rw [scanQ] at h
        by_cases h95 : d = 95
        · rw [if_pos h95, if_pos (.inl rfl)] at h; exact absurd rfl h
        · rw [if_neg h95] at h
          by_cases h10 : digV d < 10
          · exact digV_10 h10
          · rw [if_neg h10] at h; exact absurd rfl h
  | x :: A, p, n, h => by
    rw [List.cons_append, scanQ] at h
    by_cases hx : x = 95
    · rw [if_pos hx] at h
      by_cases hp : p = false ∨ A ++ 95 :: W = []
      · rw [if_pos hp] at h; exact absurd rfl h
      · rw [if_neg hp] at h
        obtain ⟨k1, k2⟩ := scan_mark W A false n h
        refine ⟨.inr ?_, k2⟩
        rcases k1 with ⟨_, k⟩ | ⟨U, c, rfl, k⟩
        · cases k
        · exact ⟨x :: U, c, rfl, k⟩
    · rw [if_neg hx] at h
      by_cases h10 : digV x < 10
      · rw [if_pos h10] at h
        obtain ⟨k1, k2⟩ := scan_mark W A true _ h
        refine ⟨.inr ?_, k2⟩
        rcases k1 with ⟨rfl, _⟩ | ⟨U, c, rfl, k⟩
        · exact ⟨[], x, rfl, digV_10 h10⟩
        · exact ⟨x :: U, c, rfl, k⟩
      · rw [if_neg h10] at h; exact absurd rfl h
theorem md_mark {A W : List UInt8} (h : MD (A ++ 95 :: W)) : Both A W := by
  obtain ⟨k1, d, V, rfl, hd⟩ := scan_mark W A false 0 h.2
  rcases k1 with ⟨_, k⟩ | ⟨U, c, rfl, k⟩
  · cases k
  · exact ⟨U, V, c, d, rfl, rfl, k, hd⟩
theorem sg_95 {sg : List UInt8} (h : sg = [] ∨ sg = [43] ∨ sg = [45]) : ∀ x ∈ sg, x ≠ 95 := by
  rcases h with rfl | rfl | rfl
  · simp
  · intro x hx; rw [List.mem_singleton] at hx; subst hx; decide
  · intro x hx; rw [List.mem_singleton] at hx; subst hx; decide
theorem Fm.mark {l sg X1 X2 es X3 A B : List UInt8} {pt ra : Bool} {e : UInt8} (h : Fm l sg X1 pt X2 ra e es X3) (hl : l = A ++ 95 :: B) : Both A B := by
  have h0 := h.txt
  rw [hl] at h0
  obtain ⟨W1, rfl, h1⟩ := none_split (sg_95 h.sq) h0.symm
  rcases mark_split h1 with ⟨W, k1, rfl⟩ | ⟨W2, rfl, h2⟩
  · have := (md_mark (k1 ▸ h.m1)).ahead sg ((if pt then 46 :: X2 else []) ++ (if ra then e :: (es ++ X3) else []))
    exact this
  · have hE : ∀ {W3 : List UInt8} (P : List UInt8), (if ra then e :: (es ++ X3) else []) = W3 ++ 95 :: B → Both (P ++ W3) B := by
      intro W3 P hz
      cases ra
      · simp at hz
      · simp only [if_true] at hz
        obtain ⟨W4, rfl, k⟩ := none_split (P := e :: es) (Q := X3) (by
          intro x hx
          rcases List.mem_cons.1 hx with rfl | hx
          · exact isExp_95 h.le
          · exact sg_95 h.eq x hx) (by rw [List.cons_append]; exact hz)
        have hm := h.m3 rfl
        rw [k] at hm
        have := (md_mark hm).ahead (P ++ e :: es) []
        simpa using this
    cases pt
    · rw [if_neg (by decide), List.nil_append] at h2
      rw [← List.append_assoc]
      exact hE _ h2
    · rw [if_pos rfl] at h2
      rcases mark_split h2 with ⟨W, k1, rfl⟩ | ⟨W3, rfl, h3⟩
      · cases W2 with
        | nil => injection k1 with k _; cases k
        | cons x W2 =>
          injection k1 with k k1
          subst k
          have hm := h.m2 rfl
          rw [k1] at hm
          have := (md_mark hm).ahead (sg ++ (X1 ++ [46])) (if ra then e :: (es ++ X3) else [])
          simpa using this
      · have := hE (sg ++ (X1 ++ 46 :: X2)) h3
        simpa using this
/-- A mark elsewhere: nothing is read. -/
theorem mark_else {A B : List UInt8} (hne : fltR (A ++ 95 :: B) ≠ ([], 3)) : Both A B := by
  have hs : ∀ t : List UInt8, (∀ x ∈ t, x ≠ 95) → behR (A ++ 95 :: B) ≠ t := by
    intro t ht e
    rcases beh_mem e 95 (by simp) with k | k | k
    · cases k
    · cases k
    · exact ht 95 k rfl
  rcases ref_ways _ (hs infL (by decide)) (hs nanL (by decide)) with g | ⟨_, _, _, _, _, _, _, _, g⟩
  · exact absurd g hne
  · exact g.mark rfl
theorem readD_3 {l t : List UInt8} {c : Int} (h : readD l = (t, c)) : (c = 0 ∨ c = 3 ∨ c = 7) ∧ (c ≠ 0 → t = []) := by
  unfold readD at h
  split at h
  · split at h
    · injection h with h1 h2; subst h2; exact ⟨.inl rfl, fun k => absurd rfl k⟩
    · injection h with h1 h2; subst h1 h2; exact ⟨.inr (.inr rfl), fun _ => rfl⟩
  · injection h with h1 h2; subst h1 h2; exact ⟨.inr (.inl rfl), fun _ => rfl⟩
/-- What is no text is none. -/
theorem flt_3 {l t : List UInt8} {c : Int} (h : fltR l = (t, c)) : (c = 0 ∨ c = 3 ∨ c = 7) ∧ (c ≠ 0 → t = []) := by
  rw [← flt_eq] at h
  unfold fltP at h
  split at h
  · injection h with h1 h2; subst h2; exact ⟨.inl rfl, fun k => absurd rfl k⟩
  · split at h
    · exact readD_3 h
    · injection h with h1 h2; subst h1 h2; exact ⟨.inr (.inl rfl), fun _ => rfl⟩

end Go.Proofs.YtncldnghhpdolaaGreatDoor
