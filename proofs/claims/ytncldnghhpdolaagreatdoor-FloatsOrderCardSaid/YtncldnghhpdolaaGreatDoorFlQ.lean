/- Plain laws: the program and the reference read the same of whatever text; lists and numbers alone: no statement of the seat is proved here. -/
import Derived.Test.YtncldnghhpdolaaGreatDoorFlP
namespace Go.Proofs.YtncldnghhpdolaaGreatDoor

/-- A float's text, by its parts. -/
structure Fm (l sg X1 : List UInt8) (pt : Bool) (X2 : List UInt8) (ra : Bool) (c : UInt8) (es X3 : List UInt8) : Prop where
  txt : l = sg ++ (X1 ++ ((if pt then 46 :: X2 else []) ++ (if ra then c :: (es ++ X3) else [])))
  sq : sg = [] ∨ sg = [43] ∨ sg = [45]
  m1 : MD X1
  nb : ¬ (1 < X1.length ∧ X1.head? = some 48)
  m2 : pt = true → MD X2
  pn : pt = false → X2 = []
  le : isExp c = true
  eq : es = [] ∨ es = [43] ∨ es = [45]
  m3 : ra = true → MD X3
  rn : ra = false → es = [] ∧ X3 = []
  any : (pt || ra) = true

theorem cut_none {p : UInt8 → Bool} {l : List UInt8} (h : ∀ x ∈ l, p x = false) : cutL p l = (l, [], false) := by
  unfold cutL
  rw [if_neg]
  intro e
  obtain ⟨x, hx, hp⟩ := List.any_eq_true.1 e
  rw [h x hx] at hp; cases hp
theorem cut_some {p : UInt8 → Bool} {A B : List UInt8} {c : UInt8} (h : ∀ x ∈ A, p x = false) (hc : p c = true) : cutL p (A ++ c :: B) = (A, B, true) := by
  unfold cutL
  rw [if_pos (List.any_eq_true.2 ⟨c, by simp, hc⟩)]
  have h1 : (A ++ c :: B).takeWhile (fun c => !p c) = A := by
    rw [List.takeWhile_append_of_pos (fun x hx => by rw [h x hx]; rfl), List.takeWhile_cons_of_neg (by rw [hc]; simp), List.append_nil]
  have h2 : (A ++ c :: B).dropWhile (fun c => !p c) = c :: B := by
    rw [List.dropWhile_append_of_pos (fun x hx => by rw [h x hx]; rfl), List.dropWhile_cons_of_neg (by rw [hc]; simp)]
  rw [h1, h2]; rfl
theorem cut_inv (p : UInt8 → Bool) (l : List UInt8) : ((cutL p l).2.2 = false ∧ (cutL p l).1 = l ∧ (cutL p l).2.1 = [] ∧ ∀ x ∈ l, p x = false) ∨
    ((cutL p l).2.2 = true ∧ ∃ c, l = (cutL p l).1 ++ c :: (cutL p l).2.1 ∧ p c = true ∧ ∀ x ∈ (cutL p l).1, p x = false) := by
  induction l with
  | nil => left; exact ⟨rfl, rfl, rfl, by simp⟩
  | cons a r ih =>
    by_cases ha : p a = true
    · right
      have := cut_some (p := p) (A := []) (B := r) (c := a) (by simp) ha
      rw [List.nil_append] at this
      rw [this]
      exact ⟨rfl, a, rfl, ha, by simp⟩
    · have ha' : p a = false := by simpa using ha
      rcases ih with ⟨h1, h2, h3, h4⟩ | ⟨h1, c, h2, h3, h4⟩
      · left
        have h5 : ∀ x ∈ a :: r, p x = false := fun x hx => (List.mem_cons.1 hx).elim (fun e => by rw [e]; exact ha') (h4 x)
        rw [cut_none h5]
        exact ⟨rfl, rfl, rfl, h5⟩
      · right
        have h5 : ∀ x ∈ a :: (cutL p r).1, p x = false := fun x hx => (List.mem_cons.1 hx).elim (fun e => by rw [e]; exact ha') (h4 x)
        have h6 : a :: r = (a :: (cutL p r).1) ++ c :: (cutL p r).2.1 := by rw [List.cons_append]; exact congrArg (a :: ·) h2
        rw [h6, cut_some h5 h3]
        exact ⟨rfl, c, rfl, h3, h5⟩
theorem chr_no {x : UInt8} (h : x = 95 ∨ dgB x = true) : isExp x = false ∧ isDot x = false ∧ isSig x = false := by
  have g : ∀ x : UInt8, (decide (x = 95 ∨ dgB x = true) = true → isExp x = false ∧ isDot x = false ∧ isSig x = false) := u8_all (by decide +kernel)
  exact g x (decide_eq_true h)
theorem sg_no {sg : List UInt8} (h : sg = [] ∨ sg = [43] ∨ sg = [45]) : ∀ x ∈ sg, isExp x = false ∧ isDot x = false := by
  rcases h with rfl | rfl | rfl
  · simp
  · intro x hx; rw [List.mem_singleton] at hx; subst hx; decide
  · intro x hx; rw [List.mem_singleton] at hx; subst hx; decide
theorem app_no {q : UInt8 → Prop} {a b : List UInt8} (ha : ∀ x ∈ a, q x) (hb : ∀ x ∈ b, q x) : ∀ x ∈ a ++ b, q x := fun x hx => (List.mem_append.1 hx).elim (ha x) (hb x)
/-- Digits and marks, a digit ahead, are base 10's. -/
theorem way_md {c : UInt8} {l : List UInt8} (hc : dgB c = true) (hl : ∀ d ∈ l, d = 95 ∨ dgB d = true) : wayI (c :: l) = (10, false, c :: l) := by
  have h2 : ∀ x : UInt8, (x = 120 ∨ x = 111 ∨ x = 98) → (c :: l).take 2 ≠ [48, x] := by
    intro x hx e
    cases l with
    | nil => simp at e
    | cons d k =>
      simp only [List.take_succ_cons, List.take_zero, List.cons.injEq, and_true] at e
      have h3 := hl d (by simp)
      rw [e.2] at h3
      rcases hx with rfl | rfl | rfl <;> rcases h3 with h3 | h3 <;> cases h3
  unfold wayI
  rw [if_neg (h2 120 (by simp)), if_neg (h2 111 (by simp)), if_neg (h2 98 (by simp)), if_neg (by intro e; injection e with e; subst e; cases hc), if_neg (by intro e; injection e with e; subst e; cases hc)]
theorem md_cons {X : List UInt8} (h : MD X) : ∃ c r, X = c :: r ∧ dgB c = true ∧ ∀ d ∈ r, d = 95 ∨ dgB d = true := by
  have h1 := md_head h
  have h2 := md_chars h.2
  cases X with
  | nil => exact absurd rfl h.1
  | cons c r => exact ⟨c, r, rfl, h1, fun d hd => h2 d (by simp [hd])⟩
theorem way_sg {sg X : List UInt8} (h : sg = [] ∨ sg = [43] ∨ sg = [45]) (hX : MD X) : ∃ m, wayI (sg ++ X) = (10, m, X) := by
  rcases h with rfl | rfl | rfl
  · obtain ⟨c, r, rfl, hc, hr⟩ := md_cons hX
    exact ⟨false, way_md hc hr⟩
  · exact ⟨false, way_plus X⟩
  · exact ⟨true, way_minus X⟩
theorem readW_not3 {m : Bool} {X : List UInt8} (hX : MD X) (hb : ¬ (1 < X.length ∧ X.head? = some 48)) : (readW 10 m X).2 ≠ 3 := by
  unfold readW
  rw [if_neg (by rintro (e | ⟨_, e⟩); exact hX.1 e; exact hb e)]
  cases e : scanQ 10 false X 0 with
  | none => exact absurd e hX.2
  | some n =>
    simp only
    split <;> simp
theorem not3_md {m : Bool} {X : List UInt8} (h : (readW 10 m X).2 ≠ 3) : MD X ∧ ¬ (1 < X.length ∧ X.head? = some 48) := by
  unfold readW at h
  split at h
  · exact absurd rfl h
  · rename_i h0
    refine ⟨⟨fun e => h0 (.inl e), fun e => ?_⟩, fun e => h0 (.inr ⟨rfl, e⟩)⟩
    rw [e] at h
    exact absurd rfl h
theorem opt_no {b : Bool} {l : List UInt8} {q : UInt8 → Prop} (h : b = true → ∀ x ∈ l, q x) : ∀ x ∈ (if b then l else []), q x := by
  cases b
  · simp
  · exact h rfl
theorem Fm.ahead {l sg X1 X2 es X3 : List UInt8} {pt ra : Bool} {c : UInt8} (h : Fm l sg X1 pt X2 ra c es X3) :
    cutL isExp l = (sg ++ (X1 ++ (if pt then 46 :: X2 else [])), if ra then es ++ X3 else [], ra) ∧ cutL isDot (sg ++ (X1 ++ (if pt then 46 :: X2 else []))) = (sg ++ X1, X2, pt) := by
  have a1 : ∀ x ∈ X1, isExp x = false ∧ isDot x = false := fun x hx => ⟨(chr_no (md_chars h.m1.2 x hx)).1, (chr_no (md_chars h.m1.2 x hx)).2.1⟩
  have a2 : pt = true → ∀ x ∈ (46 :: X2), isExp x = false := fun hp x hx => (List.mem_cons.1 hx).elim (fun e => by rw [e]; decide) fun hx => (chr_no (md_chars (h.m2 hp).2 x hx)).1
  have hA : ∀ x ∈ sg ++ (X1 ++ (if pt then 46 :: X2 else [])), isExp x = false :=
    app_no (fun x hx => (sg_no h.sq x hx).1) (app_no (fun x hx => (a1 x hx).1) (opt_no a2))
  refine ⟨?_, ?_⟩
  · rw [h.txt]
    cases ra
    · simp only [Bool.false_eq_true, if_false, List.append_nil]
      rw [cut_none hA]
    · simp only [if_true]
      rw [← List.append_assoc X1, ← List.append_assoc sg, cut_some hA h.le]
  · cases pt
    · simp only [Bool.false_eq_true, if_false, List.append_nil]
      rw [cut_none (app_no (fun x hx => (sg_no h.sq x hx).2) fun x hx => (a1 x hx).2), h.pn rfl]
    · simp only [if_true]
      rw [← List.append_assoc, cut_some (app_no (fun x hx => (sg_no h.sq x hx).2) fun x hx => (a1 x hx).2) (by decide)]
theorem pow_md {es X : List UInt8} (h : es = [] ∨ es = [43] ∨ es = [45]) (hX : MD X) : powF (es ++ X) = true := by
  unfold powF
  rcases h with rfl | rfl | rfl
  · obtain ⟨c, r, rfl, hc, _⟩ := md_cons hX
    rw [List.nil_append, show hdB isSig (c :: r) = false from (chr_no (.inr hc)).2.2]
    exact (md_iff _).2 hX
  · rw [show hdB isSig ([43] ++ X) = true from rfl]; exact (md_iff _).2 hX
  · rw [show hdB isSig ([45] ++ X) = true from rfl]; exact (md_iff _).2 hX
theorem Fm.acc {l sg X1 X2 es X3 : List UInt8} {pt ra : Bool} {c : UInt8} (h : Fm l sg X1 pt X2 ra c es X3) : accP l = true := by
  obtain ⟨h1, h2⟩ := h.ahead
  unfold accP
  rw [h1]
  simp only
  rw [h2]
  simp only
  obtain ⟨m, hw⟩ := way_sg h.sq h.m1
  have h3 : decide ((readI (sg ++ X1)).2 ≠ 3) = true := decide_eq_true (by unfold readI; rw [hw]; exact readW_not3 h.m1 h.nb)
  rw [h.any, h3]
  have h4 : (!pt || digF X2) = true := by
    cases pt
    · rfl
    · rw [(md_iff _).2 (h.m2 rfl)]; rfl
  have h5 : (!ra || powF (if ra then es ++ X3 else [])) = true := by
    cases ra
    · rfl
    · simp only [if_true]; rw [pow_md h.eq (h.m3 rfl)]; rfl
  rw [h4, h5]; rfl
theorem low_sg {sg : List UInt8} (h : sg = [] ∨ sg = [43] ∨ sg = [45]) : lowless sg = sg := by rcases h with rfl | rfl | rfl <;> rfl
theorem low_if (b : Bool) (l : List UInt8) : lowless (if b then l else []) = if b then lowless l else [] := by cases b <;> rfl
theorem isExp_95 {c : UInt8} (h : isExp c = true) : c ≠ 95 := by rintro rfl; cases h
theorem low_head {X : List UInt8} (h : MD X) : ∃ c r, lowless X = c :: r ∧ dgB c = true ∧ X.head? = some c := by
  obtain ⟨c, r, rfl, hc, _⟩ := md_cons h
  exact ⟨c, lowless r, low_cons (dg_ne95 hc) r, hc, rfl⟩
theorem Fm.text {l sg X1 X2 es X3 : List UInt8} {pt ra : Bool} {c : UInt8} (h : Fm l sg X1 pt X2 ra c es X3) :
    trimP (lowless l) = formL (decide (sg = [45])) (lowless X1) pt (lowless X2) ra c es (lowless X3) [] := by
  have e1 : lowless l = sg ++ (lowless X1 ++ ((if pt then 46 :: lowless X2 else []) ++ (if ra then c :: (es ++ lowless X3) else []))) := by
    rw [h.txt, low_app, low_app, low_app, low_if, low_if, low_sg h.sq, low_cons (by decide), low_cons (isExp_95 h.le), low_app, low_sg h.eq]
  rw [e1]
  obtain ⟨d, r, hd1, hd2, _⟩ := low_head h.m1
  unfold formL
  rw [List.append_nil]
  rcases h.sq with rfl | rfl | rfl
  · rw [hd1]
    unfold trimP
    rw [if_neg (by intro e; injection e with e; subst e; cases hd2)]
    rfl
  · rfl
  · rfl
theorem Fm.ok {l sg X1 X2 es X3 : List UInt8} {pt ra : Bool} {c : UInt8} (h : Fm l sg X1 pt X2 ra c es X3) (lt : UInt8) (hl : isExp lt = true) : FormOk (lowless X1) pt (lowless X2) ra lt es (lowless X3) [] := by
  refine ⟨low_dg (md_chars h.m1.2), low_ne h.m1, ?_, fun e => by rw [h.pn e]; rfl, hl, h.eq, ?_, fun e => low_ne (h.m3 e), fun e => ?_, rfl⟩
  · cases pt
    · rw [h.pn rfl]; intro c hc; cases hc
    · exact low_dg (md_chars (h.m2 rfl).2)
  · cases ra
    · rw [(h.rn rfl).2]; intro c hc; cases hc
    · exact low_dg (md_chars (h.m3 rfl).2)
  · rw [(h.rn e).1, (h.rn e).2]; exact ⟨rfl, rfl, rfl⟩

end Go.Proofs.YtncldnghhpdolaaGreatDoor
