/- Plain laws: what JSON has as a number, read as a float; lists and numbers alone: no statement of the seat is proved here. -/
import Derived.Test.YtncldnghhpdolaaGreatDoorFlI
namespace Go.Proofs.YtncldnghhpdolaaGreatDoor

theorem pre_drop {a b : List UInt8} (h : b.take a.length = a) : b = a ++ b.drop a.length := by
  conv => lhs; rw [← List.take_append_drop a.length b, h]
theorem one_app {p : UInt8 → Bool} {x : UInt8} (hp : ∀ c, p c = true → c = x) (l : List UInt8) : l = (if hdB p l = true then [x] else []) ++ l.drop (one p l) := by
  unfold one
  cases l with
  | nil => rfl
  | cons c t =>
    cases h : p c
    · rw [show hdB p (c :: t) = false from h]; rfl
    · rw [show hdB p (c :: t) = true from h, hp c h]; rfl
theorem ok_form {l : List UInt8} (h : okW l = true) : ∃ lt, isExp lt = true ∧
    l = (if hdB isMin l then [45] else []) ++ (wholeL l ++ ((if hdB isDot (l2 l) then 46 :: partL l else []) ++ (if hdB isExp (l4 l) then lt :: (signL l ++ powerL l) else []))) := by
  have h7 : l7 l = [] := by
    unfold okW at h
    rw [Bool.and_eq_true, Bool.and_eq_true, Bool.and_eq_true] at h
    exact List.isEmpty_iff.1 h.2.1.1
  have e1 : l = (if hdB isMin l = true then [45] else []) ++ l1 l := one_app (fun c hc => by unfold isMin at hc; simpa using hc) l
  have e2 : l1 l = wholeL l ++ l2 l := (List.takeWhile_append_dropWhile (p := dgB) (l := l1 l)).symm
  have e3 : l2 l = (if hdB isDot (l2 l) = true then [46] else []) ++ l3 l := one_app (fun c hc => by unfold isDot at hc; simpa using hc) (l2 l)
  have e4 : l3 l = partL l ++ l4 l := by
    refine pre_drop ?_
    unfold partL
    split
    · exact take_tw dgB (l3 l)
    · rfl
  have e6 : l5 l = signL l ++ l6 l := by
    refine pre_drop ?_
    unfold signL
    split
    · rw [List.length_take, Nat.min_eq_left (one_le isSig (l5 l))]
    · rfl
  have e7 : l6 l = powerL l ++ l7 l := by
    refine pre_drop ?_
    unfold powerL
    split
    · exact take_tw dgB (l6 l)
    · rfl
  have e5 : ∃ lt, isExp lt = true ∧ l4 l = (if hdB isExp (l4 l) = true then lt :: (signL l ++ powerL l) else []) := by
    rw [h7, List.append_nil] at e7
    rw [e7] at e6
    cases hx : hdB isExp (l4 l)
    · refine ⟨101, by decide, ?_⟩
      have h5 : l5 l = l4 l := by unfold l5 one; rw [hx]; rfl
      have h6 : signL l = [] := by unfold signL; rw [hx]; rfl
      have h8 : powerL l = [] := by unfold powerL; rw [hx]; rfl
      rw [h6, h8, h5] at e6
      simpa using e6
    · cases h4 : l4 l with
      | nil => rw [h4] at hx; cases hx
      | cons c t =>
        rw [h4] at hx
        refine ⟨c, hx, ?_⟩
        have h5 : l5 l = t := by unfold l5 one; rw [h4, hx]; rfl
        rw [← e6, h5]; rfl
  obtain ⟨lt, hlt, e5⟩ := e5
  refine ⟨lt, hlt, ?_⟩
  conv => lhs; rw [e1, e2, e3, e4, e5]
  cases hd : hdB isDot (l2 l)
  · have hp : partL l = [] := by unfold partL; rw [hd]; rfl
    rw [hp]; simp
  · simp
theorem md_dg : ∀ {X : List UInt8}, X ≠ [] → (∀ c ∈ X, dgB c = true) → MD X := by
  have g : ∀ (X : List UInt8) (p : Bool) (n : Nat), (∀ c ∈ X, dgB c = true) → scanQ 10 p X n ≠ none := by
    intro X
    induction X with
    | nil => intro p n _; simp [scanQ]
    | cons c r ih =>
      intro p n h
      rw [scanQ, if_neg (dg_ne95 (h c (by simp))), if_pos ((dg_iff c).1 (h c (by simp)))]
      exact ih _ _ fun d hd => h d (by simp [hd])
  exact fun {X} h0 h => ⟨h0, g _ _ _ h⟩
theorem low_id {X : List UInt8} (h : ∀ c ∈ X, dgB c = true) : lowless X = X := by
  unfold lowless
  exact List.filter_eq_self.2 fun c hc => by simpa using dg_ne95 (h c hc)
/-- What okW says. -/
theorem ok_facts {l : List UInt8} (h : okW l = true) : wholeL l ≠ [] ∧ ¬ (1 < (wholeL l).length ∧ (wholeL l).head? = some 48) ∧ (∀ c ∈ wholeL l, dgB c = true) ∧ (∀ c ∈ partL l, dgB c = true) ∧ (∀ c ∈ powerL l, dgB c = true) ∧
    (hdB isDot (l2 l) = true → partL l ≠ []) ∧ (hdB isDot (l2 l) = false → partL l = []) ∧ (hdB isExp (l4 l) = true → powerL l ≠ []) ∧ (hdB isExp (l4 l) = false → signL l = [] ∧ powerL l = []) ∧ (signL l = [] ∨ signL l = [43] ∨ signL l = [45]) := by
  unfold okW at h
  rw [Bool.and_eq_true, Bool.and_eq_true, Bool.and_eq_true, beq_iff_eq, beq_iff_eq] at h
  obtain ⟨h1, ⟨_, h3⟩, h4⟩ := h
  unfold badW at h1
  rw [Bool.not_eq_true', Bool.or_eq_false_iff] at h1
  refine ⟨fun e => by rw [e] at h1; exact absurd h1.1 (by simp), ?_, tw_all, ?_, ?_, ?_, ?_, ?_, ?_, ?_⟩
  · rintro ⟨k1, k2⟩
    rw [decide_eq_true k1, Bool.true_and] at h1
    cases e : wholeL l with
    | nil => rw [e] at k2; cases k2
    | cons c t =>
      rw [e] at k2 h1
      injection k2 with k2
      subst k2
      exact absurd h1.2 (by simp [hdB])
  · unfold partL; split
    · exact tw_all
    · intro c hc; cases hc
  · unfold powerL; split
    · exact tw_all
    · intro c hc; cases hc
  · intro k e; rw [k, e] at h3; cases h3
  · intro k; unfold partL; rw [k]; rfl
  · intro k e; rw [k, e] at h4; cases h4
  · intro k; unfold powerL signL; rw [k]; exact ⟨rfl, rfl⟩
  · unfold signL
    split
    · unfold one
      cases l5 l with
      | nil => exact .inl (by split <;> rfl)
      | cons c t =>
        cases hc : isSig c
        · rw [show hdB isSig (c :: t) = false from hc]; exact .inl rfl
        · rw [show hdB isSig (c :: t) = true from hc]
          unfold isSig at hc
          rw [Bool.or_eq_true, beq_iff_eq, beq_iff_eq] at hc
          rcases hc with rfl | rfl
          · exact .inr (.inl rfl)
          · exact .inr (.inr rfl)
    · exact .inl rfl
theorem ok_fm {l : List UInt8} (h : okW l = true) (ha : (hdB isDot (l2 l) || hdB isExp (l4 l)) = true) :
    ∃ lt, Fm l (if hdB isMin l then [45] else []) (wholeL l) (hdB isDot (l2 l)) (partL l) (hdB isExp (l4 l)) lt (signL l) (powerL l) := by
  obtain ⟨lt, hlt, hl⟩ := ok_form h
  obtain ⟨f1, f2, f3, f4, f5, f6, f7, f8, f9, f10⟩ := ok_facts h
  refine ⟨lt, hl, ?_, md_dg f1 f3, f2, fun k => md_dg (f6 k) f4, f7, hlt, f10, fun k => md_dg (f8 k) f5, f9, ha⟩
  cases hdB isMin l
  · exact .inl rfl
  · exact .inr (.inr rfl)
/-- With a point, or an exponent: the same. -/
theorem flt_json {l : List UInt8} (h : okW l = true) (ha : (hdB isDot (l2 l) || hdB isExp (l4 l)) = true) : fltR l = readD l := by
  obtain ⟨lt, g⟩ := ok_fm h ha
  obtain ⟨f1, f2, f3, f4, f5, f6, f7, f8, f9, f10⟩ := ok_facts h
  have h7 : l7 l = [] := by
    unfold okW at h
    rw [Bool.and_eq_true, Bool.and_eq_true, Bool.and_eq_true] at h
    exact List.isEmpty_iff.1 h.2.1.1
  have hk := g.ok 101 (by decide)
  rw [g.ref, readD_S, readD_S, form_parts hk, low_id f3, low_id f4, low_id f5]
  unfold sW
  rw [h7]
  cases hdB isMin l <;> rfl
/-- With a plus ahead: the same. -/
theorem flt_plus {l : List UInt8} (h : okW l = true) (ha : (hdB isDot (l2 l) || hdB isExp (l4 l)) = true) (hm : hdB isMin l = false) : fltR (43 :: l) = fltR l := by
  obtain ⟨lt, g⟩ := ok_fm h ha
  rw [hm] at g
  have g2 : Fm (43 :: l) [43] (wholeL l) (hdB isDot (l2 l)) (partL l) (hdB isExp (l4 l)) lt (signL l) (powerL l) :=
    ⟨by have := g.txt; rw [List.cons_append, List.nil_append]; exact congrArg (43 :: ·) this, .inr (.inl rfl), g.m1, g.nb, g.m2, g.pn, g.le, g.eq, g.m3, g.rn, g.any⟩
  rw [g2.ref, g.ref]
  rfl
/-- Two signs: none. -/
theorem flt_two {l : List UInt8} (hm : hdB isMin l = true) : fltR (43 :: l) = ([], 3) := by
  cases l with
  | nil => cases hm
  | cons c t =>
    have hc : c = 45 := by unfold hdB isMin at hm; simpa using hm
    subst hc
    have e1 : behR (43 :: 45 :: t) = 45 :: t := rfl
    have e2 : runD (45 :: t) = [] := by
      unfold runD
      rw [runE, if_neg (by decide), if_neg (by rintro ⟨k, _⟩; cases k)]; rfl
    unfold fltR
    rw [e1, if_neg (by intro k; cases k), if_neg (by intro k; cases k), if_pos (.inl e2)]
theorem ok_chars {l : List UInt8} (h : okW l = true) (ha : (hdB isDot (l2 l) || hdB isExp (l4 l)) = false) : l = (if hdB isMin l then [45] else []) ++ wholeL l := by
  obtain ⟨lt, _, hl⟩ := ok_form h
  rw [Bool.or_eq_false_iff] at ha
  conv => lhs; rw [hl, ha.1, ha.2]
  simp
theorem dg_no {c : UInt8} (h : dgB c = true) : c ≠ 46 ∧ isExp c = false := by
  have := chr_no (.inr h)
  exact ⟨(by rintro rfl; cases h), this.1⟩
/-- Whole numbers are no floats, but integers. -/
theorem flt_whole {l : List UInt8} (h : okW l = true) (ha : (hdB isDot (l2 l) || hdB isExp (l4 l)) = false) : fltR l = ([], 3) ∧ (readI l).2 ≠ 3 := by
  have hl := ok_chars h ha
  obtain ⟨f1, f2, f3, _⟩ := ok_facts h
  have hsq : (if hdB isMin l then [45] else ([] : List UInt8)) = [] ∨ (if hdB isMin l then [45] else ([] : List UInt8)) = [43] ∨ (if hdB isMin l then [45] else ([] : List UInt8)) = [45] := by
    cases hdB isMin l
    · exact .inl rfl
    · exact .inr (.inr rfl)
  have hm := md_dg f1 f3
  have hch : ∀ x ∈ l, x = 45 ∨ dgB x = true := by
    intro x hx
    rw [hl] at hx
    rcases List.mem_append.1 hx with hx | hx
    · cases hmn : hdB isMin l
      · rw [hmn] at hx; cases hx
      · rw [hmn] at hx; exact .inl (List.mem_singleton.1 hx)
    · exact .inr (f3 x hx)
  constructor
  · have hb : behR l = wholeL l := by
      have := (beh_md hsq hm []).1
      rw [List.append_nil] at this
      rw [← hl] at this
      exact this
    have hns : ∀ t : List UInt8, hdB dgB t = false → behR l ≠ t := by
      intro t ht e
      rw [hb] at e
      have := md_head hm
      rw [e, ht] at this; cases this
    rcases ref_ways l (hns infL rfl) (hns nanL rfl) with g | ⟨sg, X1, pt, X2, ra, c, es, X3, g⟩
    · exact g
    · exfalso
      have ht := g.txt
      have ha := g.any
      cases pt
      · cases ra
        · cases ha
        · have : c ∈ l := by rw [ht]; simp
          rcases hch c this with k | k
          · rw [k] at g; exact absurd g.le (by decide)
          · have := (dg_no k).2; rw [g.le] at this; cases this
      · have : (46 : UInt8) ∈ l := by rw [ht]; simp
        rcases hch 46 this with k | k
        · cases k
        · cases k
  · obtain ⟨m, hw⟩ := way_sg hsq hm
    rw [← hl] at hw
    unfold readI
    rw [hw]
    exact readW_not3 hm f2
theorem spec_text {l : List UInt8} (h : specL l ≠ []) : ∃ P, l = P ++ infL ∨ l = P ++ nanL := by
  unfold specL at h
  split at h
  · rename_i e; exact ⟨l.takeWhile isSig, .inl (by rw [← e, List.takeWhile_append_dropWhile])⟩
  · split at h
    · rename_i e; exact ⟨l.takeWhile isSig, .inr (by rw [← e, List.takeWhile_append_dropWhile])⟩
    · exact absurd rfl h
/-- A float that JSON has not: why. -/
theorem flt_other {l t : List UInt8} (h : okW l = false) (hr : fltR l = (t, 0)) : (43 ∈ l ∨ 95 ∈ l) ∨ ∃ P, l = P ++ infL ∨ l = P ++ nanL := by
  rw [← flt_eq] at hr
  unfold fltP at hr
  split at hr
  · rename_i k; exact .inr (spec_text k.1)
  · split at hr
    · left
      refine Classical.byContradiction fun hn => ?_
      have h1 : lowless l = l := by
        unfold lowless
        exact List.filter_eq_self.2 fun c hc => by
          have : c ≠ 95 := fun e => hn (.inr (e ▸ hc))
          simpa using this
      have h2 : trimP l = l := by
        unfold trimP
        rw [if_neg]
        intro e
        cases l with
        | nil => cases e
        | cons c r => injection e with e; subst e; exact hn (.inl (by simp))
      rw [h1, h2] at hr
      unfold readD at hr
      rw [h] at hr
      cases hr
    · cases hr
/-- What is read is a normal form. -/
theorem readD_norm {l t : List UInt8} (h : readD l = (t, 0)) : normL t = true := by
  unfold readD at h
  split at h
  · split at h
    · rename_i hg
      injection h with h _
      rw [← h]
      exact text_norm (norm_dW hg)
    · cases h
  · cases h
theorem flt_norm {l t : List UInt8} (h : fltR l = (t, 0)) : t = infL ∨ t = 45 :: infL ∨ t = nanL ∨ normL t = true := by
  rw [← flt_eq] at h
  unfold fltP at h
  split at h
  · rename_i k
    injection h with h _
    rw [← h]
    unfold specL
    split
    · split
      · exact .inr (.inl rfl)
      · exact .inl rfl
    · split
      · exact .inr (.inr (.inl rfl))
      · rename_i k1 k2
        exact absurd (by unfold specL; rw [if_neg k1, if_neg k2]) k.1
  · split at h
    · exact .inr (.inr (.inr (readD_norm h)))
    · cases h

end Go.Proofs.YtncldnghhpdolaaGreatDoor
