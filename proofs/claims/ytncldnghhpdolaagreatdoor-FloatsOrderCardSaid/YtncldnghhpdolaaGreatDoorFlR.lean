/- Plain laws: of whatever text the program and the reference read the same; lists and numbers alone: no statement of the seat is proved here. -/
import Derived.Test.YtncldnghhpdolaaGreatDoorFlQ
namespace Go.Proofs.YtncldnghhpdolaaGreatDoor

/-- Reading a number hangs on its parts alone. -/
def readS (w : Wr) : List UInt8 × Int :=
  if (!badW w.whole && (w.rest.isEmpty && (w.point == !w.part.isEmpty) && (w.raised == !w.power.isEmpty))) then (if inB (expW w) && inB (dW w).exp then ((dW w).text, 0) else ([], 7)) else ([], 3)
theorem readD_S (l : List UInt8) : readD l = readS (sW l) := rfl
theorem off_nil : offB [] := ⟨rfl, rfl⟩
theorem off_exp {c : UInt8} (h : isExp c = true) (t : List UInt8) : offB (c :: t) := by
  refine ⟨(exp_dg h).1, ?_⟩
  show (c == 95) = false
  rw [beq_eq_false_iff_ne]; exact isExp_95 h
theorem off_dot (t : List UInt8) : offB (46 :: t) := ⟨rfl, rfl⟩
theorem off_opt {ra : Bool} {c : UInt8} (h : isExp c = true) (t : List UInt8) : offB (if ra then c :: t else []) := by
  cases ra
  · exact off_nil
  · exact off_exp h t
theorem beh_md {sg X : List UInt8} (h : sg = [] ∨ sg = [43] ∨ sg = [45]) (hX : MD X) (T : List UInt8) : behR (sg ++ (X ++ T)) = X ++ T ∧ (if hdB isSig (sg ++ (X ++ T)) then (sg ++ (X ++ T)).take 1 else []) = sg ∧ signR (sg ++ (X ++ T)) = if decide (sg = [45]) then [45] else [] := by
  obtain ⟨d, r, rfl, hd, _⟩ := md_cons hX
  have h1 := (chr_no (.inr hd)).2.2
  unfold behR signR
  rcases h with rfl | rfl | rfl
  · rw [List.nil_append, List.cons_append, show hdB isSig (d :: (r ++ T)) = false from h1]
    refine ⟨by simp, by simp, ?_⟩
    rw [if_neg (by intro e; injection e with e; subst e; cases hd)]
    rfl
  · exact ⟨rfl, rfl, rfl⟩
  · exact ⟨rfl, rfl, rfl⟩
theorem md_not {X : List UInt8} (hX : MD X) (T : List UInt8) {l : List UInt8} (hl : hdB dgB l = false) : X ++ T ≠ l := by
  obtain ⟨d, r, rfl, hd, _⟩ := md_cons hX
  intro e
  rw [← e] at hl
  have : dgB d = false := hl
  rw [hd] at this; cases this
theorem lowQ_le (X : List UInt8) : (lowless X).length ≤ X.length := List.length_filter_le _ _
theorem nb_low {X : List UInt8} (hX : MD X) (hb : ¬ (1 < X.length ∧ X.head? = some 48)) : ¬ (lowless X = [] ∨ (1 < (lowless X).length ∧ (lowless X).head? = some 48)) := by
  obtain ⟨c, r, h1, _, h3⟩ := low_head hX
  rintro (e | ⟨e1, e2⟩)
  · exact low_ne hX e
  · refine hb ⟨Nat.lt_of_lt_of_le e1 (lowQ_le X), ?_⟩
    rw [h3, ← e2, h1]; rfl
theorem md_len {X : List UInt8} (hX : MD X) (h : 1 < X.length) : 1 < (lowless X).length := by
  obtain ⟨h0, hs⟩ := hX
  cases X with
  | nil => exact absurd rfl h0
  | cons c r =>
    rw [scanQ] at hs
    by_cases h95 : c = 95
    · rw [if_pos h95, if_pos (.inl rfl)] at hs; exact absurd rfl hs
    · rw [if_neg h95] at hs
      rw [low_cons h95]
      by_cases h10 : digV c < 10
      · rw [if_pos h10] at hs
        have : lowless r ≠ [] := by
          cases r with
          | nil => simp at h
          | cons d k =>
            by_cases hd : d = 95
            · subst hd
              rw [scanQ, if_pos rfl] at hs
              by_cases hk : true = false ∨ k = []
              · rw [if_pos hk] at hs; exact absurd rfl hs
              · rw [if_neg hk] at hs
                have hk2 : k ≠ [] := fun e => hk (.inr e)
                have hm : MD k := ⟨hk2, fun e => hs ((scan_num k false _ 0).2 e)⟩
                exact fun e => low_ne hm e
            · rw [low_cons hd]; simp
        have := List.length_pos_iff.2 this
        simp; omega
      · rw [if_neg h10] at hs; exact absurd rfl hs
theorem expR_cons (sg : List UInt8) (more : Bool) {c : UInt8} (he : isExp c = true) (t : List UInt8) : expR sg more (c :: t) =
    if runD (behR t) = [] then ([], 3)
    else if restR (behR t) ≠ [] then ([], 3) else readD (sg ++ (101 :: ((if hdB isSig t then t.take 1 else []) ++ runD (behR t)))) := by
  unfold expR
  rw [if_pos (show hdB isExp (c :: t) = true from he)]
  rfl
theorem exp_of {sg : List UInt8} {ra more : Bool} {c : UInt8} {es X3 : List UInt8} (hc : isExp c = true) (he : es = [] ∨ es = [43] ∨ es = [45]) (h3 : ra = true → MD X3) (hm : (more || ra) = true) :
    expR sg more (if ra then c :: (es ++ X3) else []) = readD (sg ++ (if ra then 101 :: (es ++ lowless X3) else [])) := by
  cases ra
  · unfold expR
    simp only [Bool.false_eq_true, if_false]
    rw [if_neg (by decide), if_neg (by simpa using hm), List.append_nil]
  · have hX := h3 rfl
    simp only [if_true]
    rw [expR_cons sg more hc]
    obtain ⟨b1, b2, _⟩ := beh_md he hX []
    rw [List.append_nil] at b1 b2
    rw [b1, b2]
    have hr := md_runD hX off_nil
    rw [List.append_nil] at hr
    rw [hr.1, hr.2, if_neg (low_ne hX), if_neg (by simp)]
theorem Fm.ref {l sg X1 X2 es X3 : List UInt8} {pt ra : Bool} {c : UInt8} (h : Fm l sg X1 pt X2 ra c es X3) :
    fltR l = readD (formL (decide (sg = [45])) (lowless X1) pt (lowless X2) ra 101 es (lowless X3) []) := by
  obtain ⟨b1, _, b3⟩ := beh_md h.sq h.m1 ((if pt then 46 :: X2 else []) ++ (if ra then c :: (es ++ X3) else []))
  rw [← h.txt] at b1 b3
  unfold fltR
  rw [b1, b3, if_neg (md_not h.m1 _ (by decide)), if_neg (md_not h.m1 _ (by decide))]
  have hT2 : offB (if ra then c :: (es ++ X3) else []) := off_opt h.le _
  have hnb := nb_low h.m1 h.nb
  unfold formL
  rw [List.append_nil]
  cases pt
  · have hr := md_runD (X := X1) (t := if ra then c :: (es ++ X3) else []) h.m1 hT2
    simp only [Bool.false_eq_true, if_false, List.nil_append]
    rw [hr.1, hr.2, if_neg hnb, if_neg, exp_of h.le h.eq h.m3 (by have := h.any; simpa using this), List.append_assoc]
    cases ra
    · simp [hdB]
    · simp only [if_true]; rw [show hdB isDot (c :: (es ++ X3)) = isDot c from rfl, (exp_dg h.le).2]; simp
  · have hr := md_runD (X := X1) (t := 46 :: X2 ++ if ra then c :: (es ++ X3) else []) h.m1 (off_dot _)
    simp only [if_true]
    rw [hr.1, hr.2, if_neg hnb, if_pos (show hdB isDot (46 :: X2 ++ _) = true from rfl)]
    rw [List.cons_append, List.tail_cons]
    have hr2 := md_runD (h.m2 rfl) hT2
    rw [hr2.1, hr2.2, if_neg (low_ne (h.m2 rfl)), exp_of h.le h.eq h.m3 rfl]
    simp only [List.append_assoc, List.cons_append]
theorem sig_split (t : List UInt8) : ∃ es, t = es ++ behR t ∧ (es = [] ∨ es = [43] ∨ es = [45]) := by
  unfold behR
  cases t with
  | nil => exact ⟨[], rfl, .inl rfl⟩
  | cons c r =>
    cases h : isSig c
    · rw [show hdB isSig (c :: r) = false from h]; exact ⟨[], rfl, .inl rfl⟩
    · rw [show hdB isSig (c :: r) = true from h]
      refine ⟨[c], rfl, .inr ?_⟩
      unfold isSig at h
      rw [Bool.or_eq_true, beq_iff_eq, beq_iff_eq] at h
      rcases h with rfl | rfl
      · exact .inl rfl
      · exact .inr rfl
/-- The ways in which the exponent's part goes. -/
theorem exp_ways (sg : List UInt8) (more : Bool) (T : List UInt8) : expR sg more T = ([], 3) ∨ (T = [] ∧ more = true) ∨ ∃ c es X3, T = c :: (es ++ X3) ∧ isExp c = true ∧ (es = [] ∨ es = [43] ∨ es = [45]) ∧ MD X3 := by
  by_cases he : hdB isExp T = true
  · cases T with
    | nil => cases he
    | cons c t =>
      rw [expR_cons sg more he]
      by_cases h1 : runD (behR t) = []
      · left; rw [if_pos h1]
      · rw [if_neg h1]
        by_cases h2 : restR (behR t) ≠ []
        · left; rw [if_pos h2]
        · right; right
          have hm := run_md h1
          have hx : behR t = (behR t).take (runE false (behR t)) := by
            have h3 : restR (behR t) = [] := Classical.byContradiction h2
            unfold restR at h3
            conv => lhs; rw [← List.take_append_drop (runE false (behR t)) (behR t), h3, List.append_nil]
          rw [← hx] at hm
          obtain ⟨es, h4, h5⟩ : ∃ es, t = es ++ behR t ∧ (es = [] ∨ es = [43] ∨ es = [45]) := sig_split t
          exact ⟨c, es, behR t, by rw [← h4], he, h5, hm⟩
  · unfold expR
    rw [if_neg he]
    by_cases h1 : T ≠ [] ∨ more = false
    · left; rw [if_pos h1]
    · right; left
      exact ⟨Classical.byContradiction fun e => h1 (.inl e), by cases more; exact absurd (.inr rfl) h1; rfl⟩
theorem ref_ways (l : List UInt8) (h1 : behR l ≠ infL) (h2 : behR l ≠ nanL) : fltR l = ([], 3) ∨ ∃ sg X1 pt X2 ra c es X3, Fm l sg X1 pt X2 ra c es X3 := by
  obtain ⟨sg, hl, hsq⟩ := sig_split l
  unfold fltR
  rw [if_neg h1, if_neg h2]
  by_cases hb : runD (behR l) = [] ∨ (1 < (runD (behR l)).length ∧ (runD (behR l)).head? = some 48)
  · left; rw [if_pos hb]
  · rw [if_neg hb]
    have m1 := run_md (fun e => hb (.inl e))
    have e1 : behR l = (behR l).take (runE false (behR l)) ++ restR (behR l) := (List.take_append_drop _ _).symm
    generalize hX : (behR l).take (runE false (behR l)) = X1 at m1 e1
    have hlow : runD (behR l) = lowless X1 := by unfold runD; rw [hX]
    have nb : ¬ (1 < X1.length ∧ X1.head? = some 48) := by
      rintro ⟨n1, n2⟩
      refine hb (.inr ?_)
      rw [hlow]
      obtain ⟨c, r, g1, _, g3⟩ := low_head m1
      refine ⟨md_len m1 n1, ?_⟩
      rw [g1, ← n2, g3]; rfl
    by_cases hd : hdB isDot (restR (behR l)) = true
    · rw [if_pos hd]
      by_cases hp : runD (restR (behR l)).tail = []
      · left; rw [if_pos hp]
      · rw [if_neg hp]
        have m2 := run_md hp
        have e2 : (restR (behR l)).tail = (restR (behR l)).tail.take (runE false (restR (behR l)).tail) ++ restR (restR (behR l)).tail := (List.take_append_drop _ _).symm
        generalize (restR (behR l)).tail.take (runE false (restR (behR l)).tail) = X2 at m2 e2
        have e3 : restR (behR l) = 46 :: (restR (behR l)).tail := by
          cases e : restR (behR l) with
          | nil => rw [e] at hd; cases hd
          | cons c r =>
            rw [e] at hd
            have : isDot c = true := hd
            unfold isDot at this
            rw [beq_iff_eq] at this
            rw [this]; rfl
        rcases exp_ways (signR l ++ (runD (behR l) ++ (46 :: runD (restR (behR l)).tail))) true (restR (restR (behR l)).tail) with g | ⟨g, _⟩ | ⟨c, es, X3, g1, g2, g3, g4⟩
        · left; exact g
        · right
          refine ⟨sg, X1, true, X2, false, 101, [], [], ?_, hsq, m1, nb, fun _ => m2, fun e => (by cases e), by decide, .inl rfl, fun e => (by cases e), fun _ => ⟨rfl, rfl⟩, rfl⟩
          rw [hl]; conv => lhs; rw [e1, e3, e2, g]
          simp
        · right
          refine ⟨sg, X1, true, X2, true, c, es, X3, ?_, hsq, m1, nb, fun _ => m2, fun e => (by cases e), g2, g3, fun _ => g4, fun e => (by cases e), rfl⟩
          rw [hl]; conv => lhs; rw [e1, e3, e2, g1]
          simp
    · rw [if_neg hd]
      rcases exp_ways (signR l ++ runD (behR l)) false (restR (behR l)) with g | ⟨_, g⟩ | ⟨c, es, X3, g1, g2, g3, g4⟩
      · left; exact g
      · cases g
      · right
        refine ⟨sg, X1, false, [], true, c, es, X3, ?_, hsq, m1, nb, fun e => (by cases e), fun _ => rfl, g2, g3, fun _ => g4, fun e => (by cases e), rfl⟩
        rw [hl]; conv => lhs; rw [e1, g1]
        simp
/-- Another base's text is no decimal's. -/
theorem readD_0x {x : UInt8} (hx : x = 120 ∨ x = 111 ∨ x = 98) (t : List UInt8) : readD (48 :: x :: t) = ([], 3) := by
  have hd : dgB x = false ∧ isDot x = false ∧ isExp x = false := by rcases hx with rfl | rfl | rfl <;> decide
  have h1 : l1 (48 :: x :: t) = 48 :: x :: t := rfl
  have h2 : l2 (48 :: x :: t) = x :: t := by
    unfold l2; rw [h1, List.dropWhile_cons_of_pos (by decide), List.dropWhile_cons_of_neg (by rw [hd.1]; simp)]
  have h3 : l3 (48 :: x :: t) = x :: t := by
    unfold l3; rw [h2, one, show hdB isDot (x :: t) = false from hd.2.1]; rfl
  have h4 : l4 (48 :: x :: t) = x :: t := by
    unfold l4 partL; rw [h2, h3, show hdB isDot (x :: t) = false from hd.2.1]; rfl
  have h5 : l5 (48 :: x :: t) = x :: t := by
    unfold l5; rw [h4, one, show hdB isExp (x :: t) = false from hd.2.2]; rfl
  have h6 : l6 (48 :: x :: t) = x :: t := by
    unfold l6 signL; rw [h4, h5, show hdB isExp (x :: t) = false from hd.2.2]; rfl
  have h7 : l7 (48 :: x :: t) = x :: t := by
    unfold l7 powerL; rw [h4, h6, show hdB isExp (x :: t) = false from hd.2.2]; rfl
  unfold readD okW
  rw [h7]
  simp
theorem way_ten {b : List UInt8} (h : (wayI b).1 = 10) : ∃ sg m X, b = sg ++ X ∧ (sg = [] ∨ sg = [43] ∨ sg = [45]) ∧ wayI b = (10, m, X) := by
  unfold wayI at h ⊢
  split at h
  · cases h
  · rename_i c1
    split at h
    · cases h
    · rename_i c2
      split at h
      · cases h
      · rename_i c3
        rw [if_neg c1, if_neg c2, if_neg c3]
        split
        · rename_i e
          cases b with
          | nil => cases e
          | cons c r => injection e with e; subst e; exact ⟨[43], false, r, rfl, .inr (.inl rfl), rfl⟩
        · split
          · rename_i e
            cases b with
            | nil => cases e
            | cons c r => injection e with e; subst e; exact ⟨[45], true, r, rfl, .inr (.inr rfl), rfl⟩
          · exact ⟨[], false, b, rfl, .inl rfl, rfl⟩
theorem way_other {b : List UInt8} (h : (wayI b).1 ≠ 10) : ∃ x r, b = 48 :: x :: r ∧ (x = 120 ∨ x = 111 ∨ x = 98) := by
  have g : ∀ x : UInt8, b.take 2 = [48, x] → ∃ r, b = 48 :: x :: r := by
    intro x e
    cases b with
    | nil => cases e
    | cons c r =>
      cases r with
      | nil => simp at e
      | cons d k =>
        simp only [List.take_succ_cons, List.take_zero, List.cons.injEq, and_true] at e
        exact ⟨k, by rw [e.1, e.2]⟩
  unfold wayI at h
  split at h
  · rename_i e; obtain ⟨r, hr⟩ := g _ e; exact ⟨_, r, hr, .inl rfl⟩
  · split at h
    · rename_i e; obtain ⟨r, hr⟩ := g _ e; exact ⟨_, r, hr, .inr (.inl rfl)⟩
    · split at h
      · rename_i e; obtain ⟨r, hr⟩ := g _ e; exact ⟨_, r, hr, .inr (.inr rfl)⟩
      · split at h
        · exact absurd rfl h
        · split at h <;> exact absurd rfl h
theorem acc_ways (l : List UInt8) (h : accP l = true) : readD (trimP (lowless l)) = ([], 3) ∨ ∃ sg X1 pt X2 ra c es X3, Fm l sg X1 pt X2 ra c es X3 := by
  unfold accP at h
  have iE := cut_inv isExp l
  have iD := cut_inv isDot (cutL isExp l).1
  generalize cutL isExp l = A at h iE iD
  generalize cutL isDot A.1 = B at h iD
  obtain ⟨A1, A2, ra⟩ := A
  obtain ⟨B1, B2, pt⟩ := B
  simp only at h iE iD
  rw [Bool.and_eq_true, Bool.and_eq_true, Bool.and_eq_true] at h
  obtain ⟨hany, h3, hdg, hpw⟩ := h
  have h3 := of_decide_eq_true h3
  -- the text, as it is cut
  obtain ⟨c, hc, hl⟩ : ∃ c, isExp c = true ∧ l = A1 ++ (if ra then c :: A2 else []) := by
    rcases iE with ⟨rfl, e, _, _⟩ | ⟨rfl, c, e, hc, _⟩
    · exact ⟨101, by decide, by rw [e]; simp⟩
    · exact ⟨c, hc, e⟩
  have hA2 : ra = false → A2 = [] := fun e => by
    rcases iE with ⟨_, _, e2, _⟩ | ⟨e2, _⟩
    · exact e2
    · rw [e] at e2; cases e2
  have hA1 : A1 = B1 ++ (if pt then 46 :: B2 else []) := by
    rcases iD with ⟨rfl, e, _, _⟩ | ⟨rfl, d, e, hd, _⟩
    · rw [e]; simp
    · have : d = 46 := by unfold isDot at hd; simpa using hd
      rw [this] at e; exact e
  have hB2 : pt = false → B2 = [] := fun e => by
    rcases iD with ⟨_, _, e2, _⟩ | ⟨e2, _⟩
    · exact e2
    · rw [e] at e2; cases e2
  by_cases hq : (wayI B1).1 = 10
  · right
    obtain ⟨sg, m, X, e1, e2, e3⟩ := way_ten hq
    unfold readI at h3
    rw [e3] at h3
    obtain ⟨m1, nb⟩ := not3_md h3
    have m2 : pt = true → MD B2 := fun e => by
      subst e
      exact (md_iff B2).1 (by simpa using hdg)
    obtain ⟨es, g1, g2⟩ := sig_split A2
    have m3 : ra = true → MD (behR A2) := fun e => by
      subst e
      exact (md_iff _).1 (by have : powF A2 = true := by simpa using hpw
                             exact this)
    refine ⟨sg, X, pt, B2, ra, c, if ra then es else [], if ra then behR A2 else [], ?_, e2, m1, nb, m2, hB2, hc, ?_, fun e => by rw [e]; exact m3 e, fun e => by rw [e]; exact ⟨rfl, rfl⟩, hany⟩
    · rw [hl, hA1, e1]
      cases ra
      · simp
      · simp only [if_true]
        rw [← g1]
        simp
    · cases ra
      · exact .inl rfl
      · exact g2
  · left
    obtain ⟨x, r, e1, hx⟩ := way_other hq
    have h95 : x ≠ 95 := by rcases hx with rfl | rfl | rfl <;> decide
    rw [hl, hA1, e1, List.cons_append, List.cons_append, List.cons_append, List.cons_append, low_cons (by decide), low_cons h95]
    unfold trimP
    rw [if_neg (by intro e; cases e)]
    exact readD_0x hx _
theorem drop_sig {l : List UInt8} (h : sgN l < 2) : l.dropWhile isSig = behR l := by
  unfold sgN at h
  unfold behR
  cases l with
  | nil => rfl
  | cons c r =>
    cases hc : isSig c
    · rw [show hdB isSig (c :: r) = false from hc, List.dropWhile_cons_of_neg (by rw [hc]; simp)]; rfl
    · rw [show hdB isSig (c :: r) = true from hc, List.dropWhile_cons_of_pos hc]
      rw [List.takeWhile_cons_of_pos hc] at h
      cases r with
      | nil => rfl
      | cons d k =>
        cases hd : isSig d
        · rw [List.dropWhile_cons_of_neg (by rw [hd]; simp)]; rfl
        · rw [List.takeWhile_cons_of_pos hd] at h; simp only [List.length_cons] at h; omega
theorem sgN_beh {l t : List UInt8} (h : behR l = t) (ht : hdB isSig t = false) : sgN l < 2 := by
  unfold sgN
  unfold behR at h
  cases l with
  | nil => simp
  | cons c r =>
    cases hc : isSig c
    · rw [List.takeWhile_cons_of_neg (by rw [hc]; simp)]; simp
    · rw [show hdB isSig (c :: r) = true from hc] at h
      have h : r = t := h
      rw [List.takeWhile_cons_of_pos hc, h]
      cases t with
      | nil => simp
      | cons d k => rw [List.takeWhile_cons_of_neg (by rw [show isSig d = false from ht]; simp)]; simp
/-- The program and the reference read the same. -/
theorem flt_eq (l : List UInt8) : fltP l = fltR l := by
  by_cases h1 : behR l = infL
  · have hn := sgN_beh h1 (by decide)
    have hs : specL l = signR l ++ infL := by
      unfold specL
      rw [drop_sig hn, if_pos h1]
      unfold signR
      obtain ⟨es, g1, g2⟩ := sig_split l
      rw [h1] at g1
      rcases g2 with rfl | rfl | rfl <;> (rw [g1]; rfl)
    unfold fltP fltR
    rw [hs, if_pos h1, if_pos ⟨by unfold infL; simp, hn⟩]
  · by_cases h2 : behR l = nanL
    · have hn := sgN_beh h2 (by decide)
      have hs : specL l = nanL := by
        unfold specL
        rw [drop_sig hn, if_neg h1, if_pos h2]
      unfold fltP fltR
      rw [hs, if_neg h1, if_pos h2, if_pos ⟨by unfold nanL; simp, hn⟩]
    · have hsp : ¬ (specL l ≠ [] ∧ sgN l < 2) := by
        rintro ⟨e1, e2⟩
        apply e1
        unfold specL
        rw [drop_sig e2, if_neg h1, if_neg h2]
      have hP : fltP l = if accP l = true then readD (trimP (lowless l)) else ([], 3) := by unfold fltP; rw [if_neg hsp]
      have hF : ∀ {sg X1 pt X2 ra c es X3}, Fm l sg X1 pt X2 ra c es X3 → fltP l = fltR l := fun h => by
        rw [hP, if_pos h.acc, h.text, h.ref, readD_S, readD_S, form_parts (h.ok _ h.le), form_parts (h.ok 101 (by decide))]
      rcases ref_ways l h1 h2 with g | ⟨_, _, _, _, _, _, _, _, g⟩
      · by_cases ha : accP l = true
        · rcases acc_ways l ha with k | ⟨_, _, _, _, _, _, _, _, k⟩
          · rw [hP, if_pos ha, k, g]
          · exact hF k
        · rw [hP, if_neg ha, g]
      · exact hF g

end Go.Proofs.YtncldnghhpdolaaGreatDoor
