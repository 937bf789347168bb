/- Plain laws on how decimals are written; lists and numbers alone: no statement of the seat is proved here. -/
import Derived.Test.YtncldnghhpdolaaGreatDoorDcV
namespace Go.Proofs.YtncldnghhpdolaaGreatDoor

/-- A number's text, by its parts, and what stands behind it. -/
def formL (m : Bool) (wh : List UInt8) (pt : Bool) (pa : List UInt8) (ra : Bool) (lt : UInt8) (sg po rest : List UInt8) : List UInt8 :=
  (if m then [45] else []) ++ (wh ++ ((if pt then 46 :: pa else []) ++ ((if ra then lt :: (sg ++ po) else []) ++ rest)))
structure FormOk (wh : List UInt8) (pt : Bool) (pa : List UInt8) (ra : Bool) (lt : UInt8) (sg po rest : List UInt8) : Prop where
  wd : ∀ c ∈ wh, dgB c = true
  wn : wh ≠ []
  pd : ∀ c ∈ pa, dgB c = true
  pn : pt = false → pa = []
  le : isExp lt = true
  sq : sg = [] ∨ sg = [43] ∨ sg = [45]
  od : ∀ c ∈ po, dgB c = true
  on : ra = true → po ≠ []
  of : ra = false → sg = [] ∧ po = [] ∧ rest = []
  rd : hdB dgB rest = false
theorem exp_dg {c : UInt8} (h : isExp c = true) : dgB c = false ∧ isDot c = false := by
  unfold isExp at h
  rw [Bool.or_eq_true, beq_iff_eq, beq_iff_eq] at h
  rcases h with rfl | rfl <;> decide
theorem form_parts {m : Bool} {wh : List UInt8} {pt : Bool} {pa : List UInt8} {ra : Bool} {lt : UInt8} {sg po rest : List UInt8} (h : FormOk wh pt pa ra lt sg po rest) :
    sW (formL m wh pt pa ra lt sg po rest) = ⟨m, wh, pa, sg, po, pt, ra, rest⟩ := by
  obtain ⟨l, hl⟩ : ∃ l, formL m wh pt pa ra lt sg po rest = l := ⟨_, rfl⟩
  rw [hl]
  obtain ⟨X, hX⟩ : ∃ X, (if ra then lt :: (sg ++ po) else []) ++ rest = X := ⟨_, rfl⟩
  obtain ⟨Y, hY⟩ : ∃ Y, (if pt then 46 :: pa else []) ++ X = Y := ⟨_, rfl⟩
  have hl' : l = (if m then [45] else []) ++ (wh ++ Y) := by rw [← hl, formL, hX, hY]
  have hXd : hdB dgB X = false ∧ hdB isDot X = false ∧ hdB isExp X = ra := by
    rw [← hX]
    cases ra
    · obtain ⟨_, _, e⟩ := h.of rfl
      rw [e]; exact ⟨rfl, rfl, rfl⟩
    · obtain ⟨e1, e2⟩ := exp_dg h.le
      exact ⟨e1, e2, h.le⟩
  have hYd : hdB dgB Y = false ∧ hdB isDot Y = pt := by
    rw [← hY]
    cases pt
    · exact ⟨hXd.1, hXd.2.1⟩
    · exact ⟨rfl, rfl⟩
  have hm : hdB isMin l = m := by
    rw [hl']
    cases m
    · exact hd_dg (fun _ => dg_min) h.wd h.wn _
    · rfl
  have e1 : l1 l = wh ++ Y := by rw [l1, one, hm, hl']; cases m <;> rfl
  obtain ⟨e2, e3⟩ := tw_app (p := dgB) (m := Y) h.wd hYd.1
  have hw : wholeL l = wh := by rw [wholeL, e1, e2]
  have e4 : l2 l = Y := by rw [l2, e1, e3]
  have hp : hdB isDot (l2 l) = pt := by rw [e4]; exact hYd.2
  have e5 : l3 l = pa ++ X := by
    rw [l3, one, hp, e4, ← hY]
    cases pt
    · rw [h.pn rfl]; rfl
    · rfl
  obtain ⟨f1, f2⟩ := tw_app (p := dgB) (m := X) h.pd hXd.1
  have e6 : partL l = pa := by
    rw [partL, hp]
    cases pt
    · rw [h.pn rfl]; rfl
    · rw [if_pos rfl, e5, f1]
  have e7 : l4 l = X := by rw [l4, e6, e5]; simp
  have hx : hdB isExp (l4 l) = ra := by rw [e7]; exact hXd.2.2
  have e8 : l5 l = sg ++ (po ++ rest) := by
    rw [l5, one, hx, e7, ← hX]
    cases ra
    · obtain ⟨a, b, c⟩ := h.of rfl
      rw [a, b, c]; rfl
    · simp
  have e9 : signL l = sg := by
    rw [signL, hx, e8]
    cases ra
    · rw [(h.of rfl).1]; rfl
    · rw [if_pos rfl]
      rcases h.sq with rfl | rfl | rfl
      · have : hdB isSig ([] ++ (po ++ rest)) = false := hd_dg (fun _ => dg_sig) h.od (h.on rfl) _
        rw [one, this]; rfl
      · rfl
      · rfl
  have e10 : l6 l = po ++ rest := by rw [l6, e9, e8]; simp
  obtain ⟨g1, g2⟩ := tw_app (p := dgB) (m := rest) h.od h.rd
  have e11 : powerL l = po := by
    rw [powerL, hx, e10]
    cases ra
    · rw [(h.of rfl).2.1]; rfl
    · rw [if_pos rfl, g1]
  have e12 : l7 l = rest := by rw [l7, e11, e10]; simp
  unfold sW
  rw [hm, hw, e6, e9, e11, hp, hx, e12]
theorem form_ok {m : Bool} {wh : List UInt8} {pt : Bool} {pa : List UInt8} {ra : Bool} {lt : UInt8} {sg po rest : List UInt8} (h : FormOk wh pt pa ra lt sg po rest) :
    okW (formL m wh pt pa ra lt sg po rest) = (!badW wh && (rest.isEmpty && (pt == !pa.isEmpty) && (ra == !po.isEmpty))) := by
  have hs := form_parts (m := m) h
  have e1 : wholeL _ = wh := congrArg Wr.whole hs
  have e2 : l7 _ = rest := congrArg Wr.rest hs
  have e3 : hdB isDot (l2 _) = pt := congrArg Wr.point hs
  have e4 : partL _ = pa := congrArg Wr.part hs
  have e5 : hdB isExp (l4 _) = ra := congrArg Wr.raised hs
  have e6 : powerL _ = po := congrArg Wr.power hs
  unfold okW
  rw [e1, e2, e3, e4, e5, e6]
/-- The written exponent. -/
def expP (sg po : List UInt8) : Int := if sg = [45] then -((natV 0 po : Nat) : Int) else ((natV 0 po : Nat) : Int)
theorem numD_in {n : Int} {e : Int} (hn : -1099511627776 ≤ n ∧ n ≤ 1099511627776) (he : -900000000 ≤ e ∧ e ≤ 900000000) : inB (numD n e).exp = true := by
  rw [inB_t]
  unfold numD
  rcases Nat.eq_zero_or_pos n.natAbs with h | h
  · rw [h, nrm_zero]; simp [Dm.zero]
  · obtain ⟨z, d, p1, p2, p3, p4, p5, p6⟩ := nrm_pos h (decide (n < 0)) e
    rw [p6]
    have h1 := congrArg List.length p1
    rw [List.length_append, List.length_replicate] at h1
    have h2 := Lib.itoa_length_le (n.natAbs : Int) (by omega) (by omega)
    rw [Lib.itoa_nonneg] at h2
    show -1000000000 ≤ e + (z : Int) ∧ e + (z : Int) ≤ 1000000000
    omega
theorem numD_norm {n : Int} {e : Int} (hn : -1099511627776 ≤ n ∧ n ≤ 1099511627776) (he : -900000000 ≤ e ∧ e ≤ 900000000) : Norm (numD n e) :=
  norm_normal (dec_dg _) (numD_in hn he)
/-- What is read of a number that is written in this form. -/
theorem form_read {n : Int} {wh : List UInt8} {pt : Bool} {pa : List UInt8} {ra : Bool} {lt : UInt8} {sg po : List UInt8} (h : FormOk wh pt pa ra lt sg po []) (hb : badW wh = false) (hp : pt = !pa.isEmpty) (ho : ra = !po.isEmpty)
    (hn : -1099511627776 ≤ n ∧ n ≤ 1099511627776) (hv : natV 0 (wh ++ pa) = n.natAbs) (hx : -800000000 ≤ expP sg po ∧ expP sg po ≤ 800000000) (hl : pa.length ≤ 1000) :
    readD (formL (decide (n < 0)) wh pt pa ra lt sg po []) = ((numD n (expP sg po - pa.length)).text, 0) := by
  have hs := form_parts (m := decide (n < 0)) h
  have hok := form_ok (m := decide (n < 0)) h
  rw [hb, ← hp, ← ho] at hok
  have hok : okW (formL (decide (n < 0)) wh pt pa ra lt sg po []) = true := by rw [hok]; simp
  have hd : dW (sW (formL (decide (n < 0)) wh pt pa ra lt sg po [])) = numD n (expP sg po - pa.length) := by
    rw [hs]
    show normalD (decide (n < 0)) (wh ++ pa) (expP sg po - (pa.length : Int)) = _
    rw [norm_val (fun c hc => by
      rcases List.mem_append.1 hc with hc | hc
      · exact h.wd c hc
      · exact h.pd c hc), hv]
    rfl
  have hg : goodL (formL (decide (n < 0)) wh pt pa ra lt sg po []) = true := by
    unfold goodL
    rw [hd, numD_in hn (by omega), Bool.and_true, hs]
    show inB (expP sg po) = true
    rw [inB_t]; omega
  rw [readD, hok, hg, hd]; rfl
/-- An exponent as Itoa writes it. -/
theorem itoa_form (e : Int) : ∃ sg po, Lib.itoa e = sg ++ po ∧ (sg = [] ∨ sg = [43] ∨ sg = [45]) ∧ (∀ c ∈ po, dgB c = true) ∧ po ≠ [] ∧ expP sg po = e := by
  rcases itoa_cases e with ⟨q, h⟩ | ⟨q, h⟩
  · refine ⟨[45], Lib.decDigits e.natAbs, h, .inr (.inr rfl), dec_dg _, dec_ne _, ?_⟩
    rw [expP, if_pos rfl, natV_dec]; omega
  · refine ⟨[], Lib.decDigits e.natAbs, h, .inl rfl, dec_dg _, dec_ne _, ?_⟩
    rw [expP, if_neg (by simp), natV_dec]; omega

/-- Noughts ahead, till there are more bytes than so many. -/
def padL (d : List UInt8) (k : Nat) : List UInt8 := List.replicate (k + 1 - d.length) 48 ++ d
theorem padL_len (d : List UInt8) (k : Nat) : k < (padL d k).length := by unfold padL; rw [List.length_append, List.length_replicate]; omega
/-- A number with so many numerals behind the point. -/
def smallP (n k : Nat) : List UInt8 := if k = 0 then Lib.decDigits n else (padL (Lib.decDigits n) k).take ((padL (Lib.decDigits n) k).length - k) ++ 46 :: (padL (Lib.decDigits n) k).drop ((padL (Lib.decDigits n) k).length - k)
def smallL (n : Int) (k : Nat) : List UInt8 := (if n < 0 then [45] else []) ++ smallP n.natAbs k
theorem natV_pad (n k : Nat) : natV 0 (padL (Lib.decDigits n) k) = n := by
  unfold padL
  rw [natV_app, natV_rep, Nat.zero_mul, natV_dec]
theorem pad_dg (n k : Nat) : ∀ c ∈ padL (Lib.decDigits n) k, dgB c = true := by
  intro c hc
  rcases List.mem_append.1 hc with hc | hc
  · rw [List.eq_of_mem_replicate hc]; rfl
  · exact dec_dg n c hc
theorem dec_bad (n : Nat) : badW (Lib.decDigits n) = false := by
  rcases Nat.eq_zero_or_pos n with h | h
  · subst h; rw [dec_zero]; decide
  · have h1 := dec_head h
    unfold badW
    cases e : Lib.decDigits n with
    | nil => exact absurd e (dec_ne n)
    | cons a t => rw [e] at h1; simp [hdB] at h1 ⊢; intro _; exact h1
theorem small_form (n : Int) (k : Nat) (ra : Bool) (lt : UInt8) (sg po : List UInt8) (hlt : isExp lt = true) (hsg : sg = [] ∨ sg = [43] ∨ sg = [45]) (hod : ∀ c ∈ po, dgB c = true) (hon : ra = true → po ≠ []) (hof : ra = false → sg = [] ∧ po = []) :
    ∃ wh pt pa, FormOk wh pt pa ra lt sg po [] ∧ badW wh = false ∧ pt = !pa.isEmpty ∧ natV 0 (wh ++ pa) = n.natAbs ∧ pa.length = k ∧ smallL n k ++ (if ra then lt :: (sg ++ po) else []) = formL (decide (n < 0)) wh pt pa ra lt sg po [] := by
  by_cases hk : k = 0
  · subst hk
    refine ⟨Lib.decDigits n.natAbs, false, [], ⟨dec_dg _, dec_ne _, by simp, fun _ => rfl, hlt, hsg, hod, hon, fun h => ⟨(hof h).1, (hof h).2, rfl⟩, rfl⟩, dec_bad _, rfl, by rw [List.append_nil, natV_dec], rfl, ?_⟩
    unfold smallL smallP formL
    rw [if_pos rfl]
    by_cases h : n < 0
    · rw [if_pos h, decide_eq_true h]; simp
    · rw [if_neg h, decide_eq_false h]; simp
  · have hl := padL_len (Lib.decDigits n.natAbs) k
    obtain ⟨P, hP⟩ : ∃ P, padL (Lib.decDigits n.natAbs) k = P := ⟨_, rfl⟩
    have hd := pad_dg n.natAbs k
    have hv := natV_pad n.natAbs k
    rw [hP] at hl hd hv
    have hpl : (P.drop (P.length - k)).length = k := by rw [List.length_drop]; omega
    have hwl : (P.take (P.length - k)).length = P.length - k := by rw [List.length_take]; omega
    refine ⟨P.take (P.length - k), true, P.drop (P.length - k), ⟨fun c hc => hd c (List.mem_of_mem_take hc), ?_, fun c hc => hd c (List.mem_of_mem_drop hc), fun h => (by cases h), hlt, hsg, hod, hon, fun h => ⟨(hof h).1, (hof h).2, rfl⟩, rfl⟩, ?_, ?_, by rw [List.take_append_drop, hv], hpl, ?_⟩
    · intro q; rw [q] at hwl; simp at hwl; omega
    · by_cases hpd : (Lib.decDigits n.natAbs).length ≤ k
      · have : P.length = k + 1 := by rw [← hP, padL, List.length_append, List.length_replicate]; omega
        rw [badW, hwl]
        have h1 : (P.take (P.length - k)).isEmpty = false := by
          cases e : P.take (P.length - k) with
          | nil => rw [e] at hwl; simp at hwl; omega
          | cons a t => rfl
        rw [h1, decide_eq_false (by omega)]; rfl
      · have hPd : P = Lib.decDigits n.natAbs := by rw [← hP, padL, show k + 1 - (Lib.decDigits n.natAbs).length = 0 by omega]; rfl
        have hn : 0 < n.natAbs := by
          rcases Nat.eq_zero_or_pos n.natAbs with h | h
          · rw [h, dec_zero] at hpd; simp at hpd; omega
          · exact h
        have hh := dec_head hn
        rw [← hPd] at hh
        unfold badW
        cases e : P with
        | nil => rw [e] at hl; simp at hl
        | cons a t =>
          rw [e] at hh hwl hl
          obtain ⟨j, hj⟩ : ∃ j, (a :: t).length - k = j + 1 := ⟨(a :: t).length - k - 1, by omega⟩
          rw [hj, List.take_succ_cons]
          simp [hdB] at hh ⊢
          intro _; exact hh
    · cases e : P.drop (P.length - k) with
      | nil => rw [e] at hpl; simp at hpl; omega
      | cons a t => rfl
    · unfold smallL smallP formL
      rw [if_neg hk, hP]
      by_cases h : n < 0
      · rw [if_pos h, decide_eq_true h]; simp
      · rw [if_neg h, decide_eq_false h]; simp
theorem small_read (n : Int) (k : Nat) (hn : -1099511627776 ≤ n ∧ n ≤ 1099511627776) (hk : k ≤ 1000) : readD (smallL n k) = ((numD n (-(k : Int))).text, 0) := by
  obtain ⟨wh, pt, pa, h1, h2, h3, h4, h5, h6⟩ := small_form n k false 101 [] [] rfl (.inl rfl) (by simp) (by simp) (fun _ => ⟨rfl, rfl⟩)
  have := form_read (n := n) h1 h2 h3 rfl hn h4 (by simp [expP, natV_nil]) (by omega)
  rw [← h6] at this
  simp only [Bool.false_eq_true, if_false, List.append_nil] at this
  rw [this, h5]
  have e : expP [] [] - (k : Int) = -(k : Int) := by simp [expP, natV_nil]
  rw [e]
theorem small_read_exp (n e : Int) (k : Nat) (hn : -1099511627776 ≤ n ∧ n ≤ 1099511627776) (hk : k ≤ 1000) (he : -800000 ≤ e ∧ e ≤ 800000) : readD (smallL n k ++ 101 :: Lib.itoa e) = ((numD n (e - k)).text, 0) := by
  obtain ⟨sg, po, p1, p2, p3, p4, p5⟩ := itoa_form e
  obtain ⟨wh, pt, pa, h1, h2, h3, h4, h5, h6⟩ := small_form n k true 101 sg po rfl p2 p3 (fun _ => p4) (by simp)
  have hpo : true = !po.isEmpty := by
    cases po with
    | nil => exact absurd rfl p4
    | cons a t => rfl
  have := form_read (n := n) h1 h2 h3 hpo hn h4 (by rw [p5]; omega) (by omega)
  rw [← h6] at this
  simp only [if_true] at this
  rw [p1, this, h5, p5]

end Go.Proofs.YtncldnghhpdolaaGreatDoor
