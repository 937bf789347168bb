/- Plain laws on decimals: a normal form is its own; lists and numbers alone: no statement of the seat is proved here. -/
import Derived.Test.YtncldnghhpdolaaGreatDoorDcP
namespace Go.Proofs.YtncldnghhpdolaaGreatDoor

theorem tw_all {p : UInt8 → Bool} {l : List UInt8} : ∀ c ∈ l.takeWhile p, p c = true := by
  induction l with
  | nil => simp
  | cons a t ih =>
    rw [List.takeWhile_cons]
    split
    · rename_i h
      intro c hc
      rcases List.mem_cons.1 hc with rfl | hc
      · exact h
      · exact ih c hc
    · simp
theorem tw_app {p : UInt8 → Bool} : ∀ {l m : List UInt8}, (∀ c ∈ l, p c = true) → hdB p m = false → (l ++ m).takeWhile p = l ∧ (l ++ m).dropWhile p = m
  | [], [], _, _ => ⟨rfl, rfl⟩
  | [], c :: t, _, h => by simp only [hdB] at h; simp [h]
  | a :: l, m, h1, h2 => by
    have ha := h1 a (by simp)
    obtain ⟨g1, g2⟩ := tw_app (p := p) (l := l) (m := m) (fun c hc => h1 c (by simp [hc])) h2
    simp [ha, g1, g2]
theorem lstrip_head (l : List UInt8) : (lstrip l).head? ≠ some 48 := by
  induction l with
  | nil => simp [lstrip]
  | cons a t ih =>
    unfold lstrip at ih ⊢
    rw [List.dropWhile_cons]
    split
    · exact ih
    · rename_i h
      intro e
      simp at e h
      exact h e
theorem lstrip_mem {l : List UInt8} {c : UInt8} (h : c ∈ lstrip l) : c ∈ l := (List.dropWhile_sublist _).subset h
theorem rstrip_mem {l : List UInt8} {c : UInt8} (h : c ∈ rstrip l) : c ∈ l := by
  unfold rstrip at h
  have := (List.dropWhile_sublist (· == 48) (l := l.reverse)).subset (List.mem_reverse.1 h)
  exact List.mem_reverse.1 this
theorem rstrip_last (l : List UInt8) : (rstrip l).getLast? ≠ some 48 := by
  unfold rstrip
  rw [List.getLast?_reverse]
  exact lstrip_head _
theorem rstrip_app (a b : List UInt8) : rstrip (a ++ b) = if rstrip b = [] then rstrip a else a ++ rstrip b := by
  unfold rstrip
  rw [List.reverse_append, List.dropWhile_append]
  cases h : List.dropWhile (· == 48) b.reverse with
  | nil => simp
  | cons x t => simp
theorem rstrip_pre (l : List UInt8) : ∃ n, l = rstrip l ++ List.replicate n 48 := by
  induction l with
  | nil => exact ⟨0, rfl⟩
  | cons a t ih =>
    obtain ⟨n, hn⟩ := ih
    have e : rstrip (a :: t) = if rstrip t = [] then rstrip [a] else [a] ++ rstrip t := rstrip_app [a] t
    rw [e]
    split
    · rename_i h
      rw [h] at hn
      by_cases ha : a = 48
      · subst ha
        refine ⟨n + 1, ?_⟩
        show _ = [] ++ _
        rw [List.replicate_succ]; simpa using hn
      · refine ⟨n, ?_⟩
        have : rstrip [a] = [a] := by simp [rstrip, ha]
        rw [this, hn]; simp
    · exact ⟨n, by rw [List.append_assoc, ← hn]; rfl⟩
theorem rstrip_len (l : List UInt8) : (rstrip l).length ≤ l.length := by
  obtain ⟨n, hn⟩ := rstrip_pre l
  have := congrArg List.length hn
  simp at this; omega
theorem lstrip_len (l : List UInt8) : (lstrip l).length ≤ l.length := (List.dropWhile_sublist _).length_le
theorem rstrip_self {l : List UInt8} (h : l.getLast? ≠ some 48) : rstrip l = l := by
  obtain ⟨n, hn⟩ := rstrip_pre l
  cases n with
  | zero => simpa using hn.symm
  | succ n =>
    exfalso; apply h
    rw [hn, List.replicate_succ']
    simp
theorem lstrip_self {l : List UInt8} (h : l.head? ≠ some 48) : lstrip l = l := by
  cases l with
  | nil => rfl
  | cons a t =>
    unfold lstrip
    rw [List.dropWhile_cons, if_neg]
    intro e
    simp at e h
    exact h e
theorem rstrip_head {l : List UInt8} (h : rstrip l ≠ []) : (rstrip l).head? = l.head? := by
  obtain ⟨n, hn⟩ := rstrip_pre l
  cases e : rstrip l with
  | nil => exact absurd e h
  | cons a t => rw [e] at hn; rw [hn]; rfl
theorem lstrip_nil {l : List UInt8} (h : rstrip (lstrip l) = []) : lstrip l = [] := by
  obtain ⟨n, hn⟩ := rstrip_pre (lstrip l)
  rw [h] at hn
  cases n with
  | zero => simpa using hn
  | succ n =>
    exfalso
    apply lstrip_head l
    rw [hn, List.replicate_succ]; rfl
theorem lstrip_pre (l : List UInt8) : ∃ n, l = List.replicate n 48 ++ lstrip l := by
  induction l with
  | nil => exact ⟨0, rfl⟩
  | cons a t ih =>
    obtain ⟨n, hn⟩ := ih
    unfold lstrip
    rw [List.dropWhile_cons]
    split
    · rename_i h
      have : a = 48 := by simpa using h
      subst this
      exact ⟨n + 1, by rw [List.replicate_succ, List.cons_append]; exact congrArg _ hn⟩
    · exact ⟨0, rfl⟩
theorem rstrip_zeros (n : Nat) : rstrip (List.replicate n 48) = [] := by
  induction n with
  | zero => rfl
  | succ n ih => rw [List.replicate_succ']; rw [rstrip_app, if_pos (by decide), ih]
theorem lstrip_zeros (n : Nat) : lstrip (List.replicate n 48) = [] := by
  induction n with
  | zero => rfl
  | succ n ih => rw [List.replicate_succ]; exact ih
theorem lstrip_zapp (n : Nat) (l : List UInt8) : lstrip (List.replicate n 48 ++ l) = lstrip l := by
  induction n with
  | zero => rfl
  | succ n ih => rw [List.replicate_succ, List.cons_append]; exact ih
/-- Stripped at either end first. -/
theorem strips (ds : List UInt8) : lstrip (rstrip ds) = rstrip (lstrip ds) ∧ (rstrip (lstrip ds) ≠ [] → ds.length - (rstrip ds).length = (lstrip ds).length - (rstrip (lstrip ds)).length) := by
  obtain ⟨n, hn⟩ := lstrip_pre ds
  by_cases h : rstrip (lstrip ds) = []
  · have h0 := lstrip_nil h
    rw [h]
    refine ⟨?_, fun q => absurd rfl q⟩
    rw [h0] at hn
    rw [hn, List.append_nil, rstrip_zeros]; rfl
  · have e : rstrip ds = List.replicate n 48 ++ rstrip (lstrip ds) := by
      conv => lhs; rw [hn]
      rw [rstrip_app, if_neg h]
    refine ⟨?_, fun _ => ?_⟩
    · rw [e, lstrip_zapp, lstrip_self]
      rw [rstrip_head h]; exact lstrip_head _
    · rw [e]
      have := congrArg List.length hn
      simp only [List.length_append, List.length_replicate] at this ⊢
      omega

theorem whole_dg (l : List UInt8) : ∀ c ∈ wholeL l, dgB c = true := tw_all
theorem part_dg (l : List UInt8) : ∀ c ∈ partL l, dgB c = true := by
  unfold partL; split
  · exact tw_all
  · simp
theorem power_dg (l : List UInt8) : ∀ c ∈ powerL l, dgB c = true := by
  unfold powerL; split
  · exact tw_all
  · simp
/-- What is read is a normal decimal. -/
theorem norm_normal {m : Bool} {ds : List UInt8} {e : Int} (hd : ∀ c ∈ ds, dgB c = true) (hb : inB (normalD m ds e).exp = true) : Norm (normalD m ds e) := by
  unfold normalD at hb ⊢
  split at hb
  · rename_i h
    rw [if_pos h]
    exact ⟨by simp [Dm.zero], by simp [Dm.zero]; decide, rfl, .inl rfl, .inl rfl⟩
  · rename_i h
    rw [if_neg h]
    refine ⟨h, fun c hc => hd c (lstrip_mem (rstrip_mem hc)), hb, .inr ?_, .inr (rstrip_last _)⟩
    show (rstrip _).head? ≠ _
    rw [rstrip_head h]; exact lstrip_head _
theorem norm_dW {l : List UInt8} (h : goodL l = true) : Norm (dW (sW l)) := by
  unfold goodL at h; rw [Bool.and_eq_true] at h
  refine norm_normal (fun c hc => ?_) h.2
  rcases List.mem_append.1 hc with hc | hc
  · exact whole_dg l c hc
  · exact part_dg l c hc

theorem hd_dg {l : List UInt8} {p : UInt8 → Bool} (hp : ∀ c, dgB c = true → p c = false) (h : ∀ c ∈ l, dgB c = true) (hn : l ≠ []) (m : List UInt8) : hdB p (l ++ m) = false := by
  cases l with
  | nil => exact absurd rfl hn
  | cons c t => exact hp c (h c (by simp))
theorem dg_min {c : UInt8} (h : dgB c = true) : isMin c = false := by
  have := dgB_t.1 h
  simp only [isMin, beq_eq_false_iff_ne]; rintro rfl; simp at this
theorem dg_sig {c : UInt8} (h : dgB c = true) : isSig c = false := by
  have := dgB_t.1 h
  simp only [isSig, Bool.or_eq_false_iff, beq_eq_false_iff_ne]
  constructor <;> rintro rfl <;> simp at this
theorem itoa_cases (n : Int) : (n < 0 ∧ Lib.itoa n = 45 :: Lib.decDigits n.natAbs) ∨ (0 ≤ n ∧ Lib.itoa n = Lib.decDigits n.natAbs) := by
  unfold Lib.itoa
  by_cases h : n < 0
  · rw [if_pos h]; exact .inl ⟨h, rfl⟩
  · rw [if_neg h]; exact .inr ⟨by omega, by rw [show n.toNat = n.natAbs by omega]⟩

/-- How a normal form's text is split. -/
theorem text_parts {d : Dm} (h : Norm d) (hz : d ≠ .zero) :
    sW d.text = ⟨d.minus, d.digits, [], if d.exp < 0 then [45] else [], Lib.decDigits d.exp.natAbs, false, true, []⟩ := by
  have ht : d.text = (if d.minus then [45] else []) ++ (d.digits ++ 101 :: Lib.itoa d.exp) := by rw [Dm.text, if_neg hz]
  have hm : hdB isMin d.text = d.minus := by
    rw [ht]
    cases d.minus
    · exact hd_dg (fun _ => dg_min) h.dg h.ne _
    · rfl
  have e1 : l1 d.text = d.digits ++ 101 :: Lib.itoa d.exp := by
    rw [l1, one, hm, ht]; cases d.minus <;> rfl
  obtain ⟨e2, e3⟩ := tw_app (p := dgB) (m := 101 :: Lib.itoa d.exp) h.dg rfl
  have hw : wholeL d.text = d.digits := by rw [wholeL, e1, e2]
  have e4 : l2 d.text = 101 :: Lib.itoa d.exp := by rw [l2, e1, e3]
  have hp : hdB isDot (l2 d.text) = false := by rw [e4]; rfl
  have e5 : l3 d.text = 101 :: Lib.itoa d.exp := by rw [l3, one, hp, e4]; rfl
  have e6 : partL d.text = [] := by rw [partL, hp]; rfl
  have e7 : l4 d.text = 101 :: Lib.itoa d.exp := by rw [l4, e6, e5]; rfl
  have hx : hdB isExp (l4 d.text) = true := by rw [e7]; rfl
  have e8 : l5 d.text = Lib.itoa d.exp := by rw [l5, one, hx, e7]; rfl
  have hdd := dec_dg d.exp.natAbs
  have hdn := dec_ne d.exp.natAbs
  obtain ⟨f1, f2⟩ := tw_app (p := dgB) (m := []) hdd rfl
  rw [List.append_nil] at f1 f2
  have e9 : signL d.text = (if d.exp < 0 then [45] else []) ∧ l6 d.text = Lib.decDigits d.exp.natAbs := by
    rw [l6, signL, hx, if_pos rfl, e8]
    rcases itoa_cases d.exp with ⟨q, e⟩ | ⟨q, e⟩
    · rw [e, if_pos q]; exact ⟨rfl, rfl⟩
    · rw [e, if_neg (by omega)]
      have : hdB isSig (Lib.decDigits d.exp.natAbs) = false := by
        have := hd_dg (p := isSig) (fun _ => dg_sig) hdd hdn []
        rwa [List.append_nil] at this
      rw [one, this]; exact ⟨rfl, rfl⟩
  have e10 : powerL d.text = Lib.decDigits d.exp.natAbs := by rw [powerL, hx, if_pos rfl, e9.2, f1]
  have e11 : l7 d.text = [] := by rw [l7, e9.2, e10]; simp
  unfold sW
  rw [hm, hw, e6, e9.1, e10, hp, hx, e11]
theorem text_ok {d : Dm} (h : Norm d) : okW d.text = true := by
  by_cases hz : d = .zero
  · subst hz; decide
  · have hs := text_parts h hz
    have e1 : wholeL d.text = d.digits := congrArg Wr.whole hs
    have e2 : l7 d.text = [] := congrArg Wr.rest hs
    have e3 : hdB isDot (l2 d.text) = false := congrArg Wr.point hs
    have e4 : partL d.text = [] := congrArg Wr.part hs
    have e5 : hdB isExp (l4 d.text) = true := congrArg Wr.raised hs
    have e6 : powerL d.text = Lib.decDigits d.exp.natAbs := congrArg Wr.power hs
    have hh := h.hd.resolve_left hz
    have hne := h.ne
    have hdn := dec_ne d.exp.natAbs
    unfold okW badW
    rw [e1, e2, e3, e4, e5, e6]
    cases hd : d.digits with
    | nil => exact absurd hd hne
    | cons a t =>
      rw [hd] at hh
      have ha : (a == 48) = false := by simp at hh; simpa using hh
      simp [hdB, ha, hdn]
theorem exp_sig (n : Int) : (if (if n < 0 then [45] else ([] : List UInt8)) = [45] then -((natV 0 (Lib.decDigits n.natAbs) : Nat) : Int) else ((natV 0 (Lib.decDigits n.natAbs) : Nat) : Int)) = n := by
  rw [natV_dec]
  by_cases h : n < 0
  · rw [if_pos h, if_pos rfl]; omega
  · rw [if_neg h, if_neg (by simp)]; omega
theorem text_exp {d : Dm} (h : Norm d) (hz : d ≠ .zero) : expW (sW d.text) = d.exp := by
  rw [text_parts h hz]; exact exp_sig _
theorem text_dW {d : Dm} (h : Norm d) : dW (sW d.text) = d := by
  by_cases hz : d = .zero
  · subst hz; decide
  · have hx := text_exp h hz
    unfold dW
    rw [hx, text_parts h hz]
    have e1 : lstrip d.digits = d.digits := lstrip_self (h.hd.resolve_left hz)
    have e2 : rstrip d.digits = d.digits := rstrip_self (h.tl.resolve_left hz)
    show normalD d.minus (d.digits ++ []) (d.exp - (0 : Nat)) = d
    rw [List.append_nil, normalD, e1, e2, if_neg h.ne]
    cases d
    simp only [Dm.mk.injEq, true_and]
    omega
theorem text_good {d : Dm} (h : Norm d) : goodL d.text = true := by
  unfold goodL
  rw [text_dW h, h.inb, Bool.and_true]
  by_cases hz : d = .zero
  · subst hz; decide
  · rw [text_exp h hz]; exact h.inb
theorem text_norm {d : Dm} (h : Norm d) : normL d.text = true := by
  unfold normL; rw [text_ok h, text_good h, text_dW h]; simp
theorem text_parse {d : Dm} (h : Norm d) : parseD d.text = some d := by
  unfold parseD; rw [text_norm h, text_dW h]; rfl
theorem text_read {d : Dm} (h : Norm d) : readD d.text = (d.text, 0) := by
  unfold readD; rw [text_ok h, text_good h, text_dW h]; rfl
/-- What is read: a decimal's text, or a code. -/
theorem read_cases (l : List UInt8) : (∃ d, Norm d ∧ readD l = (d.text, 0) ∧ d = dW (sW l)) ∨ (∃ k, readD l = ([], k) ∧ (k = 3 ∨ k = 7)) := by
  unfold readD
  cases okW l
  · exact .inr ⟨3, rfl, .inl rfl⟩
  · cases hg : goodL l
    · exact .inr ⟨7, rfl, .inr rfl⟩
    · exact .inl ⟨_, norm_dW hg, rfl, rfl⟩
theorem parse_nil : parseD [] = none := by decide
theorem parse_some {l : List UInt8} {d : Dm} (h : parseD l = some d) : Norm d ∧ l = d.text := by
  unfold parseD at h
  cases hn : normL l
  · rw [hn] at h; cases h
  · rw [hn] at h
    injection h with h
    subst h
    unfold normL at hn
    simp only [Bool.and_eq_true, decide_eq_true_iff] at hn
    exact ⟨norm_dW hn.2.1, hn.2.2.symm⟩

end Go.Proofs.YtncldnghhpdolaaGreatDoor
