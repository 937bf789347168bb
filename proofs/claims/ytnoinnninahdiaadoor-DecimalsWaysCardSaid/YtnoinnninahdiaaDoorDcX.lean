/- Plain laws on the ways in which a decimal can be written; lists and numbers alone: no statement of the seat is proved here. -/
import Derived.Test.YtnoinnninahdiaaDoorDcW
namespace Go.Proofs.YtnoinnninahdiaaDoor

theorem lstrip_app (a b : List UInt8) : lstrip (a ++ b) = if lstrip a = [] then lstrip b else lstrip a ++ b := by
  unfold lstrip
  rw [List.dropWhile_append]
  cases h : List.dropWhile (· == 48) a with
  | nil => simp
  | cons x t => simp
/-- Noughts behind, and the exponent as much less. -/
theorem normal_rep (m : Bool) (ds : List UInt8) (z : Nat) (x : Int) : normalD m (ds ++ List.replicate z 48) x = normalD m ds (x + z) := by
  unfold normalD
  by_cases h : lstrip ds = []
  · have h1 : lstrip (ds ++ List.replicate z 48) = [] := by rw [lstrip_app, if_pos h, lstrip_zeros]
    rw [h, h1]; rfl
  · have h1 : lstrip (ds ++ List.replicate z 48) = lstrip ds ++ List.replicate z 48 := by rw [lstrip_app, if_neg h]
    have h2 : rstrip (lstrip ds ++ List.replicate z 48) = rstrip (lstrip ds) := by rw [rstrip_app, rstrip_zeros, if_pos rfl]
    rw [h1, h2]
    split
    · rfl
    · rw [List.length_append, List.length_replicate]
      rw [show x + (((lstrip ds).length + z : Nat) : Int) - ((rstrip (lstrip ds)).length : Int) = x + z + (lstrip ds).length - (rstrip (lstrip ds)).length by omega]
theorem formL_rest (m : Bool) (wh : List UInt8) (pt : Bool) (pa : List UInt8) (ra : Bool) (lt : UInt8) (sg po rest : List UInt8) : formL m wh pt pa ra lt sg po rest = formL m wh pt pa ra lt sg po [] ++ rest := by
  unfold formL; simp
/-- A number's text, with an exponent, of n times ten to the e. -/
def Way (n e : Int) (x : List UInt8) : Prop := ∃ wh pt pa lt sg po, FormOk wh pt pa true lt sg po [] ∧ badW wh = false ∧ pt = !pa.isEmpty ∧ x = formL (decide (n < 0)) wh pt pa true lt sg po [] ∧
  normalD (decide (n < 0)) (wh ++ pa) (expP sg po - pa.length) = numD n e ∧ -800000 ≤ expP sg po ∧ expP sg po ≤ 800000
theorem FormOk.rest {wh : List UInt8} {pt : Bool} {pa : List UInt8} {lt : UInt8} {sg po : List UInt8} (h : FormOk wh pt pa true lt sg po []) {rest : List UInt8} (hr : hdB dgB rest = false) : FormOk wh pt pa true lt sg po rest :=
  ⟨h.wd, h.wn, h.pd, h.pn, h.le, h.sq, h.od, h.on, fun q => (by cases q), hr⟩
theorem Way.read {n e : Int} {x : List UInt8} (h : Way n e x) (hn : -1099511627776 ≤ n ∧ n ≤ 1099511627776) (he : -900000 ≤ e ∧ e ≤ 900000) : readD x = ((numD n e).text, 0) := by
  obtain ⟨wh, pt, pa, lt, sg, po, h1, h2, h3, rfl, h5, h6, h7⟩ := h
  have hs := form_parts (m := decide (n < 0)) h1
  have hok := form_ok (m := decide (n < 0)) h1
  have hpo : (true == !po.isEmpty) = true := by
    cases po with
    | nil => exact absurd rfl (h1.on rfl)
    | cons a t => rfl
  rw [h2, hpo, ← h3] at hok
  have hok : okW (formL (decide (n < 0)) wh pt pa true lt sg po []) = true := by rw [hok]; simp
  have hd : dW (sW (formL (decide (n < 0)) wh pt pa true lt sg po [])) = numD n e := by rw [hs]; exact h5
  have hg : goodL (formL (decide (n < 0)) wh pt pa true lt sg po []) = true := by
    unfold goodL
    rw [hd, numD_in hn (by omega), Bool.and_true, hs]
    show inB (expP sg po) = true
    rw [inB_t]; omega
  rw [readD, hok, hg, hd]; rfl
theorem bad_read {l : List UInt8} (h : okW l = false) : readD l = ([], 3) := by rw [readD, h]; rfl
theorem Way.more {n e : Int} {x : List UInt8} (h : Way n e x) {c : UInt8} (hc : dgB c = false) : readD (x ++ [c]) = ([], 3) := by
  obtain ⟨wh, pt, pa, lt, sg, po, h1, h2, h3, rfl, h5, h6, h7⟩ := h
  rw [← formL_rest]
  exact bad_read (by rw [form_ok (h1.rest (rest := [c]) hc)]; simp)
theorem Way.plus {n e : Int} {x : List UInt8} (_ : Way n e x) : readD (43 :: x) = ([], 3) := by
  refine bad_read ?_
  have h1 : wholeL (43 :: x) = [] := rfl
  rw [okW, h1]; rfl
theorem Way.nought {n e : Int} {x : List UInt8} (h : Way n e x) : readD (48 :: x) = ([], 3) := by
  obtain ⟨wh, pt, pa, lt, sg, po, h1, h2, h3, rfl, h5, h6, h7⟩ := h
  refine bad_read ?_
  cases hm : decide (n < 0)
  · have hf : FormOk (48 :: wh) pt pa true lt sg po [] := ⟨fun c hc => by
      rcases List.mem_cons.1 hc with rfl | hc
      · rfl
      · exact h1.wd c hc, by simp, h1.pd, h1.pn, h1.le, h1.sq, h1.od, h1.on, h1.of, h1.rd⟩
    have e1 : 48 :: formL false wh pt pa true lt sg po [] = formL false (48 :: wh) pt pa true lt sg po [] := rfl
    have hb : badW (48 :: wh) = true := by
      have := List.length_pos_iff.2 h1.wn
      unfold badW
      rw [List.length_cons, decide_eq_true (by omega)]; rfl
    rw [e1, form_ok hf, hb]; rfl
  · have e1 : 48 :: formL true wh pt pa true lt sg po [] = 48 :: 45 :: (wh ++ ((if pt then 46 :: pa else []) ++ ((lt :: (sg ++ po)) ++ []))) := rfl
    rw [e1]
    generalize wh ++ ((if pt then 46 :: pa else []) ++ ((lt :: (sg ++ po)) ++ [])) = t
    have h7 : l7 (48 :: 45 :: t) = 45 :: t := rfl
    rw [okW, h7]; simp
theorem itoa_sign (n : Int) : Lib.itoa n = (if decide (n < 0) then [45] else []) ++ Lib.decDigits n.natAbs := by
  rcases itoa_cases n with ⟨q, h⟩ | ⟨q, h⟩
  · rw [h, decide_eq_true q]; rfl
  · rw [h, decide_eq_false (by omega)]; rfl
theorem rep_dg (k : Nat) : ∀ c ∈ List.replicate k (48 : UInt8), dgB c = true := fun c hc => by rw [List.eq_of_mem_replicate hc]; rfl
theorem app_dg {a b : List UInt8} (ha : ∀ c ∈ a, dgB c = true) (hb : ∀ c ∈ b, dgB c = true) : ∀ c ∈ a ++ b, dgB c = true := fun c hc => by
  rcases List.mem_append.1 hc with hc | hc
  · exact ha c hc
  · exact hb c hc
theorem way0 (n e : Int) (k : Nat) (he : -1000 ≤ e ∧ e ≤ 1000) : Way n e (Lib.itoa n ++ ([46] ++ (List.replicate k 48 ++ ([48, 101] ++ Lib.itoa e)))) := by
  obtain ⟨sg, po, p1, p2, p3, p4, p5⟩ := itoa_form e
  refine ⟨Lib.decDigits n.natAbs, true, List.replicate (k + 1) 48, 101, sg, po, ⟨dec_dg _, dec_ne _, rep_dg _, fun h => (by cases h), rfl, p2, p3, fun _ => p4, fun h => (by cases h), rfl⟩, dec_bad _, rfl, ?_, ?_, by omega, by omega⟩
  · rw [itoa_sign n, p1, formL, List.replicate_succ']; simp
  · rw [normal_rep, List.length_replicate, p5, show e - ((k + 1 : Nat) : Int) + ((k + 1 : Nat) : Int) = e by omega]; rfl
theorem way1 (n e : Int) (k : Nat) (he : -1000 ≤ e ∧ e ≤ 1000) : Way n e (Lib.itoa n ++ ([69] ++ ((if e < 0 then [45] else [43]) ++ (List.replicate k 48 ++ Lib.decDigits e.natAbs)))) := by
  have hx : expP (if e < 0 then [45] else [43]) (List.replicate k 48 ++ Lib.decDigits e.natAbs) = e := by
    unfold expP
    rw [natV_app, natV_rep, Nat.zero_mul, natV_dec]
    by_cases h : e < 0
    · rw [if_pos h, if_pos rfl]; omega
    · rw [if_neg h, if_neg (by simp)]; omega
  refine ⟨Lib.decDigits n.natAbs, false, [], 69, if e < 0 then [45] else [43], List.replicate k 48 ++ Lib.decDigits e.natAbs, ⟨dec_dg _, dec_ne _, by simp, fun _ => rfl, rfl, ?_, app_dg (rep_dg _) (dec_dg _), fun _ => by simp [dec_ne], fun h => (by cases h), rfl⟩, dec_bad _, rfl, ?_, ?_, by omega, by omega⟩
  · split
    · exact .inr (.inr rfl)
    · exact .inr (.inl rfl)
  · rw [itoa_sign n, formL]; simp
  · rw [hx, List.append_nil]
    show normalD _ _ (e - (0 : Nat)) = _
    rw [show e - ((0 : Nat) : Int) = e by omega]; rfl
theorem rep_bad {n : Nat} (h : 0 < n) (k : Nat) : badW (Lib.decDigits n ++ List.replicate k 48) = false := by
  have h1 := dec_head h
  unfold badW
  cases e : Lib.decDigits n with
  | nil => exact absurd e (dec_ne n)
  | cons a t => rw [e] at h1; simp [hdB] at h1 ⊢; intro _; exact h1
theorem way2 (n e : Int) (k : Nat) (hn : n ≠ 0) (he : -1000 ≤ e ∧ e ≤ 1000) (hk : k ≤ 1000) : Way n e (Lib.itoa n ++ (List.replicate k 48 ++ ([101] ++ Lib.itoa (e - k)))) := by
  obtain ⟨sg, po, p1, p2, p3, p4, p5⟩ := itoa_form (e - k)
  refine ⟨Lib.decDigits n.natAbs ++ List.replicate k 48, false, [], 101, sg, po, ⟨app_dg (dec_dg _) (rep_dg _), by simp [dec_ne], by simp, fun _ => rfl, rfl, p2, p3, fun _ => p4, fun h => (by cases h), rfl⟩, rep_bad (by omega) k, rfl, ?_, ?_, by omega, by omega⟩
  · rw [itoa_sign n, p1, formL]; simp
  · rw [List.append_nil, normal_rep, p5]
    show normalD _ _ (e - k - (0 : Nat) + k) = _
    rw [show e - (k : Int) - ((0 : Nat) : Int) + (k : Int) = e by omega]; rfl
theorem way3 (n e : Int) (k : Nat) (hn : n ≠ 0) (he : -1000 ≤ e ∧ e ≤ 1000) (hk : k ≤ 1000) : Way n e (Lib.itoa n ++ (List.replicate k 48 ++ ([46, 48, 101] ++ Lib.itoa (e - k)))) := by
  obtain ⟨sg, po, p1, p2, p3, p4, p5⟩ := itoa_form (e - k)
  refine ⟨Lib.decDigits n.natAbs ++ List.replicate k 48, true, [48], 101, sg, po, ⟨app_dg (dec_dg _) (rep_dg _), by simp [dec_ne], by simp; rfl, fun h => (by cases h), rfl, p2, p3, fun _ => p4, fun h => (by cases h), rfl⟩, rep_bad (by omega) k, rfl, ?_, ?_, by omega, by omega⟩
  · rw [itoa_sign n, p1, formL]; simp
  · have h48 : Lib.decDigits n.natAbs ++ List.replicate k 48 ++ [48] = Lib.decDigits n.natAbs ++ List.replicate (k + 1) 48 := by rw [List.replicate_succ', List.append_assoc]
    rw [h48, normal_rep, p5]
    show normalD _ _ (e - k - (1 : Nat) + ((k + 1 : Nat) : Int)) = _
    rw [show e - (k : Int) - ((1 : Nat) : Int) + ((k + 1 : Nat) : Int) = e by omega]; rfl

end Go.Proofs.YtnoinnninahdiaaDoor
