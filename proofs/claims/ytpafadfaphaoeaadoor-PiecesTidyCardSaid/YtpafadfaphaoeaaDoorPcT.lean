/- Plain laws of tidy pieces; no statement of the seat is proved here. -/
import Derived.Test.YtpafadfaphaoeaaDoorPcE
namespace Go.Proofs.YtpafadfaphaoeaaDoor
open Go.RowKit

def emptyP (p : Pc) : Bool := (decide (p.kind = 0) && decide (p.hi ≤ p.lo)) || (decide (p.kind = 1) && decide (p.txt.size = 0))
theorem empty_glue {p : Pc} (h : p.kind = 1) : emptyP p = decide (p.txt.size = 0) := by
  unfold emptyP
  rw [h, decide_eq_true (rfl : (1 : UInt8) = 1), decide_eq_false (by decide : ¬ (1 : UInt8) = 0), Bool.false_and, Bool.false_or, Bool.true_and]
theorem empty_span {p : Pc} (h : p.kind = 0) : emptyP p = decide (p.hi ≤ p.lo) := by
  unfold emptyP
  rw [h, decide_eq_true (rfl : (0 : UInt8) = 0), decide_eq_false (by decide : ¬ (0 : UInt8) = 1), Bool.false_and, Bool.or_false, Bool.true_and]
def withP (q p : Pc) : Option Pc :=
  if q.kind = 1 ∧ p.kind = 1 then some { q with txt := q.txt ++ p.txt }
  else if q.kind = 0 ∧ p.kind = 0 ∧ q.side = p.side ∧ q.hi = p.lo then some { q with hi := p.hi }
  else none
/-- One step of Tidy; what has been put together lies the other way round. -/
def stepP (r : List Pc) (p : Pc) : List Pc :=
  if emptyP p then r else
  match r with
  | [] => [p]
  | q :: r' => match withP q p with
    | some b => b :: r'
    | none => p :: q :: r'
def tidyR (l : List Pc) : List Pc := l.foldl stepP []
def tidyL (l : List Pc) : List Pc := (tidyR l).reverse

/-- No empty ones, and no two that are one. -/
def Good : List Pc → Prop
  | [] => True
  | [p] => emptyP p = false
  | p :: q :: r => emptyP p = false ∧ withP q p = none ∧ Good (q :: r)
theorem Good.tail {p : Pc} {r : List Pc} (h : Good (p :: r)) : Good r := by
  cases r with
  | nil => trivial
  | cons q r => exact h.2.2
theorem Good.head {p : Pc} {r : List Pc} (h : Good (p :: r)) : emptyP p = false := by
  cases r with
  | nil => exact h
  | cons q r => exact h.1
theorem with_kind {q p b : Pc} (h : withP q p = some b) : b.kind = q.kind ∧ b.side = q.side ∧ b.lo = q.lo ∧ q.kind = p.kind := by
  unfold withP at h
  split at h
  · rename_i h1; cases h; exact ⟨rfl, rfl, rfl, by rw [h1.1, h1.2]⟩
  · split at h
    · rename_i h1; cases h; exact ⟨rfl, rfl, rfl, by rw [h1.1, h1.2.1]⟩
    · cases h
theorem with_none {q p b x : Pc} (h : withP q p = some b) (hx : withP x q = none) : withP x b = none := by
  obtain ⟨h1, h2, h3, _⟩ := with_kind h
  unfold withP at hx ⊢
  rw [h1, h2, h3]
  split at hx
  · cases hx
  · rename_i a
    rw [if_neg a]
    split at hx
    · cases hx
    · rename_i b; rw [if_neg b]
theorem size_app (a b : ByteArray) : (a ++ b).size = a.size + b.size := by simp [ByteArray.size_append]
theorem with_empty {q p b : Pc} (h : withP q p = some b) (hq : emptyP q = false) (hp : emptyP p = false) : emptyP b = false := by
  unfold withP at h
  split at h
  · rename_i h1
    cases h
    rw [empty_glue h1.1, decide_eq_false_iff_not] at hq
    rw [empty_glue (by exact h1.1), decide_eq_false_iff_not]
    show ¬ (q.txt ++ p.txt).size = 0
    rw [size_app]; omega
  · split at h
    · rename_i _ h1
      cases h
      rw [empty_span h1.1, decide_eq_false_iff_not] at hq
      rw [empty_span h1.2.1, decide_eq_false_iff_not] at hp
      rw [empty_span (by exact h1.1), decide_eq_false_iff_not]
      show ¬ p.hi ≤ q.lo
      have := h1.2.2.2
      omega
    · cases h
theorem good_step {r : List Pc} {p : Pc} (h : Good r) : Good (stepP r p) := by
  unfold stepP
  split
  · exact h
  · rename_i hp
    have hp : emptyP p = false := by simpa using hp
    split
    · exact hp
    · rename_i q r'
      split
      · rename_i b hb
        have hbe := with_empty hb h.head hp
        cases r' with
        | nil => exact hbe
        | cons x r' => exact ⟨hbe, with_none hb h.2.1, h.2.2⟩
      · rename_i hn
        exact ⟨hp, hn, h⟩
theorem good_fold : ∀ (l : List Pc) (r : List Pc), Good r → Good (l.foldl stepP r)
  | [], _, h => h
  | _ :: l, _, h => good_fold l _ (good_step h)
theorem good_tidy (l : List Pc) : Good (tidyR l) := good_fold l [] trivial
theorem good_again : ∀ (r : List Pc), Good r → r.reverse.foldl stepP [] = r
  | [], _ => rfl
  | p :: r, h => by
    rw [List.reverse_cons, List.foldl_append, good_again r h.tail]
    show stepP r p = p :: r
    unfold stepP
    rw [if_neg (by rw [h.head]; simp)]
    cases r with
    | nil => rfl
    | cons q r' => simp only [h.2.1]
/-- Tidied twice they are as once. -/
theorem tidy_again (l : List Pc) : tidyL (tidyL l) = tidyL l := by
  unfold tidyL
  rw [show tidyR (tidyR l).reverse = tidyR l from good_again _ (good_tidy l)]

/-! ### What may be -/
theorem drop_all {p : UInt8 → Bool} : ∀ m : List UInt8, (∀ c ∈ m.dropWhile p, p c = true) ↔ ∀ c ∈ m, p c = true
  | [] => by simp
  | x :: m => by
    by_cases hx : p x = true
    · rw [List.dropWhile_cons_of_pos hx, drop_all m]
      simp [hx]
    · rw [List.dropWhile_cons_of_neg hx]
theorem drop_nil {p : UInt8 → Bool} : ∀ m : List UInt8, m.dropWhile p = [] ↔ ∀ c ∈ m, p c = true
  | [] => by simp
  | x :: m => by
    by_cases hx : p x = true
    · rw [List.dropWhile_cons_of_pos hx, drop_nil m]
      simp [hx]
    · rw [List.dropWhile_cons_of_neg hx]
      simp [hx]
theorem trim_all (l cs : List UInt8) : Lib.trimS l cs = [] ↔ ∀ c ∈ l, cs.contains c = true := by
  unfold Lib.trimS Lib.trimLeftS Lib.trimRightS
  rw [drop_nil]
  have := drop_all (p := fun c => cs.contains c) l.reverse
  simp only [List.mem_reverse] at this ⊢
  exact this
theorem app_list (a b : ByteArray) : (a ++ b).data.toList = a.data.toList ++ b.data.toList := by simp [ByteArray.data_append]
theorem glue_iff {p : Pc} : glueP p = true ↔ bareP p = true ∧ ∀ c ∈ p.txt.data.toList, glueS.contains c = true := by
  unfold glueP
  rw [Bool.and_eq_true, List.isEmpty_iff, trim_all]
theorem span_iff {p : Pc} {d : Docs} : spanP p d = true ↔ p.side.toNat < 3 ∧ 0 ≤ p.lo ∧ p.lo ≤ p.hi ∧ p.hi ≤ (d.len p.side : Int) ∧ p.txt.toList.isEmpty = true := by
  unfold spanP
  simp only [Bool.and_eq_true, decide_eq_true_eq, and_assoc]
theorem may_glue {p : Pc} {d : Docs} (h : p.kind = 1) : mayP p d = glueP p := by unfold mayP; rw [if_neg (by rw [h]; decide), if_pos h]
theorem may_span {p : Pc} {d : Docs} (h : p.kind = 0) : mayP p d = spanP p d := by unfold mayP; rw [if_pos h]
theorem may_with {d : Docs} {q p b : Pc} (h : withP q p = some b) (hq : mayP q d = true) (hp : mayP p d = true) : mayP b d = true := by
  unfold withP at h
  split at h
  · rename_i h1
    cases h
    rw [may_glue h1.1, glue_iff] at hq
    rw [may_glue h1.2, glue_iff] at hp
    rw [may_glue (by exact h1.1), glue_iff]
    refine ⟨hq.1, fun c hc => ?_⟩
    rw [app_list, List.mem_append] at hc
    exact hc.elim (hq.2 c) (hp.2 c)
  · split at h
    · rename_i _ h1
      cases h
      rw [may_span h1.1, span_iff] at hq
      rw [may_span h1.2.1, span_iff] at hp
      rw [may_span (by exact h1.1), span_iff]
      obtain ⟨a1, a2, a3, a4, a5⟩ := hq
      obtain ⟨b1, b2, b3, b4, b5⟩ := hp
      obtain ⟨_, _, e3, e4⟩ := h1
      rw [← e3] at b4
      refine ⟨a1, a2, ?_, b4, a5⟩
      show q.lo ≤ p.hi
      omega
    · cases h
theorem mayL_cons (p : Pc) (l : List Pc) (d : Docs) : mayL (p :: l) d = (mayP p d && mayL l d) := rfl
theorem may_step {d : Docs} {r : List Pc} {p : Pc} (hr : mayL r d = true) (hp : mayP p d = true) : mayL (stepP r p) d = true := by
  unfold stepP
  split
  · exact hr
  · split
    · rw [mayL_cons, hp]; exact hr
    · rename_i q r'
      rw [mayL_cons, Bool.and_eq_true] at hr
      split
      · rename_i b hb
        rw [mayL_cons, may_with hb hr.1 hp, hr.2]; rfl
      · rw [mayL_cons, mayL_cons, hp, hr.1, hr.2]; rfl
theorem may_fold {d : Docs} : ∀ (l r : List Pc), mayL r d = true → mayL l d = true → mayL (l.foldl stepP r) d = true
  | [], _, h, _ => h
  | p :: l, r, h, hl => by
    rw [mayL_cons, Bool.and_eq_true] at hl
    exact may_fold l _ (may_step h hl.1) hl.2
theorem mayL_rev (l : List Pc) (d : Docs) : mayL l.reverse d = mayL l d := by
  unfold mayL; rw [List.all_reverse]
theorem tidy_may {l : List Pc} {d : Docs} (h : mayL l d = true) : mayL (tidyL l) d = true := by
  unfold tidyL; rw [mayL_rev]; exact may_fold l [] rfl h

/-! ### What they say -/
section
variable {f : Int} {b : UInt8 → List UInt8} {d : Docs} (hb : ∀ s : UInt8, s.toNat < 3 → (b s).length = d.len s)
theorem say_span {p : Pc} (h : p.kind = 0) : sayP f b p = ((b p.side).drop p.lo.toNat).take (p.hi.toNat - p.lo.toNat) := by unfold sayP; rw [if_pos h]
theorem say_text {p : Pc} (h : p.kind = 1) : sayP f b p = p.txt.data.toList := by unfold sayP; rw [if_neg (by rw [h]; decide), if_pos (by rw [h]; decide)]
theorem data_nil {t : ByteArray} (h : t.size = 0) : t.data.toList = [] := by
  have : t.data.toList.length = 0 := by simpa using h
  exact List.eq_nil_of_length_eq_zero this
theorem say_empty {p : Pc} (he : emptyP p = true) (_hp : mayP p d = true) : sayP f b p = [] := by
  by_cases h0 : p.kind = 0
  · rw [empty_span h0, decide_eq_true_eq] at he
    rw [say_span h0, show p.hi.toNat - p.lo.toNat = 0 by omega, List.take_zero]
  · by_cases h1 : p.kind = 1
    · rw [empty_glue h1, decide_eq_true_eq] at he
      rw [say_text h1, data_nil he]
    · unfold emptyP at he
      rw [decide_eq_false h0, decide_eq_false h1] at he
      simp at he
theorem cut_two (l : List UInt8) {x y z : Nat} (h1 : x ≤ y) (h2 : y ≤ z) (_h3 : z ≤ l.length) : (l.drop x).take (z - x) = (l.drop x).take (y - x) ++ (l.drop y).take (z - y) := by
  rw [show z - x = (y - x) + (z - y) by omega, List.take_add, List.drop_drop, show x + (y - x) = y by omega]
include hb in
theorem say_with {q p o : Pc} (h : withP q p = some o) (hq : mayP q d = true) (hp : mayP p d = true) : sayP f b o = sayP f b q ++ sayP f b p := by
  unfold withP at h
  split at h
  · rename_i h1
    cases h
    rw [say_text (by exact h1.1), say_text h1.1, say_text h1.2]
    exact app_list _ _
  · split at h
    · rename_i _ h1
      cases h
      rw [may_span h1.1, span_iff] at hq
      rw [may_span h1.2.1, span_iff] at hp
      rw [say_span (by exact h1.1), say_span h1.1, say_span h1.2.1]
      obtain ⟨a1, a2, a3, a4, a5⟩ := hq
      obtain ⟨b1, b2, b3, b4, b5⟩ := hp
      obtain ⟨_, _, e3, e4⟩ := h1
      have hl := hb q.side a1
      rw [← e3] at b4
      show ((b q.side).drop q.lo.toNat).take (p.hi.toNat - q.lo.toNat) = _
      rw [← e3, ← e4]
      exact cut_two _ (by omega) (by omega) (by omega)
    · cases h
theorem sayL_app (l m : List Pc) : sayL f b (l ++ m) = sayL f b l ++ sayL f b m := by unfold sayL; rw [List.flatMap_append]
theorem sayL_one (p : Pc) : sayL f b [p] = sayP f b p := by simp [sayL]
include hb in
theorem say_step {r : List Pc} {p : Pc} (hr : mayL r d = true) (hp : mayP p d = true) : sayL f b (stepP r p).reverse = sayL f b r.reverse ++ sayP f b p := by
  unfold stepP
  split
  · rename_i he; rw [say_empty he hp, List.append_nil]
  · split
    · simp [sayL]
    · rename_i q r'
      rw [mayL_cons, Bool.and_eq_true] at hr
      split
      · rename_i o ho
        rw [List.reverse_cons, List.reverse_cons, sayL_app, sayL_app, sayL_one, sayL_one, say_with hb ho hr.1 hp, List.append_assoc]
      · rw [List.reverse_cons, sayL_app, sayL_one]
include hb in
theorem say_fold : ∀ (l r : List Pc), mayL r d = true → mayL l d = true → sayL f b (l.foldl stepP r).reverse = sayL f b r.reverse ++ sayL f b l
  | [], r, _, _ => by simp [sayL]
  | p :: l, r, h, hl => by
    rw [mayL_cons, Bool.and_eq_true] at hl
    rw [List.foldl_cons, say_fold l _ (may_step h hl.1) hl.2, say_step hb h hl.1, List.append_assoc]
    rfl
include hb in
theorem tidy_say {l : List Pc} (h : mayL l d = true) : sayL f b (tidyL l) = sayL f b l := by
  have := say_fold (f := f) hb l [] rfl h
  simpa [tidyL, tidyR, sayL] using this
end

/-! ### How much spans say -/
def cnP (s : UInt8) (p : Pc) : Nat := if p.kind = 0 ∧ p.side = s then p.hi.toNat - p.lo.toNat else 0
def cnL (s : UInt8) (l : List Pc) : Nat := (l.map (cnP s)).sum
theorem cn_empty {s : UInt8} {p : Pc} (he : emptyP p = true) : cnP s p = 0 := by
  unfold cnP
  split
  · rename_i h
    rw [empty_span h.1, decide_eq_true_eq] at he
    omega
  · rfl
theorem cn_with {s : UInt8} {d : Docs} {q p o : Pc} (h : withP q p = some o) (hq : mayP q d = true) (hp : mayP p d = true) : cnP s o = cnP s q + cnP s p := by
  unfold withP at h
  split at h
  · rename_i h1
    cases h
    have e : ∀ x : Pc, x.kind = 1 → cnP s x = 0 := fun x hx => by unfold cnP; rw [if_neg (by rw [hx]; simp)]
    rw [e q h1.1, e p h1.2, e _ (by exact h1.1)]
  · split at h
    · rename_i _ h1
      cases h
      rw [may_span h1.1, span_iff] at hq
      rw [may_span h1.2.1, span_iff] at hp
      obtain ⟨a1, a2, a3, a4, a5⟩ := hq
      obtain ⟨b1, b2, b3, b4, b5⟩ := hp
      obtain ⟨e1, e2, e3, e4⟩ := h1
      unfold cnP
      simp only [e1, e2, e3, true_and]
      split
      · omega
      · rfl
    · cases h
theorem cnL_cons (s : UInt8) (p : Pc) (l : List Pc) : cnL s (p :: l) = cnP s p + cnL s l := by simp [cnL]
theorem cn_step {s : UInt8} {d : Docs} {r : List Pc} {p : Pc} (hr : mayL r d = true) (hp : mayP p d = true) : cnL s (stepP r p) = cnL s r + cnP s p := by
  unfold stepP
  split
  · rename_i he; rw [cn_empty he]; rfl
  · split
    · simp [cnL]
    · rename_i q r'
      rw [mayL_cons, Bool.and_eq_true] at hr
      split
      · rename_i o ho
        rw [cnL_cons, cnL_cons, cn_with ho hr.1 hp]; omega
      · rw [cnL_cons, cnL_cons]; omega
theorem cn_fold {s : UInt8} {d : Docs} : ∀ (l r : List Pc), mayL r d = true → mayL l d = true → cnL s (l.foldl stepP r) = cnL s r + cnL s l
  | [], r, _, _ => by simp [cnL]
  | p :: l, r, h, hl => by
    rw [mayL_cons, Bool.and_eq_true] at hl
    rw [List.foldl_cons, cn_fold l _ (may_step h hl.1) hl.2, cn_step h hl.1, cnL_cons]; omega
theorem tidy_cn {s : UInt8} {d : Docs} {l : List Pc} (h : mayL l d = true) : cnL s (tidyL l) = cnL s l := by
  have := cn_fold (s := s) l [] rfl h
  unfold tidyL tidyR
  rw [show cnL s (l.foldl stepP []).reverse = cnL s (l.foldl stepP []) by unfold cnL; rw [List.map_reverse, List.sum_reverse], this]
  simp [cnL]
theorem cnL_take (s : UInt8) (l : List Pc) (k : Nat) (h : k < l.length) : cnL s (l.take (k + 1)) = cnL s (l.take k) + cnP s l[k] := by
  unfold cnL; rw [List.take_succ_eq_append_getElem h, List.map_append, List.sum_append]; simp

end Go.Proofs.YtpafadfaphaoeaaDoor
