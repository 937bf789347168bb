/- As Tail: the part tied to one operation, behind operations that were taken first; over any program; no statement of the seat is proved here. -/
import Derived.Test.YtjnedbkbhoiopaaDoorTail
namespace Go.Proofs.YtjnedbkbhoiopaaDoor
open Go.RowKit

def tiedB2 (md : Region.Mode) (ops : Array Oper) (k0 n : Nat) : Bool :=
  (List.range (n - 1)).all (fun i => decide (i < k0) || (List.range n).any fun j => decide (i < j) && Region.waitsFor md ops j i) &&
  (List.range ops.size).all (fun t => decide (t < n) || (List.range t).any fun s => decide (n - 1 ≤ s) && Region.waitsFor md ops t s)
def headB2 (md : Region.Mode) (ops : Array Oper) (n : Nat) (fin : Array Bool) : Nat → Nat → Array Bool → Bool
  | 0, _, listed => listed == fin && (Region.ready md ops listed).all fun j => decide (n ≤ j)
  | f + 1, k, listed => (Region.ready md ops listed).contains k && Region.free md ops listed k && headB2 md ops n fin f (k + 1) (listed.setIfInBounds k true)
/-- What is done already may be done. -/
def startB (md : Region.Mode) (ops : Array Oper) (k0 n : Nat) (listed : Array Bool) : Bool :=
  (listed.size == ops.size) && (List.range ops.size).all (fun j => !(listed.getD j false) || (match ops[j]? with | some o => o.after.all (fun e => !(Region.binds md e) || listed.getD e.on false) | none => true)) &&
  (List.range ops.size).all (fun t => decide (t < n) || !(listed.getD t true)) && (List.range k0).all (fun i => listed.getD i true)
def splitB2 (md : Region.Mode) (ops : Array Oper) (k0 n : Nat) (listed : Array Bool) : Bool :=
  Region.noSelect ops && decide (k0 < n) && decide (n < ops.size) && tiedB2 md ops k0 n && startB md ops k0 n listed && headB2 md ops n (marks (n - k0) k0 listed) (n - k0) k0 listed

section
variable {P : Program} {md : Region.Mode} {ops : Array Oper} {C : World → Prop} {k0 n : Nat}

theorem last_undone2 {listed : Array Bool} (ht : tiedB2 md ops k0 n = true) (hn : n < ops.size) (inv : HeadInv md ops n listed) :
    ∀ (d i : Nat), n - i = d → k0 ≤ i → i < n → listed.getD i true = false → listed.getD (n - 1) true = false := by
  simp only [tiedB2, Bool.and_eq_true] at ht
  intro d
  induction d using Nat.strongRecOn with
  | _ d ih =>
    intro i hd hk hi hun
    by_cases hl : i = n - 1
    · rw [← hl]; exact hun
    · have h1 := List.all_eq_true.1 ht.1 i (List.mem_range.2 (by omega))
      simp only [Bool.or_eq_true, decide_eq_true_eq] at h1
      rcases h1 with h1 | h1
      · omega
      · obtain ⟨j, hj, h2⟩ := List.any_eq_true.1 h1
        have hjn := List.mem_range.1 hj
        simp only [Bool.and_eq_true, decide_eq_true_eq] at h2
        obtain ⟨oj, hoj, e, he, hb, hon⟩ := Region.waitsFor_spec h2.2
        cases hx : listed.getD j false with
        | true =>
          have := inv.closed j oj hoj hx e he hb
          rw [hon, getD_both hun] at this
          cases this
        | false =>
          exact ih (n - j) (by omega) j rfl (by omega) hjn (getD_in (by rw [inv.size]; omega) hx)
theorem rest_waits2 {listed : Array Bool} (ht : tiedB2 md ops k0 n = true) (hn : n < ops.size) (inv : HeadInv md ops n listed) {i : Nat} (hk : k0 ≤ i) (hi : i < n) (hun : listed.getD i true = false) {t : Nat} (htn : n ≤ t) : t ∉ Region.ready md ops listed := by
  intro hr
  have hlast := last_undone2 ht hn inv _ i rfl hk hi hun
  simp only [tiedB2, Bool.and_eq_true] at ht
  obtain ⟨_, ot, hot, hall⟩ := mem_ready.1 hr
  have h1 := List.all_eq_true.1 ht.2 t (List.mem_range.2 (Array.getElem?_eq_some_iff.1 hot).1)
  simp only [Bool.or_eq_true, decide_eq_true_eq] at h1
  rcases h1 with h1 | h1
  · omega
  · obtain ⟨s, hs, h2⟩ := List.any_eq_true.1 h1
    have hst := List.mem_range.1 hs
    simp only [Bool.and_eq_true, decide_eq_true_eq] at h2
    obtain ⟨o', ho', e, he, hb, hon⟩ := Region.waitsFor_spec h2.2
    obtain rfl : o' = ot := Option.some.inj (ho'.symm.trans hot)
    have h3 := hall e he hb
    have hsu : listed.getD s true = false := by
      by_cases hsn : s = n - 1
      · rw [hsn]; exact hlast
      · exact inv.tail s (by omega) (by have := (Array.getElem?_eq_some_iff.1 hot).1; omega)
    rw [hon, getD_both hsu] at h3
    cases h3
theorem head_first2 {i : Nat} {oi : Oper} {v : Value} {L : Array Bool → Act → Prop} (hi : ops[i]? = some oi) (hsel : ∀ (j : Nat) (o : Oper) cs b, ops[j]? = some o → o.op ≠ .select cs b)
    (ht : tiedB2 md ops k0 n = true) (hn : n < ops.size) (hk : k0 ≤ i) (hin : i < n) (hdone : ∀ listed a, L listed a → ∀ j ∈ Region.ready md ops listed, n ≤ j) :
    ∀ (f : Nat) (listed : Array Bool) (a : Act), HeadInv md ops n listed →
      (∀ j oj, ops[j]? = some oj → j ≠ i → listed.getD j true = false → (∀ e ∈ oj.after, Region.binds md e = true → e.on ≠ i) → oi.apart ops oj = true) →
      i ∈ Region.ready md ops listed → YieldsIn P ops C oi v a →
      anyHead P md ops C n L f (listed.setIfInBounds i true) (a.put oi.dst v) → anyHead P md ops C n L (f + 1) listed a
  | 0, listed, a, inv, _, hr, hy, H => by
    have hun := (mem_ready.1 hr).1
    refine ⟨fun h => (by rw [h] at hr; cases hr), fun j hj => ?_⟩
    have hjn : j < n := by
      rcases Nat.lt_or_ge j n with h | h
      · exact h
      · exact absurd hj (rest_waits2 ht hn inv hk hin hun h)
    refine ⟨hjn, ?_⟩
    by_cases hji : j = i
    · subst hji; exact hy.qOp hi H
    · have := hdone _ _ H j (ready_mono hj hji)
      omega
  | f + 1, listed, a, inv, hfree, hr, hy, H => by
    have hun := (mem_ready.1 hr).1
    refine ⟨fun h => (by rw [h] at hr; cases hr), fun j hj => ?_⟩
    have hjn : j < n := by
      rcases Nat.lt_or_ge j n with h | h
      · exact h
      · exact absurd hj (rest_waits2 ht hn inv hk hin hun h)
    refine ⟨hjn, ?_⟩
    by_cases hji : j = i
    · subst hji; exact hy.qOp hi H
    · have h1 := (H.2 j (ready_mono hj hji)).2
      obtain ⟨hjun, oj, hoj, hall⟩ := mem_ready.1 hj
      have hnot : ∀ e ∈ oj.after, Region.binds md e = true → e.on ≠ i := fun e he hb heq => by
        have h1 := hall e he hb
        rw [heq, getD_both hun] at h1
        cases h1
      have h2 := qOp_put hoj (hfree j oj hoj hji hjun hnot) (fun cs b => hsel i oi cs b hi) (fun cs b => hsel j oj cs b hoj) hy h1
      have hfree' : ∀ k ok, ops[k]? = some ok → k ≠ i → (listed.setIfInBounds j true).getD k true = false → (∀ e ∈ ok.after, Region.binds md e = true → e.on ≠ i) → oi.apart ops ok = true := fun k ok hk' hki hun' hno => by
        refine hfree k ok hk' hki ?_ hno
        by_cases hjk : j = k
        · subst hjk; exact hjun
        · rw [getD_set_ne true hjk] at hun'; exact hun'
      refine qOp_mono (fun a' h3 => head_first2 hi hsel ht hn hk hin hdone f (listed.setIfInBounds j true) a' (inv.set hj hjn) hfree' (ready_mono hr (Ne.symm hji)) h3.1 ?_) h2
      rw [Array.setIfInBounds_comm _ _ hji]
      exact h3.2
theorem head_lex2 {Lq : Act → Prop} {fin : Array Bool} (hsel : Region.noSelect ops = true) (ht : tiedB2 md ops k0 n = true) (hn : n < ops.size) :
    ∀ (l : List Oper) (k : Nat) (listed : Array Bool) (a : Act), (∀ j, j < l.length → l[j]? = ops[k + j]?) → k0 ≤ k → k + l.length = n → HeadInv md ops n listed →
    headB2 md ops n fin l.length k listed = true → wpQuiet P ops C Lq l a →
    anyHead P md ops C n (fun listed' a' => (listed' = fin ∧ ∀ j ∈ Region.ready md ops listed', n ≤ j) ∧ Lq a') l.length listed a
  | [], k, listed, a, _, _, _, _, hB, h => by
    simp only [List.length_nil, headB2, Bool.and_eq_true, beq_iff_eq, List.all_eq_true, decide_eq_true_eq] at hB
    exact ⟨hB, h⟩
  | o :: l, k, listed, a, hl, hk0, hk, inv, hB, h => by
    have e0 : ops[k]? = some o := by simpa using (hl 0 (by simp)).symm
    simp only [List.length_cons, headB2, Bool.and_eq_true] at hB
    obtain ⟨⟨hr, hf⟩, hB'⟩ := hB
    have hkn : k < n := by simp only [List.length_cons] at hk; omega
    have hr' : k ∈ Region.ready md ops listed := by simpa using hr
    have hst : qOp P ops C k (wpQuiet P ops C Lq l) a := by unfold qOp; simp only [e0]; exact h
    obtain ⟨v, hy, hK⟩ := yieldsIn_of_qOp e0 hst
    exact head_first2 e0 (Region.noSelect_spec hsel) ht hn hk0 hkn (fun listed' a' hL => hL.1.2) l.length listed a inv (Region.free_spec e0 hf) hr' hy
      (head_lex2 hsel ht hn l (k + 1) _ _ (fun j hj => by have := hl (j + 1) (by simp; omega); simpa [Nat.add_assoc, Nat.add_comm 1 j] using this) (by omega) (by simp only [List.length_cons] at hk; omega) (inv.set hr' hkn) hB' hK)
end

/-- Operations number k0 to n - 1 in the order of the text, in later worlds; then what is left, from whatever later world. -/
theorem wpAny_head {P : Program} {Q : Exit → Act → World → Prop} {a : Act} {w : World} {l : List Oper} {listed : Array Bool} {G : Nat} (k0 n g : Nat) (w0 : World) (hG : G = (n - k0) + g) (hB : splitB2 .any l.toArray k0 n listed = true) (hb : Below w0.heap.size w0 w)
    (h : wpQuiet P l.toArray (fun w' => ∃ m : Later w0, w' = m.at_) (fun a' => ∀ w', (∃ m : Later w0, w' = m.at_) → wpAny P .any l.toArray Q g (marks (n - k0) k0 listed) a' w') ((l.drop k0).take (n - k0)) a) : wpAny P .any l.toArray Q G listed a w := by
  simp only [splitB2, Bool.and_eq_true, decide_eq_true_eq] at hB
  obtain ⟨⟨⟨⟨⟨hsel, hk⟩, hn⟩, ht⟩, hst⟩, hlex⟩ := hB
  have hn' : n < l.length := by simpa using hn
  have hln : ((l.drop k0).take (n - k0)).length = n - k0 := by simp; omega
  simp only [startB, Bool.and_eq_true, beq_iff_eq] at hst
  obtain ⟨⟨⟨s1, s2⟩, s3⟩, _⟩ := hst
  have inv0 : HeadInv .any l.toArray n listed := by
    refine ⟨s1, fun j oj hj hl e he hb => ?_, fun t hnt ht' => ?_⟩
    · have h1 := List.all_eq_true.1 s2 j (List.mem_range.2 (Array.getElem?_eq_some_iff.1 hj).1)
      rw [hl, hj] at h1
      simp only [Bool.not_true, Bool.false_or] at h1
      have h2 := Array.all_eq_true_iff_forall_mem.1 h1 e he
      rw [hb] at h2
      simpa using h2
    · have h1 := List.all_eq_true.1 s3 t (List.mem_range.2 ht')
      simp only [Bool.or_eq_true, decide_eq_true_eq, Bool.not_eq_true'] at h1
      rcases h1 with h1 | h1
      · omega
      · exact h1
  have H := head_lex2 (P := P) (md := .any) (C := fun w' => ∃ m : Later w0, w' = m.at_) (fin := marks (n - k0) k0 listed) hsel ht hn ((l.drop k0).take (n - k0)) k0 _ a (fun j hj => by
    have hj' : j < n - k0 := by rw [hln] at hj; exact hj
    simp [hj', List.getElem?_drop]) (Nat.le_refl _) (by rw [hln]; omega) inv0 (by rw [hln]; exact hlex) h
  have := any_of_head (Q' := Q) (g := g) (fun listed a' w' hw' hL => by
    obtain ⟨⟨e, _⟩, hq⟩ := hL
    subst e
    exact hq w' hw') _ _ _ _ (⟨⟨_, hb⟩, rfl⟩ : ∃ m : Later w0, w = m.at_) H
  rw [hln] at this
  rw [hG]; exact this

end Go.Proofs.YtjnedbkbhoiopaaDoor
