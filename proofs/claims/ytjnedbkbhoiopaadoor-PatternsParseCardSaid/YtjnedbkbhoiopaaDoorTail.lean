/- A region that draws its order, of which a first part is tied to one operation that all the rest waits for: that part is walked once in the order of the text, in a class of worlds; over any program; no statement of the seat is proved here. -/
import Derived.Test.YtjnedbkbhoiopaaDoorLat
import Derived.StillTail
namespace Go.Proofs.YtjnedbkbhoiopaaDoor
open Go.RowKit

/-- All operations ahead of number n lead to number n - 1, and all behind wait for it. -/
def tiedB (md : Region.Mode) (ops : Array Oper) (n : Nat) : Bool :=
  (List.range (n - 1)).all (fun i => (List.range n).any fun j => decide (i < j) && Region.waitsFor md ops j i) &&
  (List.range ops.size).all (fun t => decide (t < n) || (List.range t).any fun s => decide (n - 1 ≤ s) && Region.waitsFor md ops t s)
def upTo (m n : Nat) : Array Bool := ((List.range m).map fun i => decide (i < n)).toArray
/-- The order of the text may be taken, and then just the first n are done. -/
def headB (md : Region.Mode) (ops : Array Oper) (n : Nat) : Nat → Nat → Array Bool → Bool
  | 0, _, listed => listed == upTo ops.size n && (Region.ready md ops listed).all fun j => decide (n ≤ j)
  | f + 1, k, listed => (Region.ready md ops listed).contains k && Region.free md ops listed k && headB md ops n f (k + 1) (listed.setIfInBounds k true)
def splitB (md : Region.Mode) (ops : Array Oper) (n : Nat) : Bool :=
  Region.noSelect ops && decide (0 < n) && decide (n < ops.size) && tiedB md ops n && headB md ops n n 0 (Array.replicate ops.size false)

section
variable {P : Program} {md : Region.Mode} {ops : Array Oper} {C : World → Prop} {n : Nat}

/-- One of the first that is not done keeps the last of them from being done. -/
theorem last_undone {listed : Array Bool} (ht : tiedB md ops n = true) (hn : n < ops.size) (inv : HeadInv md ops n listed) :
    ∀ (d i : Nat), n - i = d → i < n → listed.getD i true = false → listed.getD (n - 1) true = false := by
  simp only [tiedB, Bool.and_eq_true] at ht
  intro d
  induction d using Nat.strongRecOn with
  | _ d ih =>
    intro i hd hi hun
    by_cases hl : i = n - 1
    · rw [← hl]; exact hun
    · obtain ⟨j, hj, h2⟩ := List.any_eq_true.1 (List.all_eq_true.1 ht.1 i (List.mem_range.2 (by omega)))
      have hjn := List.mem_range.1 hj
      simp only [Bool.and_eq_true, decide_eq_true_eq] at h2
      obtain ⟨oj, hoj, e, he, hb, hon⟩ := Region.waitsFor_spec h2.2
      cases hx : listed.getD j false with
      | true =>
        have := inv.closed j oj hoj hx e he hb
        rw [hon, getD_both hun] at this
        cases this
      | false =>
        exact ih (n - j) (by omega) j rfl hjn (getD_in (by rw [inv.size]; omega) hx)
theorem rest_waits {listed : Array Bool} (ht : tiedB md ops n = true) (hn : n < ops.size) (h0 : 0 < n) (inv : HeadInv md ops n listed) {i : Nat} (hi : i < n) (hun : listed.getD i true = false) {t : Nat} (htn : n ≤ t) : t ∉ Region.ready md ops listed := by
  intro hr
  have hlast := last_undone ht hn inv _ i rfl hi hun
  simp only [tiedB, Bool.and_eq_true] at ht
  obtain ⟨_, ot, hot, hall⟩ := mem_ready.1 hr
  have h1 := List.all_eq_true.1 ht.2 t (List.mem_range.2 (Array.getElem?_eq_some_iff.1 hot).1)
  simp only [Bool.or_eq_true, decide_eq_true_eq] at h1
  rcases h1 with h1 | h1
  · omega
  · obtain ⟨s, hs, h2⟩ := List.any_eq_true.1 h1
    have hst := List.mem_range.1 hs
    simp only [Bool.and_eq_true, decide_eq_true_eq] at h2
    obtain ⟨o', ho', e, he, hb, hon⟩ := Region.waitsFor_spec h2.2
    obtain rfl : o' = ot := Option.some.inj (ho'.symm.trans hot)
    have h3 := hall e he hb
    have hsu : listed.getD s true = false := by
      by_cases hsn : s = n - 1
      · rw [hsn]; exact hlast
      · exact inv.tail s (by omega) (by have := (Array.getElem?_eq_some_iff.1 hot).1; omega)
    rw [hon, getD_both hsu] at h3
    cases h3

/-- Whatever order of the first part is picked. -/
def anyHead (P : Program) (md : Region.Mode) (ops : Array Oper) (C : World → Prop) (n : Nat) (L : Array Bool → Act → Prop) : Nat → Array Bool → Act → Prop
  | 0, listed, a => L listed a
  | f + 1, listed, a => Region.ready md ops listed ≠ [] ∧ ∀ i ∈ Region.ready md ops listed, i < n ∧ qOp P ops C i (anyHead P md ops C n L f (listed.setIfInBounds i true)) a
theorem any_of_head {g : Nat} {L : Array Bool → Act → Prop} {Q' : Exit → Act → World → Prop} (hL : ∀ listed a w, C w → L listed a → wpAny P md ops Q' g listed a w) :
    ∀ (f : Nat) (listed : Array Bool) (a : Act) (w : World), C w → anyHead P md ops C n L f listed a → wpAny P md ops Q' (f + g) listed a w
  | 0, _, _, _, hw, h => by rw [Nat.zero_add]; exact hL _ _ _ hw h
  | f + 1, _, _, _, hw, h => by
    rw [show f + 1 + g = (f + g) + 1 by omega]
    exact ⟨fun h0 => absurd h0 h.1, fun i hi => wpOp_of_qOp hw (fun a' w' hw' h' => any_of_head hL f _ a' w' hw' h') (h.2 i hi).2⟩
theorem head_first {i : Nat} {oi : Oper} {v : Value} {L : Array Bool → Act → Prop} (hi : ops[i]? = some oi) (hsel : ∀ (j : Nat) (o : Oper) cs b, ops[j]? = some o → o.op ≠ .select cs b)
    (ht : tiedB md ops n = true) (hn : n < ops.size) (h0 : 0 < n) (hin : i < n) (hdone : ∀ listed a, L listed a → ∀ j ∈ Region.ready md ops listed, n ≤ j) :
    ∀ (f : Nat) (listed : Array Bool) (a : Act), HeadInv md ops n listed →
      (∀ j oj, ops[j]? = some oj → j ≠ i → listed.getD j true = false → (∀ e ∈ oj.after, Region.binds md e = true → e.on ≠ i) → oi.apart ops oj = true) →
      i ∈ Region.ready md ops listed → YieldsIn P ops C oi v a →
      anyHead P md ops C n L f (listed.setIfInBounds i true) (a.put oi.dst v) → anyHead P md ops C n L (f + 1) listed a
  | 0, listed, a, inv, _, hr, hy, H => by
    have hun := (mem_ready.1 hr).1
    refine ⟨fun h => (by rw [h] at hr; cases hr), fun j hj => ?_⟩
    have hjn : j < n := by
      rcases Nat.lt_or_ge j n with h | h
      · exact h
      · exact absurd hj (rest_waits ht hn h0 inv hin hun h)
    refine ⟨hjn, ?_⟩
    by_cases hji : j = i
    · subst hji; exact hy.qOp hi H
    · have := hdone _ _ H j (ready_mono hj hji)
      omega
  | f + 1, listed, a, inv, hfree, hr, hy, H => by
    have hun := (mem_ready.1 hr).1
    refine ⟨fun h => (by rw [h] at hr; cases hr), fun j hj => ?_⟩
    have hjn : j < n := by
      rcases Nat.lt_or_ge j n with h | h
      · exact h
      · exact absurd hj (rest_waits ht hn h0 inv hin hun h)
    refine ⟨hjn, ?_⟩
    by_cases hji : j = i
    · subst hji; exact hy.qOp hi H
    · have h1 := (H.2 j (ready_mono hj hji)).2
      obtain ⟨hjun, oj, hoj, hall⟩ := mem_ready.1 hj
      have hnot : ∀ e ∈ oj.after, Region.binds md e = true → e.on ≠ i := fun e he hb heq => by
        have h1 := hall e he hb
        rw [heq, getD_both hun] at h1
        cases h1
      have h2 := qOp_put hoj (hfree j oj hoj hji hjun hnot) (fun cs b => hsel i oi cs b hi) (fun cs b => hsel j oj cs b hoj) hy h1
      have hfree' : ∀ k ok, ops[k]? = some ok → k ≠ i → (listed.setIfInBounds j true).getD k true = false → (∀ e ∈ ok.after, Region.binds md e = true → e.on ≠ i) → oi.apart ops ok = true := fun k ok hk hki hun' hno => by
        refine hfree k ok hk hki ?_ hno
        by_cases hjk : j = k
        · subst hjk; exact hjun
        · rw [getD_set_ne true hjk] at hun'; exact hun'
      refine qOp_mono (fun a' h3 => head_first hi hsel ht hn h0 hin hdone f (listed.setIfInBounds j true) a' (inv.set hj hjn) hfree' (ready_mono hr (Ne.symm hji)) h3.1 ?_) h2
      rw [Array.setIfInBounds_comm _ _ hji]
      exact h3.2
theorem head_lex {Lq : Act → Prop} (hsel : Region.noSelect ops = true) (ht : tiedB md ops n = true) (hn : n < ops.size) (h0 : 0 < n) :
    ∀ (l : List Oper) (k : Nat) (listed : Array Bool) (a : Act), (∀ j, j < l.length → l[j]? = ops[k + j]?) → k + l.length = n → HeadInv md ops n listed →
    headB md ops n l.length k listed = true → wpQuiet P ops C Lq l a →
    anyHead P md ops C n (fun listed' a' => (listed' = upTo ops.size n ∧ ∀ j ∈ Region.ready md ops listed', n ≤ j) ∧ Lq a') l.length listed a
  | [], k, listed, a, _, _, _, hB, h => by
    simp only [List.length_nil, headB, Bool.and_eq_true, beq_iff_eq, List.all_eq_true, decide_eq_true_eq] at hB
    exact ⟨hB, h⟩
  | o :: l, k, listed, a, hl, hk, inv, hB, h => by
    have e0 : ops[k]? = some o := by simpa using (hl 0 (by simp)).symm
    simp only [List.length_cons, headB, Bool.and_eq_true] at hB
    obtain ⟨⟨hr, hf⟩, hB'⟩ := hB
    have hkn : k < n := by simp only [List.length_cons] at hk; omega
    have hr' : k ∈ Region.ready md ops listed := by simpa using hr
    have hst : qOp P ops C k (wpQuiet P ops C Lq l) a := by unfold qOp; simp only [e0]; exact h
    obtain ⟨v, hy, hK⟩ := yieldsIn_of_qOp e0 hst
    exact head_first e0 (Region.noSelect_spec hsel) ht hn h0 hkn (fun listed' a' hL => hL.1.2) l.length listed a inv (Region.free_spec e0 hf) hr' hy
      (head_lex hsel ht hn h0 l (k + 1) _ _ (fun j hj => by have := hl (j + 1) (by simp; omega); simpa [Nat.add_assoc, Nat.add_comm 1 j] using this) (by simp only [List.length_cons] at hk; omega) (inv.set hr' hkn) hB' hK)
end

/-- The first n operations in the order of the text, in later worlds; then what is left, from whatever later world. -/
theorem wp_region_later_head {P : Program} {id : Nat} {Q : Exit → Act → World → Prop} {a : Act} (n : Nat) (w0 : World) {w : World} {l : List Oper} (hm : P.follows .mixedOrders = true) (hB : splitB .any l.toArray n = true) (hb : Below w0.heap.size w0 w)
    (h : wpQuiet P l.toArray (fun w' => ∃ m : Later w0, w' = m.at_) (fun a' => ∀ w', (∃ m : Later w0, w' = m.at_) → wpAny P .any l.toArray Q (l.length - n) (upTo l.length n) a' w') (l.take n) a) : (Code.region id l.toArray true).wp P Q a w := by
  simp only [splitB, Bool.and_eq_true, decide_eq_true_eq] at hB
  obtain ⟨⟨⟨⟨hsel, h0⟩, hn⟩, ht⟩, hlex⟩ := hB
  have hn' : n < l.length := by simpa using hn
  have htl : (l.take n).length = n := by simp; omega
  have hsz : l.toArray.size = l.length := by simp
  have inv0 : HeadInv .any l.toArray n (Array.replicate l.toArray.size false) :=
    ⟨by simp, fun j oj _ hl => (by rw [getD_replicate_false] at hl; cases hl), fun t _ ht => getD_in (by simpa using ht) (getD_replicate_false _ _)⟩
  have H := head_lex (P := P) (md := .any) (C := fun w' => ∃ m : Later w0, w' = m.at_) hsel ht hn h0 (l.take n) 0 _ a (fun j hj => by
    have hj' : j < n := by rw [htl] at hj; exact hj
    simp [hj']) (by simpa using htl) inv0 (by rw [htl]; exact hlex) h
  refine wp_region_any hm ?_
  have := any_of_head (Q' := Q) (g := l.length - n) (fun listed a' w' hw' hL => by
    obtain ⟨⟨e, _⟩, hq⟩ := hL
    subst e
    rw [hsz]
    exact hq w' hw') _ _ _ _ (⟨⟨_, hb.drew⟩, rfl⟩ : ∃ m : Later w0, w.drew = m.at_) H
  rw [htl, show n + (l.length - n) = l.toArray.size by rw [hsz]; omega] at this
  exact this

/-- The rest in the one order that is left. -/
theorem wpAny_rest {P : Program} {Q : Exit → Act → World → Prop} {l : List Oper} {listed : Array Bool} {a : Act} {w : World} {g : Nat} (k : Nat) (hg : l.length - k = g) (hB : Region.seqB .any l.toArray g k listed = true) (h : wpList P l.toArray Q (l.drop k) a w) : wpAny P .any l.toArray Q g listed a w := by
  subst hg
  have := wpAny_of_seq (P := P) (md := .any) (ops := l.toArray) (Q' := Q) (l.drop k) k listed a w (fun j => by simp [List.getElem?_drop]) (by simpa using hB) h
  simpa using this

/-! ### Operations that yield in whatever world are taken first -/
def plainOp (o : Oper) : Bool := match o.op with
  | .move _ => true
  | .slice .. => true
  | .index .. => true
  | .binOp .. => true
  | .unOp .. => true
  | .convert .. => true
  | .fieldAddr .. => true
  | .indexAddr .. => true
  | .call c => (match c.callee with | .builtin .len => true | _ => false)
  | _ => false
theorem plain_form {o : Oper} (r : Operand → Value) (h : plainOp o = true) : ∃ s : Sem Value, execOp r o = (do pure (.value (← s)) : Sem Next) := by
  unfold plainOp at h
  unfold execOp
  split at h
  · rename_i e; rw [e]; exact ⟨pure (r _), rfl⟩
  · rename_i e; rw [e]; exact ⟨_, rfl⟩
  · rename_i e; rw [e]; exact ⟨_, rfl⟩
  · rename_i e; rw [e]; exact ⟨_, rfl⟩
  · rename_i e; rw [e]; exact ⟨_, rfl⟩
  · rename_i e; rw [e]; exact ⟨_, rfl⟩
  · rename_i e; rw [e]; exact ⟨_, rfl⟩
  · rename_i e; rw [e]; exact ⟨_, rfl⟩
  · rename_i c e
    rw [e]
    split at h
    · rename_i e2
      simp only [resolve, e2]
      exact ⟨_, rfl⟩
    · cases h
  · cases h
structure AnyW where
  at_ : World
instance : Nonempty AnyW := ⟨⟨default⟩⟩
theorem yields_plain {P : Program} {o : Oper} {a : Act} {v : Value} (hp : plainOp o = true) (h : ∀ w, (∃ m : AnyW, w = m.at_) → o.quietAt P a (fun w' => ∃ m : AnyW, w' = m.at_) w v) (w : World) : (execOp a.eval o).run P w = .ok (.value v) w := by
  have h1 := h w ⟨⟨w⟩, rfl⟩
  obtain ⟨s, hs⟩ := plain_form a.eval hp
  unfold Oper.quietAt at h1
  rw [hs] at h1 ⊢
  have e : (do pure (.value (← s)) : Sem Next).run P w = (s.run P w).andThen fun x w' => .ok (.value x) w' := Sem.run_bind' P s (fun x => (pure (Next.value x) : Sem Next)) w
  rw [e] at h1 ⊢
  cases hr : s.run P w with
  | ok x w' =>
    rw [hr] at h1
    simp only [Result.andThen, Oper.quietUpon] at h1 ⊢
    rw [h1.1, h1.2]
  | halt x w' =>
    rw [hr] at h1
    simp only [Result.andThen, Oper.quietUpon] at h1
def marks : Nat → Nat → Array Bool → Array Bool
  | 0, _, listed => listed
  | f + 1, k, listed => marks f (k + 1) (listed.setIfInBounds k true)
def midB (md : Region.Mode) (ops : Array Oper) : Nat → Nat → Array Bool → Bool
  | 0, _, _ => true
  | f + 1, k, listed => (Region.ready md ops listed).contains k && Region.free md ops listed k && (match ops[k]? with | some o => plainOp o && o.dst.isSome | none => false) && midB md ops f (k + 1) (listed.setIfInBounds k true)
theorem any_mid {P : Program} {md : Region.Mode} {ops : Array Oper} {Q : Exit → Act → World → Prop} {w : World} {g : Nat} (hsel : Region.noSelect ops = true) (hQ : ∀ c a (d : Nat) v w, Q (.panic c) (Act.put a (some d) v) w → Q (.panic c) a w) :
    ∀ (l : List Oper) (k : Nat) (listed : Array Bool) (a : Act), (∀ j, j < l.length → l[j]? = ops[k + j]?) → midB md ops l.length k listed = true →
    wpQuiet P ops (fun w' => ∃ m : AnyW, w' = m.at_) (fun a' => wpAny P md ops Q g (marks l.length k listed) a' w) l a → wpAny P md ops Q (l.length + g) listed a w
  | [], k, listed, a, _, _, h => by rw [List.length_nil, Nat.zero_add]; exact h
  | o :: l, k, listed, a, hl, hB, h => by
    have e0 : ops[k]? = some o := by simpa using (hl 0 (by simp)).symm
    simp only [List.length_cons, midB, Bool.and_eq_true, e0] at hB
    obtain ⟨⟨⟨hr, hf⟩, hp, hd⟩, hB'⟩ := hB
    obtain ⟨d, hd'⟩ := Option.isSome_iff_exists.1 hd
    have hst : qOp P ops (fun w' => ∃ m : AnyW, w' = m.at_) k (wpQuiet P ops (fun w' => ∃ m : AnyW, w' = m.at_) (fun a' => wpAny P md ops Q g (marks (l.length + 1) k listed) a' w) l) a := by unfold qOp; simp only [e0]; exact h
    obtain ⟨v, hy, hK⟩ := yieldsIn_of_qOp e0 hst
    have hy' : Yields P ops o v a := by
      rcases hy with ⟨h1, h2⟩ | h1
      · exact .inl ⟨h1, yields_plain hp h2⟩
      · exact .inr h1
    rw [show (o :: l).length + g = (l.length + g) + 1 by simp; omega]
    exact wpAny_take e0 hsel hf hr (fun c a w hh => hQ c a d _ w (by rw [hd'] at hh; exact hh)) hy' (any_mid hsel hQ l (k + 1) _ _ (fun j hj => by have := hl (j + 1) (by simp; omega); simpa [Nat.add_assoc, Nat.add_comm 1 j] using this) hB' hK)
/-- f operations from number k on, that yield in whatever world, are taken first. -/
theorem wpAny_mid {P : Program} {Q : Exit → Act → World → Prop} {l : List Oper} {listed : Array Bool} {a : Act} {w : World} {G : Nat} (k f g : Nat) (hG : G = f + g) (hkf : k + f ≤ l.length) (hsel : Region.noSelect l.toArray = true) (hB : midB .any l.toArray f k listed = true) (hQ : ∀ c a (d : Nat) v w, Q (.panic c) (Act.put a (some d) v) w → Q (.panic c) a w)
    (h : wpQuiet P l.toArray (fun w' => ∃ m : AnyW, w' = m.at_) (fun a' => wpAny P .any l.toArray Q g (marks f k listed) a' w) ((l.drop k).take f) a) : wpAny P .any l.toArray Q G listed a w := by
  have hln : ((l.drop k).take f).length = f := by simp; omega
  have := any_mid (P := P) (md := .any) (ops := l.toArray) (Q := Q) (w := w) (g := g) hsel hQ ((l.drop k).take f) k listed a (fun j hj => by
    have hj' : j < f := by rw [hln] at hj; exact hj
    simp [hj', List.getElem?_drop]) (by rw [hln]; exact hB) (by rw [hln]; exact h)
  rw [hln] at this
  rw [hG]; exact this

end Go.Proofs.YtjnedbkbhoiopaaDoor
