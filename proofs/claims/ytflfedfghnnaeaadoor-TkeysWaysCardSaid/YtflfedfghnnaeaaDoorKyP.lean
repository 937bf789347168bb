/- Plain words for chapter 10 (TOML's keys): where blanks end, bare words, words as they are written, keys; no statement of the seat is proved here. -/
import Derived.Test.YtflfedfghnnaeaaDoorTqN
import Derived.Test.YtflfedfghnnaeaaDoorTkq
import Derived.Lib.DecodeN
namespace Go.Proofs.YtflfedfghnnaeaaDoor
open Go.RowKit

def blB (c : Nat) : Bool := c == 32 || c == 9
/-- Where blanks from a place on end. -/
def blT (l : List UInt8) (i : Nat) : Nat := i + ((l.drop i).takeWhile fun c => blB c.toNat).length
/-- Where bare bytes from a place on end. -/
def baT (l : List UInt8) (i : Nat) : Nat := i + ((l.drop i).takeWhile fun c => bareB c.toNat).length
theorem tw_app (p : UInt8 → Bool) : ∀ t r : List UInt8, (∀ c ∈ t, p c = true) → (∀ c, r.head? = some c → p c = false) → (t ++ r).takeWhile p = t := by
  intro t
  induction t with
  | nil =>
    intro r _ h
    cases r with
    | nil => rfl
    | cons x r => rw [List.nil_append, List.takeWhile_cons, h x rfl]; rfl
  | cons x t ih =>
    intro r h1 h2
    rw [List.cons_append, List.takeWhile_cons, h1 x (List.mem_cons_self ..), if_pos rfl, ih r (fun c hc => h1 c (List.mem_cons_of_mem _ hc)) h2]
theorem drop_on {l a b : List UInt8} {i : Nat} (h : l.drop i = a ++ b) : l.drop (i + a.length) = b := by rw [← List.drop_drop, h, List.drop_left]
theorem drop_len {l a b : List UInt8} {i : Nat} (h : l.drop i = a ++ b) (ha : 0 < a.length) : l.length = i + a.length + b.length := by
  have := congrArg List.length h
  rw [List.length_drop, List.length_append] at this
  omega
theorem drop_take {l a b : List UInt8} {i : Nat} (h : l.drop i = a ++ b) : (l.drop i).take (i + a.length - i) = a := by
  rw [show i + a.length - i = a.length by omega, h, List.take_left]
theorem blT_app {l b r : List UInt8} {i : Nat} (h : l.drop i = b ++ r) (hb : ∀ c ∈ b, blB c.toNat = true) (hr : ∀ c, r.head? = some c → blB c.toNat = false) : blT l i = i + b.length := by
  rw [blT, h, tw_app _ b r hb hr]
theorem bt_head {l r : List UInt8} {i n : Nat} (h : l.drop i = r) (hr : ∀ c, r.head? = some c → c.toNat ≠ n) (hn : n ≠ 256) : bt l i ≠ n := by
  cases r with
  | nil => rw [bt_ge (List.drop_eq_nil_iff.1 h)]; exact fun e => hn e.symm
  | cons x r => rw [bt_drop h]; exact hr x rfl
theorem baT_step {l : List UInt8} {k : Nat} (h : k < l.length) (hb : bareB l[k].toNat = true) : baT l k = baT l (k + 1) := by
  unfold baT
  rw [List.drop_eq_getElem_cons h, List.takeWhile_cons, hb, if_pos rfl, List.length_cons]; omega
theorem baT_stop {l : List UInt8} {k : Nat} (h : k < l.length) (hb : bareB l[k].toNat = false) : baT l k = k := by
  unfold baT
  rw [List.drop_eq_getElem_cons h, List.takeWhile_cons, hb]; rfl
theorem baT_end {l : List UInt8} {k : Nat} (h : l.length ≤ k) : baT l k = k := by
  unfold baT
  rw [List.drop_eq_nil_of_le h]; rfl
theorem baT_le {l : List UInt8} {k : Nat} (h : k ≤ l.length) : baT l k ≤ l.length := by
  unfold baT
  have := (List.takeWhile_sublist (fun c : UInt8 => bareB c.toNat) (l := l.drop k)).length_le
  rw [List.length_drop] at this
  omega
theorem bare_not : ∀ c : UInt8, bareB c.toNat = false ∨ (blB c.toNat = false ∧ c.toNat ≠ 34 ∧ c.toNat ≠ 39 ∧ c.toNat ≠ 46 ∧ c.toNat < 128) := u8_all (by decide +kernel)

/-- What may stand behind a word. -/
def Foll (r : List UInt8) : Prop := ∀ c, r.head? = some c → bareB c.toNat = false ∧ c.toNat ≠ 34 ∧ c.toNat ≠ 39
theorem Foll.nil : Foll [] := by intro c h; cases h
theorem Foll.cons {x : UInt8} {r : List UInt8} (h : bareB x.toNat = false ∧ x.toNat ≠ 34 ∧ x.toNat ≠ 39) : Foll (x :: r) := by
  intro c hc
  rw [List.head?_cons] at hc
  injection hc with hc
  subst hc; exact h
/-- How a word may be written. -/
inductive FormOf : List UInt8 → List UInt8 → Prop
  | bare {t : List UInt8} (h0 : t ≠ []) (h : ∀ c ∈ t, bareB c.toNat = true) : FormOf t t
  | basic (t : List UInt8) : FormOf (writeQ t) t
  | lit {t : List UInt8} (h : ∀ c ∈ t, plainB c.toNat = true ∧ c.toNat ≠ 39) : FormOf (39 :: (t ++ [39])) t
theorem FormOf.head {F t : List UInt8} (h : FormOf F t) : ∃ x F', F = x :: F' ∧ blB x.toNat = false ∧ x.toNat ≠ 46 := by
  cases h with
  | bare h0 h =>
    cases F with
    | nil => exact absurd rfl h0
    | cons x F =>
      rcases bare_not x with h1 | h1
      · rw [h x (List.mem_cons_self ..)] at h1; cases h1
      · exact ⟨x, F, rfl, h1.1, h1.2.2.2.1⟩
  | basic t => exact ⟨34, _, rfl, by decide, by decide⟩
  | lit h => exact ⟨39, _, rfl, by decide, by decide⟩
theorem FormOf.pos {F t : List UInt8} (h : FormOf F t) : 0 < F.length := by obtain ⟨x, F', rfl, _⟩ := h.head; simp

theorem rd_lit (l r : List UInt8) : ∀ (a : List UInt8) (i : Nat) (out : List UInt8), (∀ c ∈ a, plainB c.toNat = true ∧ c.toNat ≠ 39) → l.drop i = a ++ 39 :: r → rdT l 39 false i out = (out ++ a, ((i + a.length + 1 : Nat) : Int), 0, 0) := by
  intro a
  induction a with
  | nil =>
    intro i out _ h
    have hi := (drop_cons h).1
    have hs : stepT l 39 false i = (1, i + 1, []) := by rw [stepT, bt_drop h]; rfl
    rw [rdT_over hi hs]; rfl
  | cons c a ih =>
    intro i out hp h
    obtain ⟨h1, h2⟩ := hp c (List.mem_cons_self ..)
    have hi := (drop_cons h).1
    have hs : stepT l 39 false i = (0, i + 1, [c]) := by
      rw [stepT, bt_drop h, if_neg h2, if_neg (fun e => by cases e.2), if_neg (by simp), if_neg (by simp), if_pos h1]
      simp
    rw [rdT_on hi hs (by omega), ih (i + 1) (out ++ [c]) (fun x hx => hp x (List.mem_cons_of_mem _ hx)) (drop_cons h).2.2]
    simp only [List.append_assoc, List.singleton_append, List.length_cons]
    congr 2
    omega
theorem long_lit (l t r : List UInt8) (i : Nat) (hp : ∀ c ∈ t, plainB c.toNat = true ∧ c.toNat ≠ 39) (h : l.drop i = (39 :: (t ++ [39])) ++ r) (hr : ∀ c, r.head? = some c → c.toNat ≠ 39) : longT l i = false := by
  have b0 : bt l i = 39 := bt_drop h
  have h1 : l.drop (i + 1) = t ++ (39 :: r) := by have := (drop_cons h).2.2; simpa using this
  cases t with
  | nil =>
    have h2 : l.drop (i + 2) = r := (drop_cons h1).2.2
    have b2 := bt_head h2 hr (by decide)
    rw [longT, b0]
    simp [b2]
  | cons c t =>
    have b1 : bt l (i + 1) ≠ 39 := by rw [bt_drop h1]; exact (hp c (List.mem_cons_self ..)).2
    rw [longT, b0]
    simp [b1]

/-- A word at a place: its text, its end, what is wrong. -/
def wordT (l : List UInt8) (i : Nat) : List UInt8 × Int × Int × Int :=
  if longT l i then ([], (i : Int) + 2, 0, 0) else if i < baT l i then ((l.drop i).take (baT l i - i), (baT l i : Int), 0, 0) else readT l (i : Int)

/-- A word's place: its text is t, it ends ahead of j. -/
def WordAt (l : List UInt8) (i : Nat) (t : List UInt8) (j : Nat) : Prop := ∃ F r, l.drop i = F ++ r ∧ FormOf F t ∧ Foll r ∧ j = i + F.length
/-- No word is there. -/
def NoneAt (l : List UInt8) (i : Nat) : Prop := i ≤ l.length ∧ Foll (l.drop i)
theorem WordAt.le {l t : List UInt8} {i j : Nat} (h : WordAt l i t j) : i < j ∧ j ≤ l.length := by
  obtain ⟨F, r, h1, h2, _, rfl⟩ := h
  have := drop_len h1 h2.pos
  have := h2.pos
  omega
/-- A key from a place on: its words with their spans, its end; or the fault's place. The first number: how many words are looked for. -/
inductive KeyR (l : List UInt8) : Nat → Nat → List (List UInt8 × Nat × Nat) × Int × Int × Int → Prop
  | last {i j : Nat} {t : List UInt8} (h : WordAt l i t j) (hb : bt l (blT l j) ≠ 46) : KeyR l 1 i ([(t, i, j)], (j : Int), 0, 0)
  | bad {i : Nat} (h : NoneAt l i) : KeyR l 1 i ([], 0, 3, (i : Int))
  | more {n i j : Nat} {t : List UInt8} {ws : List (List UInt8 × Nat × Nat)} {e c a : Int} (h : WordAt l i t j) (hb : bt l (blT l j) = 46) (hk : KeyR l n (blT l (blT l j + 1)) (ws, e, c, a)) : KeyR l (n + 1) i (if c = 0 then ((t, i, j) :: ws, e, 0, 0) else ([], 0, c, a))

/-- A text that is a key of words, each with how it is written. -/
def KeyTxt (X : List UInt8) (ps : List (List UInt8 × List UInt8)) : Prop :=
  0 < X.length ∧ (∃ x X', X = x :: X' ∧ blB x.toNat = false) ∧ ∀ (l : List UInt8) (i : Nat) (r : List UInt8), l.drop i = X ++ r → Foll r → ∃ es : List (List UInt8 × Nat × Nat), es.map (·.1) = ps.map (·.1) ∧ es.map (fun e => (l.drop e.2.1).take (e.2.2 - e.2.1)) = ps.map (·.2) ∧ (∀ e ∈ es, e.2.1 ≤ e.2.2 ∧ e.2.2 ≤ l.length) ∧
    (bt l (blT l (i + X.length)) ≠ 46 → KeyR l ps.length i (es, ((i + X.length : Nat) : Int), 0, 0)) ∧
    (bt l (blT l (i + X.length)) = 46 → ∀ n ws e c a, KeyR l n (blT l (blT l (i + X.length) + 1)) (ws, e, c, a) → KeyR l (n + ps.length) i (if c = 0 then (es ++ ws, e, 0, 0) else ([], 0, c, a)))
theorem KeyTxt.one {F t : List UInt8} (hF : FormOf F t) : KeyTxt F [(t, F)] := by
  refine ⟨hF.pos, by obtain ⟨x, F', h1, h2, _⟩ := hF.head; exact ⟨x, F', h1, h2⟩, fun l i r h hr => ⟨[(t, i, i + F.length)], rfl, ?_, ?_, ?_, ?_⟩⟩
  · simp only [List.map_cons, List.map_nil]
    rw [drop_take h]
  · intro e he
    obtain rfl : e = (t, i, i + F.length) := by simpa using he
    have := drop_len h hF.pos
    dsimp only; omega
  · intro hb
    exact .last ⟨F, r, h, hF, hr, rfl⟩ hb
  · intro hb n ws e c a hk
    exact .more ⟨F, r, h, hF, hr, rfl⟩ hb hk
theorem KeyTxt.snoc {X F t b1 b2 : List UInt8} {ps : List (List UInt8 × List UInt8)} (hX : KeyTxt X ps) (hF : FormOf F t) (h1 : ∀ c ∈ b1, blB c.toNat = true) (h2 : ∀ c ∈ b2, blB c.toNat = true) : KeyTxt (X ++ (b1 ++ (46 :: (b2 ++ F)))) (ps ++ [(t, F)]) := by
  obtain ⟨hp, ⟨x, X', hx, hxb⟩, hX⟩ := hX
  refine ⟨by simp; omega, ⟨x, X' ++ (b1 ++ (46 :: (b2 ++ F))), by rw [hx]; rfl, hxb⟩, fun l i r h hr => ?_⟩
  have h0 : l.drop i = X ++ (b1 ++ (46 :: (b2 ++ (F ++ r)))) := by rw [h]; simp only [List.append_assoc, List.cons_append]
  have hbl : ∀ c : UInt8, blB c.toNat = false ∨ (bareB c.toNat = false ∧ c.toNat ≠ 34 ∧ c.toNat ≠ 39) := u8_all (by decide +kernel)
  have hf : Foll (b1 ++ (46 :: (b2 ++ (F ++ r)))) := by
    cases b1 with
    | nil => exact Foll.cons (by decide)
    | cons y b1 =>
      refine Foll.cons ?_
      rcases hbl y with g | g
      · rw [h1 y (List.mem_cons_self ..)] at g; cases g
      · exact g
  obtain ⟨es, e1, e2, e3, _, e5⟩ := hX l i _ h0 hf
  have d1 := drop_on h0
  have k1 : blT l (i + X.length) = i + X.length + b1.length := blT_app d1 h1 (fun c hc => by rw [List.head?_cons] at hc; injection hc with hc; subst hc; decide)
  have d2 := drop_on d1
  have k2 : bt l (i + X.length + b1.length) = 46 := bt_drop d2
  have d3 := (drop_cons d2).2.2
  obtain ⟨y, F', hy, hyb, _⟩ := hF.head
  have k3 : blT l (i + X.length + b1.length + 1) = i + X.length + b1.length + 1 + b2.length := blT_app d3 h2 (fun c hc => by rw [hy, List.cons_append, List.head?_cons] at hc; injection hc with hc; subst hc; exact hyb)
  have d4 := drop_on d3
  have hlen := drop_len d4 hF.pos
  have hend : i + (X ++ (b1 ++ (46 :: (b2 ++ F)))).length = i + X.length + b1.length + 1 + b2.length + F.length := by simp only [List.length_append, List.length_cons]; omega
  have hw : WordAt l (i + X.length + b1.length + 1 + b2.length) t (i + X.length + b1.length + 1 + b2.length + F.length) := ⟨F, r, d4, hF, hr, rfl⟩
  rw [k1] at e5
  rw [k3] at e5
  have e5 := e5 k2
  rw [hend]
  refine ⟨es ++ [(t, i + X.length + b1.length + 1 + b2.length, i + X.length + b1.length + 1 + b2.length + F.length)], ?_, ?_, ?_, ?_, ?_⟩
  · rw [List.map_append, List.map_append, e1]; rfl
  · rw [List.map_append, List.map_append, e2]
    simp only [List.map_cons, List.map_nil]
    rw [drop_take d4]
  · intro e he
    rcases List.mem_append.1 he with he | he
    · exact e3 e he
    · obtain rfl := List.mem_singleton.1 he
      dsimp only; omega
  · intro hb
    have := e5 1 _ _ _ _ (.last hw hb)
    rw [if_pos rfl] at this
    rw [List.length_append, Nat.add_comm]
    exact this
  · intro hb n ws e c a hk
    have := e5 (n + 1) (if c = 0 then (t, i + X.length + b1.length + 1 + b2.length, i + X.length + b1.length + 1 + b2.length + F.length) :: ws else []) (if c = 0 then e else 0) c (if c = 0 then 0 else a) (by
      have := KeyR.more hw hb hk
      by_cases hc : c = 0
      · subst hc; simpa using this
      · rw [if_neg hc] at this
        rw [if_neg hc, if_neg hc, if_neg hc]; exact this)
    rw [List.length_append, show n + (ps.length + [(t, F)].length) = n + 1 + ps.length by simp; omega]
    by_cases hc : c = 0
    · subst hc
      simp only at this
      rw [if_pos rfl, List.append_assoc]; exact this
    · rw [if_neg hc, if_neg hc] at this
      rw [if_neg hc]; exact this

theorem get_bang (s : ByteArray) (i : Nat) (h : i < s.size) : s.get! i = s[i] := by
  show s.data[i]! = s.data[i]
  exact getElem!_pos s.data i h
theorem dec_small {s : ByteArray} {i : Nat} (h : i < s.size) (hb : s[i].toNat < 128) : Utf8.decode s i = (s[i].toNat, 1) := by
  rw [Lib.decode_at, get_bang s i h]
  unfold Lib.decodeN
  rw [if_pos hb]
theorem dec_big {s : ByteArray} {i : Nat} (h : i < s.size) (hb : 128 ≤ s[i].toNat) : 128 ≤ (Utf8.decode s i).1 := by
  rw [Lib.decode_at, get_bang s i h]
  have := s[i].toNat_lt
  unfold Lib.decodeN
  repeat' split
  all_goals (dsimp only; omega)
/-- Bare: every byte is. -/
theorem idx_bare (s : ByteArray) : ∀ (f pos : Nat), s.size - pos ≤ f → (Lib.idxFuncFrom wildR true s f pos < 0 ↔ ∀ k, pos ≤ k → (h : k < s.size) → bareB s[k].toNat = true) := by
  intro f
  induction f with
  | zero =>
    intro pos hf
    constructor
    · intro _ k h1 h2; omega
    · intro _; show (-1 : Int) < 0; decide
  | succ f ih =>
    intro pos hf
    unfold Lib.idxFuncFrom
    by_cases hp : pos < s.size
    · rw [if_pos hp]
      by_cases h128 : s[pos].toNat < 128
      · have hd : Utf8.decode s pos = (s[pos].toNat, 1) := dec_small hp h128
        rw [hd]
        dsimp only
        have hw : wildR s[pos].toNat = !bareB s[pos].toNat := by unfold wildR; rw [decide_eq_false (by omega)]; rfl
        rw [hw]
        by_cases hb : bareB s[pos].toNat = true
        · rw [hb, if_neg (by simp), ih (pos + 1) (by omega)]
          constructor
          · intro h k h1 h2
            by_cases hk : k = pos
            · subst hk; exact hb
            · exact h k (by omega) h2
          · intro h k h1 h2; exact h k (by omega) h2
        · have hb' : bareB s[pos].toNat = false := by simpa using hb
          rw [hb', if_pos (by simp)]
          constructor
          · intro h; omega
          · intro h; rw [h pos (Nat.le_refl _) hp] at hb'; cases hb'
      · have hb' : bareB s[pos].toNat = false := by
          rcases bare_not s[pos] with g | g
          · exact g
          · omega
        have hw : wildR (Utf8.decode s pos).1 = true := by
          unfold wildR
          rw [decide_eq_true (dec_big hp (by omega))]; rfl
        rw [hw, if_pos rfl]
        constructor
        · intro h; omega
        · intro h; rw [h pos (Nat.le_refl _) hp] at hb'; cases hb'
    · rw [if_neg hp]
      constructor
      · intro _ k h1 h2; omega
      · intro _; decide

theorem bareW_eq (s : ByteArray) : bareW s = (!s.data.toList.isEmpty && s.data.toList.all fun c => bareB c.toNat) := by
  have h1 : s.toList.isEmpty = s.data.toList.isEmpty := by rw [Lib.toList_data]
  have h2 : decide (Lib.idxFunc wildR true s < 0) = s.data.toList.all fun c => bareB c.toNat := by
    rw [Bool.eq_iff_iff, decide_eq_true_iff, List.all_eq_true]
    unfold Lib.idxFunc
    rw [idx_bare s s.size 0 (by omega)]
    constructor
    · intro h c hc
      obtain ⟨k, hk, rfl⟩ := List.mem_iff_getElem.1 hc
      exact h k (by omega) hk
    · intro h k _ hk
      exact h _ (List.mem_iff_getElem.2 ⟨k, hk, rfl⟩)
  unfold bareW
  rw [h1, h2]
theorem form_keyW (s : ByteArray) : FormOf (keyW s).data.toList s.data.toList := by
  unfold keyW
  cases h : bareW s
  · rw [if_neg (by simp)]; exact .basic _
  · rw [if_pos rfl]
    rw [bareW_eq, Bool.and_eq_true] at h
    obtain ⟨h1, h2⟩ := h
    exact .bare (fun e => by rw [e] at h1; cases h1) (List.all_eq_true.1 h2)
theorem keyW_same (s : ByteArray) : bareW s = decide ((keyW s).data.toList = s.data.toList) := by
  unfold keyW
  cases h : bareW s
  · rw [if_neg (by simp), decide_eq_false]
    intro e
    have := congrArg List.length e
    have hw : (writeQ s.data.toList).length = _ := writeQ_len _
    have hc : s.data.toList.length ≤ (s.data.toList.flatMap wrB).length := by
      have : ∀ l : List UInt8, l.length ≤ (l.flatMap wrB).length := by
        intro l
        induction l with
        | nil => simp
        | cons c l ih => have := wr_pos c; simp at ih ⊢; omega
      exact this _
    simp only at this
    omega
  · rw [if_pos rfl]; simp
def pairW (s : ByteArray) : List UInt8 × List UInt8 := (s.data.toList, (keyW s).data.toList)
theorem keyTxt_tail : ∀ (r : List ByteArray) (X : List UInt8) (ps : List (List UInt8 × List UInt8)), KeyTxt X ps → KeyTxt (X ++ Lib.joinTail [46] ((r.map keyW).map (·.data.toList))) (ps ++ r.map pairW) := by
  intro r
  induction r with
  | nil => intro X ps h; simpa [Lib.joinTail] using h
  | cons y r ih =>
    intro X ps h
    have h1 := ih _ _ (h.snoc (b1 := []) (b2 := []) (form_keyW y) (by simp) (by simp))
    have e1 : X ++ ([] ++ (46 :: ([] ++ (keyW y).data.toList))) ++ Lib.joinTail [46] ((r.map keyW).map (·.data.toList)) = X ++ Lib.joinTail [46] (((y :: r).map keyW).map (·.data.toList)) := by
      have e : Lib.joinTail [46] (((y :: r).map keyW).map (·.data.toList)) = ([46] ++ (keyW y).data.toList) ++ Lib.joinTail [46] ((r.map keyW).map (·.data.toList)) := rfl
      rw [e]
      simp only [List.nil_append, List.append_assoc, List.cons_append]
    have e2 : ps ++ [(y.data.toList, (keyW y).data.toList)] ++ r.map pairW = ps ++ (y :: r).map pairW := by
      rw [List.append_assoc]; rfl
    rw [e1, e2] at h1
    exact h1
theorem keyTxt_key (ws : List ByteArray) (h : ws ≠ []) : KeyTxt (keyL ws) (ws.map pairW) := by
  cases ws with
  | nil => exact absurd rfl h
  | cons y r =>
    have h1 := keyTxt_tail r _ _ (KeyTxt.one (form_keyW y))
    have e : keyL (y :: r) = (keyW y).data.toList ++ Lib.joinTail [46] ((r.map keyW).map (·.data.toList)) := by unfold keyL; rw [List.map_cons, List.map_cons, Lib.join_cons]
    rw [e]
    exact h1

end Go.Proofs.YtflfedfghnnaeaaDoor
