/- Plain laws on integers' texts: values, marks, what is read; lists and numbers alone: no statement of the seat is proved here. -/
import Derived.Test.YtncldnghhpdolaaGreatDoorInV
import Derived.Test.YtncldnghhpdolaaGreatDoorDcV
import Derived.Lib.Replace
import Derived.Lib.IndexBytes
namespace Go.Proofs.YtncldnghhpdolaaGreatDoor

/-- A text's value in a base, behind a number. -/
def valQ (q : Nat) : Nat → List UInt8 → Nat
  | n, [] => n
  | n, c :: l => valQ q (n * q + digV c) l
theorem valQ_app (q : Nat) : ∀ (a b : List UInt8) (n : Nat), valQ q n (a ++ b) = valQ q (valQ q n a) b
  | [], _, _ => rfl
  | c :: a, b, n => by rw [List.cons_append, valQ, valQ]; exact valQ_app q a b _
theorem valQ_le {q : Nat} (hq : 1 ≤ q) : ∀ (l : List UInt8) (n : Nat), n ≤ valQ q n l
  | [], _ => Nat.le_refl _
  | c :: l, n => by
    rw [valQ]
    refine Nat.le_trans ?_ (valQ_le hq l _)
    exact Nat.le_trans (Nat.le_mul_of_pos_right n hq) (Nat.le_add_right _ _)
theorem puL_val {q : Nat} (hq : 1 ≤ q) : ∀ (l : List UInt8) (n : Nat), n < 18446744073709551616 → (∀ c ∈ l, digV c < q) → puL q l n = if 18446744073709551616 ≤ valQ q n l then .rng else .ok (valQ q n l)
  | [], n, hn, _ => by rw [puL, valQ, if_neg (by omega)]
  | c :: l, n, hn, h => by
    have hc := h c (by simp)
    rw [puL, valQ, if_neg (by omega)]
    by_cases h2 : 18446744073709551616 ≤ n * q + digV c
    · have := valQ_le hq l (n * q + digV c)
      rw [if_pos h2, if_pos (by omega)]
    · rw [if_neg h2]
      exact puL_val hq l _ (by omega) fun x hx => h x (by simp [hx])
theorem puL_syn {q : Nat} : ∀ (l : List UInt8) (n m : Nat), puL q l n = .ok m → ∀ c ∈ l, digV c < q
  | [], _, _, _ => by simp
  | c :: l, n, m, h => by
    rw [puL] at h
    split at h
    · cases h
    · split at h
      · cases h
      · intro x hx
        rcases List.mem_cons.1 hx with rfl | hx
        · omega
        · exact puL_syn l _ m h x hx

/-- Without low marks. -/
def lowless (l : List UInt8) : List UInt8 := l.filter (· != 95)
theorem lowless_none {l : List UInt8} (h : ∀ c ∈ l, c ≠ 95) : lowless l = l := by
  unfold lowless; rw [List.filter_eq_self]; intro c hc; simpa using h c hc
theorem idx_split {l : List UInt8} {i : Nat} (h : Lib.index l [95] = (i : Int)) : i < l.length ∧ lowless l = l.take i ++ lowless (l.drop (i + 1)) := by
  rw [Lib.index_one] at h
  obtain ⟨h1, h2⟩ := Lib.indexByte_some h
  obtain ⟨hi, h3⟩ := List.getElem?_eq_some_iff.1 h1
  refine ⟨hi, ?_⟩
  conv => lhs; rw [← List.take_append_drop i l, List.drop_eq_getElem_cons hi, h3]
  unfold lowless
  rw [List.filter_append]
  have : List.filter (· != 95) (l.take i) = l.take i := by
    rw [List.filter_eq_self]
    intro c hc
    obtain ⟨k, hk, rfl⟩ := List.mem_iff_getElem.1 hc
    have hk1 : k < i := by simp at hk; omega
    have h4 := h2 k hk1
    rw [List.getElem?_eq_getElem (by omega)] at h4
    simp only [List.getElem_take]
    simpa using fun e => h4 (by rw [e])
  rw [this]; rfl
theorem idx_none {l : List UInt8} (h : Lib.index l [95] = -1) : lowless l = l := by
  rw [Lib.index_one] at h
  refine lowless_none fun c hc e => ?_
  obtain ⟨k, hk, rfl⟩ := List.mem_iff_getElem.1 hc
  exact Lib.indexByte_none h k (by rw [List.getElem?_eq_getElem hk, e])
theorem repK_low : ∀ (k : Nat) (l : List UInt8), Lib.count l [95] ≤ k → Lib.replaceK [95] [] k l = lowless l := by
  intro k
  induction k with
  | zero =>
    intro l h
    rw [Lib.replaceK]
    by_cases hm : Lib.index l [95] = -1
    · exact (idx_none hm).symm
    · obtain ⟨i, hi⟩ : ∃ i : Nat, Lib.index l [95] = i := ⟨(Lib.index l [95]).toNat, by have := Lib.index_ge l [95]; omega⟩
      have := Lib.count_hit (by simp) hi
      omega
  | succ k ih =>
    intro l h
    by_cases hm : Lib.index l [95] = -1
    · rw [Lib.replaceK, if_pos (by rw [hm]; rfl)]; exact (idx_none hm).symm
    · obtain ⟨i, hi⟩ : ∃ i : Nat, Lib.index l [95] = i := ⟨(Lib.index l [95]).toNat, by have := Lib.index_ge l [95]; omega⟩
      have hc := Lib.count_hit (by simp) hi
      rw [Lib.replaceK_hit _ _ _ _ _ hi, List.append_nil, (idx_split hi).2]
      congr 1
      exact ih _ (by simp only [List.length_cons, List.length_nil] at hc ⊢; omega)
theorem replace_low (l : List UInt8) : Lib.replaceAll l [95] [] = lowless l := by
  unfold Lib.replaceAll Lib.replace
  rw [if_neg (by decide), Lib.replaceNum, if_pos (.inl (by decide))]
  exact repK_low _ l (Nat.le_refl _)

/-- What is scanned: no mark at an end, none beside another; digits alone. -/
def scanQ (q : Nat) : Bool → List UInt8 → Nat → Option Nat
  | _, [], n => some n
  | p, c :: r, n => if c = 95 then (if p = false ∨ r = [] then none else scanQ q false r n) else if digV c < q then scanQ q true r (n * q + digV c) else none
def partQ (q : Nat) (a : List UInt8) : Bool := !a.isEmpty && a.all fun c => decide (digV c < q)
def restQ (q : Nat) (p : Bool) : List (List UInt8) → Bool
  | [] => false
  | a :: ps => (p || !a.isEmpty) && (a.all fun c => decide (digV c < q)) && ps.all (partQ q)
theorem rest_false (q : Nat) (l : List UInt8) : restQ q false (spl l) = (spl l).all (partQ q) := by
  cases h : spl l with
  | nil => exact absurd h (spl_ne l)
  | cons a ps => simp [restQ, partQ]
theorem scan_right (q : Nat) (_hq : q ≤ 16) : ∀ (l : List UInt8) (p : Bool) (n : Nat), (l ≠ [] ∨ p = true) → scanQ q p l n = if restQ q p (spl l) = true then some (valQ q n (lowless l)) else none := by
  intro l
  induction l with
  | nil =>
    intro p n h
    have : p = true := h.resolve_left (by simp)
    subst this
    rfl
  | cons c r ih =>
    intro p n _
    rw [scanQ, spl]
    by_cases hc : c = 95
    · subst hc
      rw [if_pos rfl, if_pos rfl]
      have hl : lowless (95 :: r) = lowless r := rfl
      rw [hl]
      by_cases hr : p = false ∨ r = []
      · rw [if_pos hr, if_neg]
        rcases hr with rfl | rfl
        · simp [restQ]
        · simp [restQ, spl, partQ]
      · rw [if_neg hr, ih false n (.inl fun e => hr (.inr e)), rest_false]
        have hp : p = true := by cases p <;> simp at hr ⊢
        subst hp
        simp [restQ]
    · rw [if_neg hc, if_neg hc]
      have hl : lowless (c :: r) = c :: lowless r := by unfold lowless; rw [List.filter_cons_of_pos (by simpa using hc)]
      rw [hl, valQ]
      cases hs : spl r with
      | nil => exact absurd hs (spl_ne r)
      | cons a ps =>
        by_cases hd : digV c < q
        · rw [if_pos hd, ih true _ (.inr rfl), hs]
          simp [restQ, hd]
        · rw [if_neg hd, if_neg]
          simp [restQ, hd]

/-- The digits of a radix, as the program has them. -/
def dgs (q : Nat) : List UInt8 := if q = 16 then [48, 49, 50, 51, 52, 53, 54, 55, 56, 57, 97, 98, 99, 100, 101, 102, 65, 66, 67, 68, 69, 70] else if q = 10 then [48, 49, 50, 51, 52, 53, 54, 55, 56, 57] else if q = 8 then [48, 49, 50, 51, 52, 53, 54, 55] else [48, 49]
def Base4 (q : Nat) : Prop := q = 2 ∨ q = 8 ∨ q = 10 ∨ q = 16
theorem dgs2 : ∀ c : UInt8, (dgs 2).contains c = decide (digV c < 2) := u8_all (by decide +kernel)
theorem dgs8 : ∀ c : UInt8, (dgs 8).contains c = decide (digV c < 8) := u8_all (by decide +kernel)
theorem dgs10 : ∀ c : UInt8, (dgs 10).contains c = decide (digV c < 10) := u8_all (by decide +kernel)
theorem dgs16 : ∀ c : UInt8, (dgs 16).contains c = decide (digV c < 16) := u8_all (by decide +kernel)
theorem dgs_iff {q : Nat} (hq : Base4 q) (c : UInt8) : (dgs q).contains c = decide (digV c < q) := by
  rcases hq with rfl | rfl | rfl | rfl
  · exact dgs2 c
  · exact dgs8 c
  · exact dgs10 c
  · exact dgs16 c
theorem right_scan {q : Nat} (hq : Base4 q) {l : List UInt8} (hl : l ≠ []) : scanQ q false l 0 = if rightB (dgs q) l = true then some (valQ q 0 (lowless l)) else none := by
  rw [scan_right q (by unfold Base4 at hq; omega) l false 0 (.inl hl), rest_false]
  have : rightB (dgs q) l = (spl l).all (partQ q) := by
    unfold rightB
    congr 1
    funext p
    unfold partB partQ
    congr 2
    funext c
    exact dgs_iff hq c
  rw [this]
theorem right_nil (dg : List UInt8) : rightB dg [] = false := rfl
theorem right_digits {q : Nat} (hq : Base4 q) : ∀ (l : List UInt8), rightB (dgs q) l = true → ∀ c ∈ lowless l, digV c < q := by
  have h : ∀ (l : List UInt8), (∀ p ∈ spl l, ∀ c ∈ p, digV c < q) → ∀ c ∈ lowless l, digV c < q := by
    intro l
    induction l with
    | nil => intro _ c hc; cases hc
    | cons c r ih =>
      intro h x hx
      rw [spl] at h
      by_cases hc : c = 95
      · rw [if_pos hc] at h
        subst hc
        exact ih (fun p hp => h p (by simp [hp])) x hx
      · rw [if_neg hc] at h
        have hl : lowless (c :: r) = c :: lowless r := by unfold lowless; rw [List.filter_cons_of_pos (by simpa using hc)]
        cases hs : spl r with
        | nil => exact absurd hs (spl_ne r)
        | cons a ps =>
          simp only [hs] at h
          rw [hl] at hx
          rcases List.mem_cons.1 hx with rfl | hx
          · exact h (x :: a) (by simp) x (by simp)
          · refine ih (fun p hp y hy => ?_) x hx
            rw [hs] at hp
            rcases List.mem_cons.1 hp with rfl | hp
            · exact h (c :: p) (by simp) y (by simp [hy])
            · exact h p (by simp [hp]) y hy
  intro l hr
  refine h l fun p hp c hc => ?_
  have h1 := List.all_eq_true.1 hr p hp
  rw [partB, Bool.and_eq_true] at h1
  have h2 := List.all_eq_true.1 h1.2 c hc
  rw [dgs_iff hq c] at h2
  exact of_decide_eq_true h2

/-- How a text is taken: the base, a minus, the digits. -/
def wayI (l : List UInt8) : Nat × Bool × List UInt8 :=
  if l.take 2 = [48, 120] then (16, false, l.drop 2) else if l.take 2 = [48, 111] then (8, false, l.drop 2) else if l.take 2 = [48, 98] then (2, false, l.drop 2)
  else if l.head? = some 43 then (10, false, l.drop 1) else if l.head? = some 45 then (10, true, l.drop 1) else (10, false, l)
theorem way_base (l : List UInt8) : Base4 (wayI l).1 := by
  unfold wayI Base4
  split
  · simp
  · split
    · simp
    · split
      · simp
      · split
        · simp
        · split <;> simp
def limI (m : Bool) : Nat := if m then 9223372036854775808 else 9223372036854775807
def signI (m : Bool) (n : Nat) : Int := if m then -(n : Int) else n
/-- What is read of a text: its normal form and a code. -/
def readW (q : Nat) (m : Bool) (r : List UInt8) : List UInt8 × Int :=
  if r = [] ∨ (q = 10 ∧ 1 < r.length ∧ r.head? = some 48) then ([], 3) else match scanQ q false r 0 with
    | none => ([], 3)
    | some n => if limI m < n then ([], 8) else (Lib.itoa (signI m n), 0)
def readI (l : List UInt8) : List UInt8 × Int := readW (wayI l).1 (wayI l).2.1 (wayI l).2.2

end Go.Proofs.YtncldnghhpdolaaGreatDoor
