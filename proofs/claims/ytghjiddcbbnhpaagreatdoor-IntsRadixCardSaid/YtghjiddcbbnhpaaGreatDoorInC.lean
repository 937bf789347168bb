/- Plain laws: a value's ways to be written in any radix, and what stands about them; lists and numbers alone: no statement of the seat is proved here. -/
import Derived.Test.YtghjiddcbbnhpaaGreatDoorInA
namespace Go.Proofs.YtghjiddcbbnhpaaGreatDoor

/-- What may stand behind a text that is taken as it is. -/
def Tail1 (s : List UInt8) : Prop := ∀ c, s.head? = some c → c ≠ 120 ∧ c ≠ 111 ∧ c ≠ 98
/-- A text that is read as a value. -/
structure WayT (want T : List UInt8) (q : Nat) (m : Bool) (X : List UInt8) (v : Nat) : Prop where
  way : ∀ s, Tail1 s → wayI (T ++ s) = (q, m, X ++ s)
  hq : q ≤ 16
  scan : ∀ t, scanQ q false (X ++ t) 0 = scanQ q true t v
  nz : badB q X = false
  lim : ¬ limI m < v
  txt : Lib.itoa (signI m v) = want
/-- What the law asks of a text. -/
structure AllT (want T : List UInt8) : Prop where
  r0 : readI T = (want, 0)
  r1 : readI (T ++ [95]) = ([], 3)
  r2 : readI (T ++ [95, 95, 49]) = ([], 3)
  r3 : readI (95 :: T) = ([], 3)
  r4 : readI (T ++ [32]) = ([], 3)
  r5 : readI (T ++ [46]) = ([], 3)
theorem way_low (l : List UInt8) : wayI (95 :: l) = (10, false, 95 :: l) := by
  have h2 : ∀ x : UInt8, ((95 : UInt8) :: l).take 2 ≠ [48, x] := by
    intro x e
    cases l <;> simp at e
  unfold wayI
  rw [if_neg (h2 120), if_neg (h2 111), if_neg (h2 98), if_neg (by intro e; simp at e), if_neg (by intro e; simp at e)]
theorem WayT.all {want T : List UInt8} {q : Nat} {m : Bool} {X : List UInt8} {v : Nat} (h : WayT want T q m X v) : AllT want T := by
  have hd : ∀ c : UInt8, digV c = 255 → c ≠ 95 → ∀ r, scanQ q true (c :: r) v = none := by
    intro c h1 h2 r
    rw [scanQ, if_neg h2, if_neg (by have := h.hq; omega)]
  have no : ∀ s, Tail1 s → scanQ q true s v = none → readI (T ++ s) = ([], 3) := fun s h1 h2 => read_no (h.way s h1) (.inr (by rw [h.scan, h2]))
  refine ⟨?_, ?_, ?_, ?_, ?_, ?_⟩
  · have h1 := h.way [] (fun c e => by cases e)
    rw [List.append_nil, List.append_nil] at h1
    have h2 := h.scan []
    rw [List.append_nil] at h2
    exact read_lit h1 h.nz h2 h.lim h.txt
  · exact no [95] (fun c e => by cases e; decide) (by rw [scanQ, if_pos rfl, if_pos (.inr rfl)])
  · exact no [95, 95, 49] (fun c e => by cases e; decide) (by rw [scanQ, if_pos rfl, if_neg (by simp), scanQ, if_pos rfl, if_pos (.inl rfl)])
  · exact read_no (way_low T) (.inr (by rw [scanQ, if_pos rfl, if_pos (.inl rfl)]))
  · exact no [32] (fun c e => by cases e; decide) (hd 32 (by decide) (by decide) [])
  · exact no [46] (fun c e => by cases e; decide) (hd 46 (by decide) (by decide) [])

theorem scan_chars {q : Nat} : ∀ (l : List UInt8) (p : Bool) (n v : Nat), scanQ q p l n = some v → ∀ c ∈ l, c = 95 ∨ digV c < q
  | [], _, _, _, _ => by simp
  | c :: l, p, n, v, h => by
    rw [scanQ] at h
    intro x hx
    split at h
    · rename_i h95
      split at h
      · cases h
      · rcases List.mem_cons.1 hx with rfl | hx
        · exact .inl h95
        · exact scan_chars l _ _ v h x hx
    · split at h
      · rename_i hd
        rcases List.mem_cons.1 hx with rfl | hx
        · exact .inr hd
        · exact scan_chars l _ _ v h x hx
      · cases h
theorem scan_more {q : Nat} (hq : q ≤ 16) : ∀ (l : List UInt8) (p : Bool) (n : Nat) (t : List UInt8), l ≠ [] → (∀ c ∈ l, digV c < q) → scanQ q p (l ++ t) n = scanQ q true t (valQ q n l)
  | [], _, _, _, h, _ => absurd rfl h
  | [c], p, n, t, _, h => by rw [List.singleton_append, scan_dig hq (h c (by simp))]; rfl
  | c :: d :: l, p, n, t, _, h => by
    rw [List.cons_append, scan_dig hq (h c (by simp)), scan_more hq (d :: l) true _ t (by simp) fun x hx => h x (by simp [hx])]; rfl
/-- A text of digits and marks, a digit ahead, is taken as it is. -/
theorem way_plain {c : UInt8} {l : List UInt8} (hc : dgB c = true) (hl : ∀ d ∈ l, d = 95 ∨ dgB d = true) {s : List UInt8} (hs : Tail1 s) : wayI (c :: l ++ s) = (10, false, c :: l ++ s) := by
  have h2 : ∀ x : UInt8, (x = 120 ∨ x = 111 ∨ x = 98) → (c :: l ++ s).take 2 ≠ [48, x] := by
    intro x hx e
    cases l with
    | nil =>
      cases s with
      | nil => simp at e
      | cons d k =>
        have h3 := hs d rfl
        simp only [List.cons_append, List.nil_append, List.take_succ_cons, List.take_zero, List.cons.injEq, and_true] at e
        rcases hx with rfl | rfl | rfl
        · exact h3.1 e.2
        · exact h3.2.1 e.2
        · exact h3.2.2 e.2
    | cons d k =>
      simp only [List.cons_append, List.take_succ_cons, List.take_zero, List.cons.injEq, and_true] at e
      have h3 := hl d (by simp)
      rw [e.2] at h3
      rcases hx with rfl | rfl | rfl <;> rcases h3 with h3 | h3 <;> cases h3
  unfold wayI
  rw [if_neg (h2 120 (by simp)), if_neg (h2 111 (by simp)), if_neg (h2 98 (by simp)), if_neg (by intro e; injection e with e; subst e; cases hc), if_neg (by intro e; injection e with e; subst e; cases hc)]
theorem dec_digs (n : Nat) : ∀ c ∈ Lib.decDigits n, digV c < 10 := fun c hc => by
  have h := dec_dg n c hc
  have := dgB_t.1 h
  rw [digV_dg h]; omega
theorem bad_dec {n : Nat} {O : List UInt8} (hh : O.head? = (Lib.decDigits n).head?) (hl : O.length + 1 ≤ 2 * (Lib.decDigits n).length) : badB 10 O = false := by
  refine decide_eq_false fun e => ?_
  rcases e with e | ⟨_, e1, e2⟩
  · subst e
    cases e : Lib.decDigits n with
    | nil => exact dec_ne n e
    | cons c l => rw [e] at hh; cases hh
  · rcases Nat.eq_zero_or_pos n with h0 | h0
    · subst h0
      rw [dec_zero, show ([48] : List UInt8).length = 1 from rfl] at hl; omega
    · exact dec_head h0 (by rw [← hh]; exact e2)
theorem chars10 {q : Nat} (hq : q = 10) {l : List UInt8} (h : ∀ c ∈ l, c = 95 ∨ digV c < q) : ∀ c ∈ l, c = 95 ∨ dgB c = true := fun c hc => (h c hc).imp id fun e => digV_10 (by omega)
/-- What a marked text of a number at base 10 gives. -/
structure Dec10 (n : Nat) (O : List UInt8) : Prop where
  scan : ∀ t, scanQ 10 false (O ++ t) 0 = scanQ 10 true t n
  head : O.head? = (Lib.decDigits n).head?
  len : O.length + 1 ≤ 2 * (Lib.decDigits n).length
theorem Dec10.self (n : Nat) : Dec10 n (Lib.decDigits n) :=
  ⟨fun t => by rw [scan_more (by omega) _ _ _ _ (dec_ne n) (dec_digs n), valQ_nat _ _ (dec_dg n), natV_dec], rfl, by have := List.length_pos_iff.2 (dec_ne n); omega⟩
theorem Dec10.of {n : Nat} {O : List UInt8} (h : Marked 10 (Lib.decDigits n) O) : Dec10 n O := ⟨fun t => by rw [h.scan, valQ_nat _ _ (dec_dg n), natV_dec], h.head, h.len⟩
theorem Dec10.cons {n : Nat} {O : List UInt8} (h : Dec10 n O) : ∃ c l, O = c :: l ∧ dgB c = true ∧ ∀ d ∈ l, d = 95 ∨ dgB d = true := by
  have h1 := h.scan []
  rw [List.append_nil] at h1
  have h2 := chars10 rfl (scan_chars O false 0 n (h1.trans rfl))
  have h3 := h.head
  cases e : O with
  | nil =>
    rw [e] at h3
    cases e2 : Lib.decDigits n with
    | nil => exact absurd e2 (dec_ne n)
    | cons c l => rw [e2] at h3; cases h3
  | cons c l =>
    rw [e] at h3 h2
    cases e2 : Lib.decDigits n with
    | nil => exact absurd e2 (dec_ne n)
    | cons d k =>
      rw [e2] at h3
      injection h3 with h3
      exact ⟨c, l, rfl, by rw [h3]; exact dec_dg n d (by rw [e2]; simp), fun x hx => h2 x (by simp [hx])⟩
theorem way_bare {n : Nat} {O : List UInt8} (h : Dec10 n O) (hn : n ≤ 9223372036854775807) : WayT (Lib.itoa (n : Int)) O 10 false O n := by
  obtain ⟨c, l, rfl, hc, hl⟩ := h.cons
  exact ⟨fun s hs => way_plain hc hl hs, by omega, h.scan, bad_dec h.head h.len, by show ¬ 9223372036854775807 < n; omega, rfl⟩
theorem way_neg {n : Nat} {O : List UInt8} (h : Dec10 n O) (hn : n ≤ 9223372036854775808) : WayT (Lib.itoa (-(n : Int))) (45 :: O) 10 true O n :=
  ⟨fun s _ => way_minus _, by omega, h.scan, bad_dec h.head h.len, by show ¬ 9223372036854775808 < n; omega, rfl⟩
theorem way_pos {n : Nat} {O : List UInt8} (h : Dec10 n O) (hn : n ≤ 9223372036854775807) : WayT (Lib.itoa (n : Int)) (43 :: O) 10 false O n :=
  ⟨fun s _ => way_plus _, by omega, h.scan, bad_dec h.head h.len, by show ¬ 9223372036854775807 < n; omega, rfl⟩
theorem mark_ne {q : Nat} {l O : List UInt8} (h : Marked q l O) (hl : l ≠ []) : O ≠ [] := fun e => by
  have := h.head
  rw [e] at this
  cases l with
  | nil => exact hl rfl
  | cons c r => cases this
theorem way_q16 {n : Nat} {O : List UInt8} (h : Marked 16 (fmtQ 16 n) O) (hn : n ≤ 9223372036854775807) : WayT (Lib.itoa (n : Int)) (48 :: 120 :: O) 16 false O n :=
  ⟨fun s _ => way_at16 _, by omega, fun t => by rw [h.scan, fmt_val (by omega) (by omega)], bad_no (mark_ne h (fmt_ne _ _)) (by omega), by show ¬ 9223372036854775807 < n; omega, rfl⟩
theorem way_q8 {n : Nat} {O : List UInt8} (h : Marked 8 (fmtQ 8 n) O) (hn : n ≤ 9223372036854775807) : WayT (Lib.itoa (n : Int)) (48 :: 111 :: O) 8 false O n :=
  ⟨fun s _ => way_at8 _, by omega, fun t => by rw [h.scan, fmt_val (by omega) (by omega)], bad_no (mark_ne h (fmt_ne _ _)) (by omega), by show ¬ 9223372036854775807 < n; omega, rfl⟩
theorem way_q2 {n : Nat} {O : List UInt8} (h : Marked 2 (fmtQ 2 n) O) (hn : n ≤ 9223372036854775807) : WayT (Lib.itoa (n : Int)) (48 :: 98 :: O) 2 false O n :=
  ⟨fun s _ => way_at2 _, by omega, fun t => by rw [h.scan, fmt_val (by omega) (by omega)], bad_no (mark_ne h (fmt_ne _ _)) (by omega), by show ¬ 9223372036854775807 < n; omega, rfl⟩
theorem way_up {n : Nat} {U : List UInt8} (hd : ∀ c ∈ U, digV c < 16) (hv : valQ 16 0 U = n) (hne : U ≠ []) (hn : n ≤ 9223372036854775807) : WayT (Lib.itoa (n : Int)) (48 :: 120 :: 48 :: 95 :: 48 :: U) 16 false (48 :: 95 :: 48 :: U) n := by
  refine ⟨fun s _ => way_at16 _, by omega, fun t => ?_, bad_no (by simp) (by omega), by show ¬ 9223372036854775807 < n; omega, rfl⟩
  rw [List.cons_append, List.cons_append, List.cons_append, scan_dig (by omega) (by decide), scanQ, if_pos rfl, if_neg (by simp), scan_dig (by omega) (by decide), scan_more (by omega) _ _ _ _ hne hd]
  rw [show (0 * 16 + digV 48) * 16 + digV 48 = 0 by decide, hv]

end Go.Proofs.YtghjiddcbbnhpaaGreatDoor
