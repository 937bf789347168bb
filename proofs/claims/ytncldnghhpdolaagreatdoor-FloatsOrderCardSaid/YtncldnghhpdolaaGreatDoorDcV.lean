/- Plain laws on the values of decimals; lists and numbers alone: no statement of the seat is proved here. -/
import Derived.Test.YtncldnghhpdolaaGreatDoorDcO
namespace Go.Proofs.YtncldnghhpdolaaGreatDoor

theorem natV_rep (a i : Nat) : natV a (List.replicate i 48) = a * 10 ^ i := by
  induction i generalizing a with
  | zero => simp [natV_nil]
  | succ i ih =>
    rw [List.replicate_succ, natV_cons, show (48 : UInt8).toNat = 48 from rfl, Nat.sub_self, Nat.add_zero, ih, Nat.pow_succ, Nat.mul_comm 10 a, Nat.mul_assoc, Nat.mul_comm 10]
theorem natV_gt : ∀ (l : List UInt8) (a : Nat), l ≠ [] → (∀ c ∈ l, dgB c = true) → l.getLast? ≠ some 48 → a * 10 ^ l.length < natV a l
  | [], _, h, _, _ => absurd rfl h
  | [c], a, _, hd, hl => by
    have h1 := dgB_t.1 (hd c (by simp))
    have h2 : c.toNat ≠ 48 := fun e => hl (by rw [List.getLast?_singleton, UInt8.toNat_inj.1 (show c.toNat = (48 : UInt8).toNat from e)])
    rw [natV_cons, natV_nil, List.length_singleton]
    omega
  | c :: b :: t, a, _, hd, hl => by
    have := natV_gt (b :: t) (10 * a + (c.toNat - 48)) (by simp) (fun x hx => hd x (by simp only [List.mem_cons] at hx ⊢; exact .inr hx)) (by rw [List.getLast?_cons_cons] at hl; exact hl)
    rw [natV_cons]
    refine Nat.lt_of_le_of_lt ?_ this
    rw [List.length_cons (a := c), Nat.pow_succ, Nat.mul_comm _ 10, ← Nat.mul_assoc, Nat.mul_comm a 10]
    exact Nat.mul_le_mul_right _ (by omega)
theorem cb_val : ∀ (d k : List UInt8) (acc i j : Nat), (∀ c ∈ d, dgB c = true) → (∀ c ∈ k, dgB c = true) → k.getLast? ≠ some 48 → d.length + i = k.length + j → Lib.compareBytes d k < 0 →
    natV acc (d ++ List.replicate i 48) < natV acc (k ++ List.replicate j 48)
  | [], [], _, _, _, _, _, _, _, h => by simp [Lib.compareBytes] at h
  | [], c :: t, acc, i, j, _, hk, hl, he, _ => by
    have := natV_gt (c :: t) acc (by simp) hk hl
    rw [List.nil_append, natV_app, natV_rep, natV_rep]
    have e : i = (c :: t).length + j := by simpa using he
    rw [e, Nat.pow_add, ← Nat.mul_assoc]
    exact Nat.mul_lt_mul_of_pos_right this (Nat.pow_pos (by omega))
  | _ :: _, [], _, _, _, _, _, _, _, h => by simp [Lib.compareBytes] at h
  | a :: l, b :: k, acc, i, j, hd, hk, hl, he, h => by
    have ha := dgB_t.1 (hd a (by simp))
    have hb := dgB_t.1 (hk b (by simp))
    have e1 := @u8_lt a b
    have e2 := @u8_lt b a
    have hd' : ∀ c ∈ l, dgB c = true := fun c hc => hd c (by simp [hc])
    have hk' : ∀ c ∈ k, dgB c = true := fun c hc => hk c (by simp [hc])
    have he' : l.length + i = k.length + j := by simp only [List.length_cons] at he; omega
    rw [List.cons_append, List.cons_append, natV_cons, natV_cons]
    unfold Lib.compareBytes at h
    by_cases g : a < b
    · have g' := e1.1 g
      have h1 := natV_lt (l ++ List.replicate i 48) (10 * acc + (a.toNat - 48)) (by
        intro c hc
        rcases List.mem_append.1 hc with hc | hc
        · exact hd' c hc
        · rw [List.eq_of_mem_replicate hc]; rfl)
      have h2 := natV_pow (k ++ List.replicate j 48) (10 * acc + (b.toNat - 48))
      refine Nat.lt_of_lt_of_le h1 (Nat.le_trans ?_ h2)
      rw [List.length_append, List.length_append, List.length_replicate, List.length_replicate, he']
      exact Nat.mul_le_mul_right _ (by omega)
    · rw [if_neg g] at h
      split at h
      · simp at h
      · rename_i g2
        have hab : a.toNat = b.toNat := by rw [e1] at g; rw [e2] at g2; omega
        rw [hab]
        cases k with
        | nil =>
          exfalso
          cases l <;> simp [Lib.compareBytes] at h
        | cons b' k' =>
          rw [List.getLast?_cons_cons] at hl
          exact cb_val l (b' :: k') _ i j hd' hk' hl he' h

theorem dec_natV : ∀ (n : Nat) (l : List UInt8), l.length = n → l ≠ [] → (∀ c ∈ l, dgB c = true) → l.head? ≠ some 48 → Lib.decDigits (natV 0 l) = l := by
  intro n
  induction n with
  | zero => intro l hl hn; exact absurd (List.length_eq_zero_iff.1 hl) hn
  | succ n ih =>
    intro l hl hn hd hh
    obtain ⟨k, c, rfl⟩ : ∃ k c, l = k ++ [c] := ⟨l.dropLast, l.getLast hn, (List.dropLast_concat_getLast hn).symm⟩
    have hc := dgB_t.1 (hd c (by simp))
    have hcc : UInt8.ofNat (48 + (c.toNat - 48)) = c := by
      apply UInt8.toNat_inj.1
      rw [UInt8.toNat_ofNat']
      omega
    rw [natV_app, natV_cons, natV_nil]
    by_cases hk : k = []
    · subst hk
      rw [natV_nil, Lib.decDigits, dif_pos (by omega), show 10 * 0 + (c.toNat - 48) = c.toNat - 48 by omega, hcc]; rfl
    · have hv : 1 ≤ natV 0 k := by
        cases k with
        | nil => exact absurd rfl hk
        | cons a t =>
          have := natV_long (c := a) (l := t) (hd a (by simp)) (fun e => hh (by rw [e]; rfl))
          exact Nat.le_trans (Nat.one_le_pow _ _ (by omega)) this
      rw [Lib.decDigits, dif_neg (by omega), show (10 * natV 0 k + (c.toNat - 48)) / 10 = natV 0 k by omega, show (10 * natV 0 k + (c.toNat - 48)) % 10 = c.toNat - 48 by omega, hcc,
        ih k (by rw [List.length_append] at hl; simpa using hl) hk (fun x hx => hd x (by simp [hx])) (by
          cases k with
          | nil => exact absurd rfl hk
          | cons a t => exact hh)]
theorem dec_zero : Lib.decDigits 0 = [48] := by rw [Lib.decDigits, dif_pos (by omega)]; rfl
theorem dec_head {n : Nat} (h : 0 < n) : (Lib.decDigits n).head? ≠ some 48 := by
  induction n using Nat.strongRecOn with
  | _ n ih =>
    rw [Lib.decDigits]
    split
    · rename_i h10
      have hh : ∀ v < 10, 0 < v → UInt8.ofNat (48 + v) ≠ 48 := by decide
      simpa using hh n h10 h
    · have h1 := ih (n / 10) (by omega) (by omega)
      have h2 := dec_ne (n / 10)
      cases e : Lib.decDigits (n / 10) with
      | nil => exact absurd e h2
      | cons a t => rw [e] at h1; exact h1
theorem lstrip_val {l : List UInt8} (h : ∀ c ∈ l, dgB c = true) : lstrip l = lstrip (Lib.decDigits (natV 0 l)) := by
  have hv : natV 0 (lstrip l) = natV 0 l := natV_zeros l
  cases e : lstrip l with
  | nil => rw [← hv, e, natV_nil, dec_zero]; rfl
  | cons a t =>
    have hd : ∀ c ∈ lstrip l, dgB c = true := fun c hc => h c (lstrip_mem hc)
    have hh := lstrip_head l
    have h1 := dec_natV _ (lstrip l) rfl (by rw [e]; simp) hd hh
    rw [hv] at h1
    rw [h1, e, lstrip_self]
    rw [← e]; exact hh
/-- A normal form hangs on the digits' value alone. -/
theorem norm_val {l : List UInt8} (h : ∀ c ∈ l, dgB c = true) (m : Bool) (e : Int) : normalD m l e = normalD m (Lib.decDigits (natV 0 l)) e := by
  unfold normalD; rw [lstrip_val h]
theorem nrm_zero (m : Bool) (e : Int) : normalD m (Lib.decDigits 0) e = .zero := by
  rw [dec_zero, normalD, if_pos (by decide)]
theorem nrm_pos {n : Nat} (h : 0 < n) (m : Bool) (e : Int) : ∃ (z : Nat) (d : List UInt8), Lib.decDigits n = d ++ List.replicate z 48 ∧ d ≠ [] ∧ d.getLast? ≠ some 48 ∧ (∀ c ∈ d, dgB c = true) ∧ d.head? ≠ some 48 ∧ normalD m (Lib.decDigits n) e = ⟨m, d, e + z⟩ := by
  obtain ⟨z, hz⟩ := rstrip_pre (Lib.decDigits n)
  have h1 := lstrip_self (dec_head h)
  have hne : rstrip (Lib.decDigits n) ≠ [] := by
    intro q
    have := lstrip_nil (l := Lib.decDigits n) (by rw [h1]; exact q)
    rw [h1] at this
    exact dec_ne n this
  refine ⟨z, rstrip (Lib.decDigits n), hz, hne, rstrip_last _, fun c hc => dec_dg n c (rstrip_mem hc), by rw [rstrip_head hne]; exact dec_head h, ?_⟩
  rw [normalD, h1, if_neg hne]
  have := congrArg List.length hz
  rw [List.length_append, List.length_replicate] at this
  rw [show e + (Lib.decDigits n).length - (rstrip (Lib.decDigits n)).length = e + z by omega]
theorem dec_lt (n : Nat) : n < 10 ^ (Lib.decDigits n).length := by
  have := natV_lt (Lib.decDigits n) 0 (dec_dg n)
  rw [natV_dec] at this; simpa using this
theorem dec_ge {n : Nat} (h : 0 < n) : 10 ^ ((Lib.decDigits n).length - 1) ≤ n := by
  have hd := dec_dg n
  have hh := dec_head h
  have hv := natV_dec n
  cases e : Lib.decDigits n with
  | nil => exact absurd e (dec_ne n)
  | cons a t =>
    rw [e] at hd hh hv
    have := natV_long (c := a) (l := t) (hd a (by simp)) (fun q => hh (by rw [q]; rfl))
    rw [hv] at this
    simpa using this

theorem size_val {n1 n2 : Nat} (h1 : 0 < n1) (h2 : 0 < n2) (m1 m2 : Bool) (e1 e2 : Int) (a b : Nat) (he : e1 + b = e2 + a) :
    (sizeD (normalD m1 (Lib.decDigits n1) e1) (normalD m2 (Lib.decDigits n2) e2) < 0 → n1 * 10 ^ a < n2 * 10 ^ b) ∧ (sizeD (normalD m1 (Lib.decDigits n1) e1) (normalD m2 (Lib.decDigits n2) e2) = 0 → n1 * 10 ^ a = n2 * 10 ^ b) := by
  obtain ⟨z1, d1, p1, p2, p3, p4, p5, p6⟩ := nrm_pos h1 m1 e1
  obtain ⟨z2, d2, r1, r2, r3, r4, r5, r6⟩ := nrm_pos h2 m2 e2
  rw [p6, r6, sz_eq]
  have l1 : (Lib.decDigits n1).length = d1.length + z1 := by rw [p1, List.length_append, List.length_replicate]
  have l2 : (Lib.decDigits n2).length = d2.length + z2 := by rw [r1, List.length_append, List.length_replicate]
  have v1 : n1 = natV 0 d1 * 10 ^ z1 := by rw [← natV_rep, ← natV_app, ← p1, natV_dec]
  have v2 : n2 = natV 0 d2 * 10 ^ z2 := by rw [← natV_rep, ← natV_app, ← r1, natV_dec]
  have t1 : (Dm.mk m1 d1 (e1 + z1)).top = (Lib.decDigits n1).length + e1 := by show (d1.length : Int) + (e1 + z1) = _; omega
  have t2 : (Dm.mk m2 d2 (e2 + z2)).top = (Lib.decDigits n2).length + e2 := by show (d2.length : Int) + (e2 + z2) = _; omega
  rw [t1, t2]
  by_cases g1 : (Lib.decDigits n1).length + e1 < (Lib.decDigits n2).length + e2
  · rw [if_pos g1]
    refine ⟨fun _ => ?_, fun h => by simp at h⟩
    have q1 := dec_lt n1
    have q2 := dec_ge h2
    have q3 : (Lib.decDigits n1).length + a ≤ (Lib.decDigits n2).length - 1 + b := by omega
    calc n1 * 10 ^ a < 10 ^ (Lib.decDigits n1).length * 10 ^ a := Nat.mul_lt_mul_of_pos_right q1 (Nat.pow_pos (by omega))
      _ = 10 ^ ((Lib.decDigits n1).length + a) := (Nat.pow_add ..).symm
      _ ≤ 10 ^ ((Lib.decDigits n2).length - 1 + b) := Nat.pow_le_pow_right (by omega) q3
      _ = 10 ^ ((Lib.decDigits n2).length - 1) * 10 ^ b := Nat.pow_add ..
      _ ≤ n2 * 10 ^ b := Nat.mul_le_mul_right _ q2
  · rw [if_neg g1]
    by_cases g2 : (Lib.decDigits n2).length + e2 < (Lib.decDigits n1).length + e1
    · rw [if_pos g2]
      exact ⟨fun h => by simp at h, fun h => by simp at h⟩
    · rw [if_neg g2]
      have hl : d1.length + (z1 + a) = d2.length + (z2 + b) := by omega
      have w1 : n1 * 10 ^ a = natV 0 (d1 ++ List.replicate (z1 + a) 48) := by rw [natV_app, natV_rep, Nat.pow_add, ← Nat.mul_assoc, ← v1]
      have w2 : n2 * 10 ^ b = natV 0 (d2 ++ List.replicate (z2 + b) 48) := by rw [natV_app, natV_rep, Nat.pow_add, ← Nat.mul_assoc, ← v2]
      rw [w1, w2]
      refine ⟨fun h => cb_val d1 d2 0 _ _ p4 r4 r3 hl h, fun h => ?_⟩
      have e := cb_zero h
      simp only at e
      rw [e] at hl ⊢
      rw [show z1 + a = z2 + b by omega]

/-- A number's normal form. -/
def numD (n : Int) (e : Int) : Dm := normalD (decide (n < 0)) (Lib.decDigits n.natAbs) e
theorem numD_sg (n : Int) (e : Int) : (numD n e).sg = n.sign := by
  unfold numD
  rcases Int.lt_trichotomy n 0 with h | h | h
  · obtain ⟨z, d, p1, p2, p3, p4, p5, p6⟩ := nrm_pos (n := n.natAbs) (by omega) (decide (n < 0)) e
    have hd : d ≠ [48] := fun q => p5 (by rw [q]; rfl)
    rw [p6, Dm.sg, if_neg hd, decide_eq_true h, if_pos rfl, Int.sign_eq_neg_one_of_neg h]
  · subst h
    rw [show (0 : Int).natAbs = 0 from rfl, nrm_zero]; rfl
  · obtain ⟨z, d, p1, p2, p3, p4, p5, p6⟩ := nrm_pos (n := n.natAbs) (by omega) (decide (n < 0)) e
    have hd : d ≠ [48] := fun q => p5 (by rw [q]; rfl)
    rw [p6, Dm.sg, if_neg hd, decide_eq_false (by omega), if_neg (by simp), Int.sign_eq_one_of_pos h]
theorem mul_pow_lt {x y : Int} {a b : Nat} (hx : x < 0) (hy : 0 ≤ y) : x * 10 ^ a < y * 10 ^ b := by
  have h1 : (0 : Int) < 10 ^ a := Int.pow_pos (by omega)
  have h2 : (0 : Int) < 10 ^ b := Int.pow_pos (by omega)
  have h3 := Int.mul_neg_of_neg_of_pos hx h1
  have h4 := Int.mul_nonneg hy (Int.le_of_lt h2)
  omega
theorem cast_pow (n a : Nat) : ((n * 10 ^ a : Nat) : Int) = (n : Int) * 10 ^ a := by simp
theorem val_less (n1 n2 e1 e2 : Int) (a b : Nat) (he : e1 + b = e2 + a) : lessD (numD n1 e1) (numD n2 e2) = decide (n1 * 10 ^ a < n2 * 10 ^ b) := by
  rw [Bool.eq_iff_iff, less_iff, decide_eq_true_iff, numD_sg, numD_sg]
  have P1 : (0 : Int) < 10 ^ a := Int.pow_pos (by omega)
  have P2 : (0 : Int) < 10 ^ b := Int.pow_pos (by omega)
  rcases Int.lt_trichotomy n1 0 with h1 | h1 | h1 <;> rcases Int.lt_trichotomy n2 0 with h2 | h2 | h2
  · rw [Int.sign_eq_neg_one_of_neg h1, Int.sign_eq_neg_one_of_neg h2]
    have s1 := size_val (n1 := n1.natAbs) (n2 := n2.natAbs) (by omega) (by omega) (decide (n1 < 0)) (decide (n2 < 0)) e1 e2 a b he
    have s2 := size_val (n1 := n2.natAbs) (n2 := n1.natAbs) (by omega) (by omega) (decide (n2 < 0)) (decide (n1 < 0)) e2 e1 b a he.symm
    have hn := sz_neg (numD n1 e1) (numD n2 e2)
    change (sizeD (numD n1 e1) (numD n2 e2) < 0 → _) ∧ (sizeD (numD n1 e1) (numD n2 e2) = 0 → _) at s1
    change (sizeD (numD n2 e2) (numD n1 e1) < 0 → _) ∧ (sizeD (numD n2 e2) (numD n1 e1) = 0 → _) at s2
    have c1 : n1 * 10 ^ a = -((n1.natAbs * 10 ^ a : Nat) : Int) := by rw [cast_pow, show (n1.natAbs : Int) = -n1 by omega, Int.neg_mul, Int.neg_neg]
    have c2 : n2 * 10 ^ b = -((n2.natAbs * 10 ^ b : Nat) : Int) := by rw [cast_pow, show (n2.natAbs : Int) = -n2 by omega, Int.neg_mul, Int.neg_neg]
    rw [c1, c2]
    generalize n1.natAbs * 10 ^ a = x at *
    generalize n2.natAbs * 10 ^ b = y at *
    generalize sizeD (numD n1 e1) (numD n2 e2) = z at *
    generalize sizeD (numD n2 e2) (numD n1 e1) = z' at *
    rcases Int.lt_trichotomy z 0 with q | q | q
    · have := s1.1 q; omega
    · have := s1.2 q; omega
    · have := s2.1 (by omega); omega
  · subst h2
    rw [Int.sign_eq_neg_one_of_neg h1]
    have := mul_pow_lt (y := 0) (a := a) (b := b) h1 (by omega)
    simp only [Int.sign_zero]; omega
  · rw [Int.sign_eq_neg_one_of_neg h1, Int.sign_eq_one_of_pos h2]
    have := mul_pow_lt (y := n2) (a := a) (b := b) h1 (by omega)
    omega
  · subst h1
    rw [Int.sign_eq_neg_one_of_neg h2]
    have := mul_pow_lt (y := 0) (a := b) (b := a) h2 (by omega)
    simp only [Int.sign_zero]; omega
  · subst h1; subst h2; simp
  · subst h1
    rw [Int.sign_eq_one_of_pos h2]
    have := Int.mul_pos h2 P2
    simp only [Int.sign_zero]; omega
  · rw [Int.sign_eq_one_of_pos h1, Int.sign_eq_neg_one_of_neg h2]
    have := mul_pow_lt (y := n1) (a := b) (b := a) h2 (by omega)
    omega
  · subst h2
    rw [Int.sign_eq_one_of_pos h1]
    have := Int.mul_pos h1 P1
    simp only [Int.sign_zero]; omega
  · rw [Int.sign_eq_one_of_pos h1, Int.sign_eq_one_of_pos h2]
    have s1 := size_val (n1 := n1.natAbs) (n2 := n2.natAbs) (by omega) (by omega) (decide (n1 < 0)) (decide (n2 < 0)) e1 e2 a b he
    have s2 := size_val (n1 := n2.natAbs) (n2 := n1.natAbs) (by omega) (by omega) (decide (n2 < 0)) (decide (n1 < 0)) e2 e1 b a he.symm
    have hn := sz_neg (numD n1 e1) (numD n2 e2)
    change (sizeD (numD n1 e1) (numD n2 e2) < 0 → _) ∧ (sizeD (numD n1 e1) (numD n2 e2) = 0 → _) at s1
    change (sizeD (numD n2 e2) (numD n1 e1) < 0 → _) ∧ (sizeD (numD n2 e2) (numD n1 e1) = 0 → _) at s2
    have c1 : n1 * 10 ^ a = ((n1.natAbs * 10 ^ a : Nat) : Int) := by rw [cast_pow, show (n1.natAbs : Int) = n1 by omega]
    have c2 : n2 * 10 ^ b = ((n2.natAbs * 10 ^ b : Nat) : Int) := by rw [cast_pow, show (n2.natAbs : Int) = n2 by omega]
    rw [c1, c2]
    generalize n1.natAbs * 10 ^ a = x at *
    generalize n2.natAbs * 10 ^ b = y at *
    generalize sizeD (numD n1 e1) (numD n2 e2) = z at *
    generalize sizeD (numD n2 e2) (numD n1 e1) = z' at *
    rcases Int.lt_trichotomy z 0 with q | q | q
    · have := s1.1 q; omega
    · have := s1.2 q; omega
    · have := s2.1 (by omega); omega

end Go.Proofs.YtncldnghhpdolaaGreatDoor
