/- Plain laws on integers' texts: a text times a base and a digit, which is above, normal forms, how two stand; lists and numbers alone: no statement of the seat is proved here. -/
import Derived.Test.YtncldnghhpdolaaGreatDoorInP
namespace Go.Proofs.YtncldnghhpdolaaGreatDoor

theorem natV_acc : ∀ (l : List UInt8) (a : Nat), natV a l = a * 10 ^ l.length + natV 0 l
  | [], a => by simp [natV_nil]
  | c :: l, a => by
    rw [natV_cons, natV_cons, natV_acc l (10 * a + _), natV_acc l (10 * 0 + _), List.length_cons, Nat.pow_succ, Nat.add_mul, show 10 * 0 + (c.toNat - 48) = c.toNat - 48 by omega,
      Nat.mul_comm (10 ^ l.length) 10, ← Nat.mul_assoc, Nat.mul_comm a 10]
    omega
theorem dgv : ∀ v < 10, dgB (UInt8.ofNat (48 + v)) = true ∧ (UInt8.ofNat (48 + v)).toNat = 48 + v := by decide
theorem dgv_mod (v : Nat) : dgB (UInt8.ofNat (48 + v % 10)) = true ∧ (UInt8.ofNat (48 + v % 10)).toNat = 48 + v % 10 := dgv _ (Nat.mod_lt _ (by omega))

/-- A text times a base, and a digit more, from its end on: the digits, and what is carried. -/
def mulL (q d : Nat) : List UInt8 → List UInt8 × Nat
  | [] => ([], d)
  | c :: l => (UInt8.ofNat (48 + ((mulL q d l).2 + q * (c.toNat - 48)) % 10) :: (mulL q d l).1, ((mulL q d l).2 + q * (c.toNat - 48)) / 10)
theorem mul_len (q d : Nat) : ∀ l, (mulL q d l).1.length = l.length
  | [] => rfl
  | c :: l => by rw [mulL, List.length_cons, List.length_cons, mul_len q d l]
theorem mul_dg (q d : Nat) : ∀ l, ∀ c ∈ (mulL q d l).1, dgB c = true
  | [] => by simp [mulL]
  | x :: l => by
    rw [mulL]
    intro c hc
    rcases List.mem_cons.1 hc with rfl | hc
    · exact (dgv_mod _).1
    · exact mul_dg q d l c hc
theorem mul_carry (q d : Nat) (hq : q ≤ 16) (hd : d < 16) : ∀ l, (∀ c ∈ l, dgB c = true) → (mulL q d l).2 < 16
  | [], _ => hd
  | c :: l, h => by
    have h1 := mul_carry q d hq hd l fun x hx => h x (by simp [hx])
    have h2 := dgB_t.1 (h c (by simp))
    have h3 : q * (c.toNat - 48) ≤ 16 * 9 := Nat.mul_le_mul hq (by omega)
    rw [mulL]
    show ((mulL q d l).2 + q * (c.toNat - 48)) / 10 < 16
    omega
theorem mul_val (q d : Nat) : ∀ l, natV 0 (mulL q d l).1 + (mulL q d l).2 * 10 ^ l.length = q * natV 0 l + d
  | [] => by simp [mulL, natV_nil]
  | c :: l => by
    have ih := mul_val q d l
    rw [mulL]
    show natV 0 (_ :: (mulL q d l).1) + ((mulL q d l).2 + q * (c.toNat - 48)) / 10 * _ = _
    rw [natV_cons, natV_acc, mul_len, natV_cons, natV_acc l (10 * 0 + _), (dgv_mod _).2, List.length_cons, Nat.pow_succ]
    generalize c.toNat - 48 = x
    generalize (mulL q d l).2 = e at ih ⊢
    generalize natV 0 (mulL q d l).1 = o at ih ⊢
    generalize natV 0 l = v at ih ⊢
    generalize 10 ^ l.length = P at ih ⊢
    obtain ⟨t, ht⟩ : ∃ t, e + q * x = t := ⟨_, rfl⟩
    rw [ht]
    have h1 : t * P = e * P + q * (x * P) := by rw [← ht, Nat.add_mul, Nat.mul_assoc]
    have h2 : t * P = t % 10 * P + t / 10 * (P * 10) := by
      conv => lhs; rw [← Nat.div_add_mod t 10]
      rw [Nat.add_mul, Nat.mul_comm P 10, ← Nat.mul_assoc, Nat.mul_comm 10 (t / 10)]
      omega
    rw [show 10 * 0 + (48 + t % 10 - 48) = t % 10 by omega, show 10 * 0 + x = x by omega, Nat.mul_add]
    omega
/-- What is carried, as digits. -/
def headD (d : Nat) : List UInt8 := if d = 0 then [] else Lib.decDigits d
theorem headD_step {d : Nat} (h : 0 < d) : headD d = headD (d / 10) ++ [UInt8.ofNat (48 + d % 10)] := by
  unfold headD
  rw [if_neg (by omega)]
  by_cases h10 : d < 10
  · rw [if_pos (by omega), Lib.decDigits, dif_pos h10, Nat.mod_eq_of_lt h10]; rfl
  · rw [if_neg (by omega)]; conv => lhs; rw [Lib.decDigits, dif_neg h10]
theorem headD_dg (d : Nat) : ∀ c ∈ headD d, dgB c = true := by
  unfold headD
  split
  · simp
  · exact dec_dg d
theorem headD_val (d : Nat) : natV 0 (headD d) = d := by
  unfold headD
  split
  · rename_i h; rw [h]; rfl
  · exact natV_dec d
/-- Without needless noughts. -/
def stripZ : List UInt8 → List UInt8
  | [] => []
  | c :: l => if c = 48 ∧ l ≠ [] then stripZ l else c :: l
theorem strip_dec : ∀ (l : List UInt8), l ≠ [] → (∀ c ∈ l, dgB c = true) → stripZ l = Lib.decDigits (natV 0 l)
  | [], h, _ => absurd rfl h
  | c :: l, _, h => by
    rw [stripZ]
    by_cases hc : c = 48 ∧ l ≠ []
    · rw [if_pos hc, strip_dec l hc.2 fun x hx => h x (by simp [hx]), hc.1]; rfl
    · rw [if_neg hc]
      by_cases h48 : c = 48
      · have : l = [] := Classical.byContradiction fun e => hc ⟨h48, e⟩
        subst this; subst h48
        exact dec_zero.symm
      · exact (dec_natV _ (c :: l) rfl (by simp) h (by simpa using h48)).symm
def timesL (q d : Nat) (s : List UInt8) : List UInt8 := stripZ (headD (mulL q d s).2 ++ (mulL q d s).1)
theorem times_dec (q d n : Nat) : timesL q d (Lib.decDigits n) = Lib.decDigits (n * q + d) := by
  have hne : headD (mulL q d (Lib.decDigits n)).2 ++ (mulL q d (Lib.decDigits n)).1 ≠ [] := by
    intro e
    have h1 := congrArg List.length (List.append_eq_nil_iff.1 e).2
    rw [mul_len] at h1
    exact dec_ne n (List.length_eq_zero_iff.1 h1)
  unfold timesL
  rw [strip_dec _ hne (fun c hc => (List.mem_append.1 hc).elim (headD_dg _ c) (mul_dg q d _ c)), natV_app, natV_acc, mul_len, headD_val]
  have := mul_val q d (Lib.decDigits n)
  rw [natV_dec] at this
  congr 1
  rw [Nat.mul_comm n q]
  omega

theorem bl_nat : ∀ (d k : List UInt8) (a : Nat), d.length = k.length → (∀ c ∈ d, dgB c = true) → (∀ c ∈ k, dgB c = true) → (Op.bytesLess d k = true ↔ natV a d < natV a k) ∧ (d = k ↔ natV a d = natV a k)
  | [], [], a, _, _, _ => by simp [Op.bytesLess]
  | [], _ :: _, _, h, _, _ => by simp at h
  | _ :: _, [], _, h, _, _ => by simp at h
  | x :: d, y :: k, a, h, hd, hk => by
    have hl : d.length = k.length := by simpa using h
    have hd' : ∀ c ∈ d, dgB c = true := fun c hc => hd c (by simp [hc])
    have hk' : ∀ c ∈ k, dgB c = true := fun c hc => hk c (by simp [hc])
    have hx := dgB_t.1 (hd x (by simp))
    have hy := dgB_t.1 (hk y (by simp))
    rw [natV_cons, natV_cons, Op.bytesLess]
    by_cases e : x = y
    · subst e
      obtain ⟨i1, i2⟩ := bl_nat d k (10 * a + (x.toNat - 48)) hl hd' hk'
      rw [← i1, ← i2]
      simp
    · have hne : x.toNat ≠ y.toNat := fun q => e (UInt8.toNat_inj.1 q)
      have hb : (x == y) = false := by simpa using e
      have gap : ∀ (u v : Nat) (d k : List UInt8), d.length = k.length → (∀ c ∈ d, dgB c = true) → u < v → natV u d < natV v k := by
        intro u v d k hl hd huv
        have h1 := natV_lt d u hd
        have h2 := natV_pow k v
        rw [← hl] at h2
        have h3 : (u + 1) * 10 ^ d.length ≤ v * 10 ^ d.length := Nat.mul_le_mul_right _ huv
        omega
      rcases Nat.lt_or_gt_of_ne hne with hlt | hgt
      · have hx2 : decide (x < y) = true := decide_eq_true (u8_lt.2 hlt)
        have h1 := gap (10 * a + (x.toNat - 48)) (10 * a + (y.toNat - 48)) d k hl hd' (by omega)
        refine ⟨⟨fun _ => h1, fun _ => by rw [hx2]; rfl⟩, ⟨fun q => by injection q with q1 _; exact absurd q1 e, fun q => by omega⟩⟩
      · have hx2 : decide (x < y) = false := decide_eq_false (fun q => by have := u8_lt.1 q; omega)
        have h1 := gap (10 * a + (y.toNat - 48)) (10 * a + (x.toNat - 48)) k d hl.symm hk' (by omega)
        refine ⟨⟨fun q => by rw [hx2, hb] at q; simp at q, fun q => by omega⟩, ⟨fun q => by injection q with q1 _; exact absurd q1 e, fun q => by omega⟩⟩
/-- Is a text's number above another one's? -/
def overL (l m : List UInt8) : Bool := if l.length ≠ m.length then decide (m.length < l.length) else !(Op.bytesLess l m || l == m)
theorem over_dec (u v : Nat) : overL (Lib.decDigits u) (Lib.decDigits v) = decide (v < u) := by
  unfold overL
  by_cases h : (Lib.decDigits u).length = (Lib.decDigits v).length
  · rw [if_neg (by simpa using h)]
    obtain ⟨h1, h2⟩ := bl_nat _ _ 0 h (dec_dg u) (dec_dg v)
    rw [natV_dec, natV_dec] at h1 h2
    have hb : Op.bytesLess (Lib.decDigits u) (Lib.decDigits v) = decide (u < v) := by rw [Bool.eq_iff_iff, decide_eq_true_iff]; exact h1
    have he : (Lib.decDigits u == Lib.decDigits v) = decide (u = v) := by rw [Bool.eq_iff_iff, decide_eq_true_iff, beq_iff_eq]; exact h2
    rw [hb, he]
    by_cases h3 : v < u
    · rw [decide_eq_true h3, decide_eq_false (by omega), decide_eq_false (by omega)]; rfl
    · rw [decide_eq_false h3]
      by_cases h4 : u < v
      · rw [decide_eq_true h4]; rfl
      · rw [decide_eq_true (show u = v by omega), Bool.or_true]; rfl
  · rw [if_pos h]
    have long : ∀ a b : Nat, (Lib.decDigits a).length < (Lib.decDigits b).length → a < b := by
      intro a b hl
      have h1 := dec_lt a
      have ha := List.length_pos_iff.2 (dec_ne a)
      have hb : 0 < b := by
        rcases Nat.eq_zero_or_pos b with e | e
        · subst e; rw [dec_zero, show ([48] : List UInt8).length = 1 from rfl] at hl; omega
        · exact e
      have h2 := dec_ge hb
      have h3 : 10 ^ (Lib.decDigits a).length ≤ 10 ^ ((Lib.decDigits b).length - 1) := Nat.pow_le_pow_right (by omega) (by omega)
      omega
    rcases Nat.lt_or_gt_of_ne h with hl | hl
    · have := long _ _ hl
      rw [decide_eq_false (by omega), decide_eq_false (by omega)]
    · have := long _ _ hl
      rw [decide_eq_true hl, decide_eq_true this]

/-! ### Normal forms -/
theorem digV_dg {c : UInt8} (h : dgB c = true) : digV c = c.toNat - 48 := by
  have := dgB_t.1 h
  unfold digV; rw [if_pos this]
theorem digV_10 {c : UInt8} (h : digV c < 10) : dgB c = true := by
  rcases dig_ways c with ⟨a, b, _⟩ | ⟨_, _, a, _, b⟩ | ⟨_, _, b⟩
  · exact dgB_t.2 ⟨a, b⟩
  · omega
  · omega
theorem dg_ne95 {c : UInt8} (h : dgB c = true) : c ≠ 95 := by rintro rfl; cases h
theorem valQ_nat : ∀ (l : List UInt8) (n : Nat), (∀ c ∈ l, dgB c = true) → valQ 10 n l = natV n l
  | [], _, _ => rfl
  | c :: l, n, h => by rw [valQ, natV_cons, digV_dg (h c (by simp)), Nat.mul_comm n 10]; exact valQ_nat l _ fun x hx => h x (by simp [hx])
theorem scan_dg : ∀ (l : List UInt8) (p : Bool) (n : Nat), (∀ c ∈ l, dgB c = true) → scanQ 10 p l n = some (natV n l)
  | [], _, _, _ => rfl
  | c :: l, p, n, h => by
    have hc := h c (by simp)
    have h1 := dgB_t.1 hc
    rw [scanQ, if_neg (dg_ne95 hc), if_pos (by rw [digV_dg hc]; omega), natV_cons, digV_dg hc, Nat.mul_comm n 10]
    exact scan_dg l _ _ fun x hx => h x (by simp [hx])
def I64 (z : Int) : Prop := -9223372036854775808 ≤ z ∧ z ≤ 9223372036854775807
theorem itoa_neg {z : Int} (h : z < 0) : Lib.itoa z = 45 :: Lib.decDigits z.natAbs := by unfold Lib.itoa; rw [if_pos h]
theorem itoa_pos {z : Int} (h : ¬ z < 0) : Lib.itoa z = Lib.decDigits z.natAbs := by unfold Lib.itoa; rw [if_neg h, show z.toNat = z.natAbs by omega]
theorem way_dg {c : UInt8} {l : List UInt8} (h : dgB c = true) (hl : ∀ d ∈ l, dgB d = true) : wayI (c :: l) = (10, false, c :: l) := by
  have h1 := dgB_t.1 h
  have h2 : ∀ x : UInt8, dgB x = false → (c :: l).take 2 ≠ [48, x] := by
    intro x hx e
    cases l with
    | nil => simp at e
    | cons d k =>
      simp only [List.take_succ_cons, List.take_zero, List.cons.injEq, and_true] at e
      rw [← e.2, hl d (by simp)] at hx
      cases hx
  unfold wayI
  rw [if_neg (h2 120 rfl), if_neg (h2 111 rfl), if_neg (h2 98 rfl), if_neg (by intro e; injection e with e; subst e; cases h), if_neg (by intro e; injection e with e; subst e; cases h)]
theorem way_minus (l : List UInt8) : wayI (45 :: l) = (10, true, l) := by
  have h2 : ∀ x : UInt8, ((45 : UInt8) :: l).take 2 ≠ [48, x] := by
    intro x e
    cases l <;> simp at e
  unfold wayI
  rw [if_neg (h2 120), if_neg (h2 111), if_neg (h2 98), if_neg (by intro e; simp at e), if_pos (show ((45 : UInt8) :: l).head? = some 45 from rfl)]; rfl
theorem way_plus (l : List UInt8) : wayI (43 :: l) = (10, false, l) := by
  have h2 : ∀ x : UInt8, ((43 : UInt8) :: l).take 2 ≠ [48, x] := by
    intro x e
    cases l <;> simp at e
  unfold wayI
  rw [if_neg (h2 120), if_neg (h2 111), if_neg (h2 98), if_pos (show ((43 : UInt8) :: l).head? = some 43 from rfl)]; rfl
theorem read_dec (m : Bool) (n : Nat) (h : n ≤ limI m) : readW 10 m (Lib.decDigits n) = (Lib.itoa (signI m n), 0) := by
  unfold readW
  rw [if_neg, scan_dg _ _ _ (dec_dg n), natV_dec]
  · simp only
    rw [if_neg (by omega)]
  · rintro (e | ⟨_, e, f⟩)
    · exact dec_ne n e
    · rcases Nat.eq_zero_or_pos n with q | q
      · subst q; rw [dec_zero] at e; simp at e
      · exact dec_head q f
theorem read_itoa {z : Int} (h : I64 z) : readI (Lib.itoa z) = (Lib.itoa z, 0) := by
  unfold I64 at h
  unfold readI
  by_cases hz : z < 0
  · rw [itoa_neg hz, way_minus, read_dec true _ (by unfold limI; simp; omega), ← itoa_neg hz]
    congr 2
    unfold signI; rw [if_pos rfl]; omega
  · rw [itoa_pos hz]
    cases e : Lib.decDigits z.natAbs with
    | nil => exact absurd e (dec_ne _)
    | cons c l =>
      have hd : ∀ x ∈ c :: l, dgB x = true := by rw [← e]; exact dec_dg _
      rw [way_dg (hd c (by simp)) (fun x hx => hd x (by simp [hx])), ← e, read_dec false _ (by unfold limI; simp; omega), ← itoa_pos hz]
      congr 2
      unfold signI; simp; omega
theorem readW_ok {q : Nat} {m : Bool} {r t : List UInt8} (h : readW q m r = (t, 0)) : ∃ z, I64 z ∧ t = Lib.itoa z := by
  unfold readW at h
  split at h
  · injection h with _ h; cases h
  · split at h
    · injection h with _ h; cases h
    · rename_i n _
      split at h
      · injection h with _ h; cases h
      · rename_i hn
        injection h with h _
        refine ⟨signI m n, ?_, h.symm⟩
        unfold I64
        cases m <;> simp [signI, limI] at hn ⊢ <;> omega
/-- A normal form of a value within 64 bits? -/
def normB (s : List UInt8) : Bool := decide (readI s = (s, 0))
theorem norm_iff (s : List UInt8) : normB s = true ↔ ∃ z, I64 z ∧ s = Lib.itoa z := by
  unfold normB
  rw [decide_eq_true_iff]
  constructor
  · exact readW_ok
  · rintro ⟨z, hz, rfl⟩; exact read_itoa hz

/-- strconv.ParseInt of a text at base 10. -/
def piS (l : List UInt8) : PI :=
  if l.head? = some 45 then (if l.tail = [] then .syn else piN (puL 10 l.tail 0)) else if l.head? = some 43 then (if l.tail = [] then .syn else piP (puL 10 l.tail 0)) else if l = [] then .syn else piP (puL 10 l 0)
def numO (l : List UInt8) : Option Int := match piS l with
  | .ok z => if Lib.itoa z = l then some z else none
  | _ => none
theorem piP_range {R : PR} (hR : ∀ m, R = .ok m → m < 18446744073709551616) {z : Int} (h : piP R = .ok z) : I64 z := by
  unfold I64
  cases R with
  | ok n =>
    rw [piP] at h
    split at h
    · cases h
    · injection h with h; omega
  | syn => cases h
  | rng => cases h
theorem piN_range {R : PR} {z : Int} (h : piN R = .ok z) : I64 z := by
  unfold I64
  cases R with
  | ok n =>
    rw [piN] at h
    split at h
    · cases h
    · injection h with h; omega
  | syn => cases h
  | rng => cases h
theorem piS_range {l : List UInt8} {z : Int} (h : piS l = .ok z) : I64 z := by
  unfold piS at h
  split at h
  · split at h
    · cases h
    · exact piN_range h
  · split at h
    · split at h
      · cases h
      · exact piP_range (fun m hm => puL_lt _ _ m (by omega) hm) h
    · split at h
      · cases h
      · exact piP_range (fun m hm => puL_lt _ _ m (by omega) hm) h
theorem puL_dec {n : Nat} (h : n < 18446744073709551616) : puL 10 (Lib.decDigits n) 0 = .ok n := by
  have hd : ∀ c ∈ Lib.decDigits n, digV c < 10 := fun c hc => by
    have := dgB_t.1 (dec_dg n c hc)
    rw [digV_dg (dec_dg n c hc)]; omega
  rw [puL_val (by omega) _ _ (by omega) hd, valQ_nat _ _ (dec_dg n), natV_dec, if_neg (by omega)]
theorem piS_itoa {z : Int} (h : I64 z) : piS (Lib.itoa z) = .ok z := by
  unfold I64 at h
  unfold piS
  by_cases hz : z < 0
  · rw [itoa_neg hz, if_pos (show ((45 : UInt8) :: Lib.decDigits z.natAbs).head? = some 45 from rfl), List.tail_cons, if_neg (dec_ne _), puL_dec (by omega), piN, if_neg (by omega)]
    congr 1; omega
  · rw [itoa_pos hz]
    have hd := dec_dg z.natAbs
    have hh : ∀ x : UInt8, dgB x = false → (Lib.decDigits z.natAbs).head? ≠ some x := by
      intro x hx e
      have := hd x (List.mem_of_head? e)
      rw [this] at hx; cases hx
    rw [if_neg (hh 45 rfl), if_neg (hh 43 rfl), if_neg (dec_ne _), puL_dec (by omega), piP, if_neg (by omega)]
    congr 1; omega
theorem num_iff (s : List UInt8) (z : Int) : numO s = some z ↔ I64 z ∧ s = Lib.itoa z := by
  unfold numO
  constructor
  · intro h
    split at h
    · rename_i y hy
      split at h
      · rename_i e
        injection h with h
        subst h
        exact ⟨piS_range hy, e.symm⟩
      · cases h
    · cases h
  · rintro ⟨hz, rfl⟩
    rw [piS_itoa hz]
    simp only [if_pos]
theorem num_none {s : List UInt8} (h : ∀ z, I64 z → s ≠ Lib.itoa z) : numO s = none := by
  cases e : numO s with
  | none => rfl
  | some z => have := (num_iff s z).1 e; exact absurd this.2 (h z this.1)
theorem itoa_inj {x y : Int} (hx : I64 x) (hy : I64 y) (h : Lib.itoa x = Lib.itoa y) : x = y := by
  have h1 := piS_itoa hx
  rw [h, piS_itoa hy] at h1
  injection h1 with h1
  exact h1.symm
def cmpZ (x y : Int) : Int := if x < y then -1 else if y < x then 1 else 0
/-- ints.Cmp -/
def cmpO (a b : List UInt8) : Int := match numO a, numO b with
  | some x, some y => cmpZ x y
  | _, _ => 0
def minusB (l : List UInt8) : Bool := decide (l.head? = some 45)
/-- The chapter's. -/
def cmpR (a b : List UInt8) : Int :=
  if normB a = false ∨ normB b = false ∨ a = b then 0 else if minusB a = true ∧ minusB b = false then -1 else if minusB b = true ∧ minusB a = false then 1
  else if (minusB a = true ∧ overL b.tail a.tail = true) ∨ (minusB a = false ∧ overL a b = true) then 1 else -1
theorem minus_itoa (z : Int) : minusB (Lib.itoa z) = decide (z < 0) := by
  unfold minusB
  by_cases h : z < 0
  · rw [itoa_neg h, decide_eq_true h]; rfl
  · rw [itoa_pos h, decide_eq_false h, decide_eq_false]
    intro e
    have := dec_dg _ _ (List.mem_of_head? e)
    cases this
theorem norm_num {s : List UInt8} (h : normB s = false) : numO s = none := num_none fun z hz e => by
  have := (norm_iff s).2 ⟨z, hz, e⟩
  rw [this] at h; cases h
theorem cmp_eq (a b : List UInt8) : cmpR a b = cmpO a b := by
  unfold cmpR cmpO
  by_cases ha : normB a = false
  · rw [if_pos (.inl ha), norm_num ha]
  · by_cases hb : normB b = false
    · rw [if_pos (.inr (.inl hb)), norm_num hb]; split <;> simp_all
    · obtain ⟨x, hx, rfl⟩ := (norm_iff a).1 (by simpa using ha)
      obtain ⟨y, hy, rfl⟩ := (norm_iff b).1 (by simpa using hb)
      rw [(num_iff _ x).2 ⟨hx, rfl⟩, (num_iff _ y).2 ⟨hy, rfl⟩]
      simp only
      unfold cmpZ
      by_cases e : x = y
      · subst e
        rw [if_pos (.inr (.inr rfl)), if_neg (by omega), if_neg (by omega)]
      · rw [if_neg (fun h => h.elim ha fun h => h.elim hb fun h => e (itoa_inj hx hy h)), minus_itoa, minus_itoa]
        simp only [decide_eq_true_eq, decide_eq_false_iff_not]
        by_cases hx0 : x < 0
        · by_cases hy0 : y < 0
          · rw [if_neg (by omega), if_neg (by omega), itoa_neg hx0, itoa_neg hy0, List.tail_cons, List.tail_cons, over_dec]
            by_cases hl : x < y
            · rw [if_neg (by simp only [decide_eq_true_eq]; omega), if_pos hl]
            · rw [if_pos (by simp only [decide_eq_true_eq]; omega), if_neg hl, if_pos (by omega)]
          · rw [if_pos (by omega), if_pos (by omega)]
        · by_cases hy0 : y < 0
          · rw [if_neg (by omega), if_pos (by omega), if_neg (by omega), if_pos (by omega)]
          · rw [if_neg (by omega), if_neg (by omega)]
            rw [itoa_pos hx0, itoa_pos hy0, over_dec]
            by_cases hl : x < y
            · rw [if_neg (by simp only [decide_eq_true_eq]; omega), if_pos hl]
            · rw [if_pos (by simp only [decide_eq_true_eq]; omega), if_neg hl, if_pos (by omega)]

end Go.Proofs.YtncldnghhpdolaaGreatDoor
