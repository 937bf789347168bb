/- Plain words on decimals' texts: how a text is split, its normal form; lists and numbers alone: no statement of the seat is proved here. -/
import Derived.Test.YtncldnghhpdolaaGreatDoorBase
import Derived.Lib.Atoi
import Derived.Lib.ItoaNum
import Derived.Lib.ItoaMem
import Derived.Lib.Small
import Derived.Lib.Bytealg
namespace Go.Proofs.YtncldnghhpdolaaGreatDoor

/-- A numeral? -/
def dgB (c : UInt8) : Bool := decide (48 ≤ c.toNat ∧ c.toNat ≤ 57)
theorem dgB_t {c : UInt8} : dgB c = true ↔ 48 ≤ c.toNat ∧ c.toNat ≤ 57 := by simp [dgB]

/-- The number of numerals, behind a number. -/
def natV (a : Nat) (l : List UInt8) : Nat := l.foldl (fun a c => 10 * a + (c.toNat - 48)) a
theorem natV_nil (a : Nat) : natV a [] = a := rfl
theorem natV_cons (a : Nat) (c : UInt8) (l : List UInt8) : natV a (c :: l) = natV (10 * a + (c.toNat - 48)) l := by unfold natV; rw [List.foldl_cons]
theorem natV_app : ∀ (l m : List UInt8) (a : Nat), natV a (l ++ m) = natV (natV a l) m
  | [], _, _ => rfl
  | c :: l, m, a => by rw [List.cons_append, natV_cons, natV_cons]; exact natV_app l m _
theorem natV_le : ∀ (l : List UInt8) (a : Nat), a ≤ natV a l
  | [], _ => Nat.le_refl _
  | c :: l, a => by rw [natV_cons]; exact Nat.le_trans (by omega) (natV_le l _)
theorem natV_mono : ∀ (l : List UInt8) {a b : Nat}, a ≤ b → natV a l ≤ natV b l
  | [], _, _, h => h
  | c :: l, a, b, h => by rw [natV_cons, natV_cons]; exact natV_mono l (by omega)
theorem natV_zeros : ∀ (l : List UInt8), natV 0 (l.dropWhile (· == 48)) = natV 0 l
  | [] => rfl
  | c :: l => by
    rw [List.dropWhile_cons]
    split
    · rename_i h
      have : c = 48 := by simpa using h
      subst this
      rw [natV_zeros l, natV_cons]; rfl
    · rfl
theorem natV_pow : ∀ (l : List UInt8) (a : Nat), a * 10 ^ l.length ≤ natV a l
  | [], a => by simp [natV_nil]
  | c :: l, a => by
    have := natV_pow l (10 * a + (c.toNat - 48))
    rw [natV_cons, List.length_cons, Nat.pow_succ]
    refine Nat.le_trans ?_ this
    rw [Nat.add_mul, Nat.mul_comm (10 ^ l.length) 10, ← Nat.mul_assoc, Nat.mul_comm a 10]
    omega
/-- Numerals without a nought ahead are a number of as many places. -/
theorem natV_long {c : UInt8} {l : List UInt8} (hc : dgB c = true) (h0 : c ≠ 48) : 10 ^ l.length ≤ natV 0 (c :: l) := by
  have h1 := dgB_t.1 hc
  have h2 : c.toNat ≠ 48 := fun e => h0 (UInt8.toNat_inj.1 e)
  have := natV_pow l (10 * 0 + (c.toNat - 48))
  refine Nat.le_trans ?_ this
  exact Nat.le_mul_of_pos_left _ (by omega)
theorem natV_lt : ∀ (l : List UInt8) (a : Nat), (∀ c ∈ l, dgB c = true) → natV a l < (a + 1) * 10 ^ l.length
  | [], a, _ => by simp [natV_nil]
  | c :: l, a, h => by
    have h1 := dgB_t.1 (h c (by simp))
    have := natV_lt l (10 * a + (c.toNat - 48)) fun x hx => h x (by simp [hx])
    rw [natV_cons, List.length_cons, Nat.pow_succ]
    refine Nat.lt_of_lt_of_le this ?_
    rw [Nat.mul_comm (10 ^ l.length) 10, ← Nat.mul_assoc]
    exact Nat.mul_le_mul_right _ (by omega)
theorem digitVal_dg {c : UInt8} (h : dgB c = true) : Lib.digitVal c = some (c.toNat - 48) := by
  unfold Lib.digitVal; rw [if_pos (dgB_t.1 h)]
theorem decFrom_dg : ∀ (l : List UInt8) (a : Nat), (∀ c ∈ l, dgB c = true) → Lib.decFrom a l = some (natV a l)
  | [], _, _ => rfl
  | c :: l, a, h => by
    rw [Lib.decFrom, digitVal_dg (h c (by simp))]
    show Lib.decFrom (a * 10 + (c.toNat - 48)) l = _
    rw [decFrom_dg l _ fun x hx => h x (by simp [hx]), natV_cons, Nat.mul_comm]
/-- Atoi of a nought and numerals. -/
theorem atoi_dg (l : List UInt8) (h : ∀ c ∈ l, dgB c = true) : Lib.atoi (48 :: l) = some ((natV 0 l : Nat) : Int) := by
  have h1 : (48 : UInt8) :: l ≠ [] := by simp
  have h2 : Lib.decFrom 0 (48 :: l) = some (natV 0 l) := decFrom_dg (48 :: l) 0 (by
    intro c hc
    rcases List.mem_cons.1 hc with rfl | hc
    · rfl
    · exact h c hc)
  simp [Lib.atoi, Lib.decNat, h2]
theorem dec_dg (u : Nat) : ∀ c ∈ Lib.decDigits u, dgB c = true := by
  induction u using Nat.strongRecOn with
  | _ u ih =>
    rw [Lib.decDigits]
    have hd : ∀ v < 10, dgB (UInt8.ofNat (48 + v)) = true := by decide
    split
    · rename_i h
      intro c hc
      simp only [List.mem_singleton] at hc
      subst hc
      exact hd u h
    · intro c hc
      rcases List.mem_append.1 hc with hc | hc
      · exact ih (u / 10) (by omega) c hc
      · simp only [List.mem_singleton] at hc
        subst hc
        exact hd _ (Nat.mod_lt _ (by omega))
theorem natV_dec (u : Nat) : natV 0 (Lib.decDigits u) = u := by
  induction u using Nat.strongRecOn with
  | _ u ih =>
    rw [Lib.decDigits]
    have hd : ∀ v < 10, (UInt8.ofNat (48 + v)).toNat - 48 = v := by decide
    split
    · rename_i h
      show 10 * 0 + _ = _
      rw [hd u h]; omega
    · rw [natV_app, ih (u / 10) (by omega)]
      show 10 * (u / 10) + _ = _
      rw [hd _ (Nat.mod_lt _ (by omega))]; omega
theorem dec_ne (u : Nat) : Lib.decDigits u ≠ [] := by
  rw [Lib.decDigits]; split <;> simp

/-- The first byte: is it such? -/
def hdB (p : UInt8 → Bool) : List UInt8 → Bool
  | [] => false
  | c :: _ => p c
/-- .. how many bytes that is -/
def one (p : UInt8 → Bool) (l : List UInt8) : Nat := if hdB p l then 1 else 0
theorem one_le (p : UInt8 → Bool) (l : List UInt8) : one p l ≤ l.length := by
  unfold one
  cases l with
  | nil => simp [hdB]
  | cons c t => split <;> simp
/-- The longest beginning of such bytes, so many at most. -/
def tkN (p : UInt8 → Bool) (n : Nat) (l : List UInt8) : Nat := ((l.take n).takeWhile p).length
theorem tkN_one (p : UInt8 → Bool) (l : List UInt8) : tkN p 1 l = one p l := by
  unfold tkN one hdB
  cases l with
  | nil => simp
  | cons c t => cases h : p c <;> simp [h]
theorem tkN_all (p : UInt8 → Bool) {n : Nat} {l : List UInt8} (h : l.length ≤ n) : tkN p n l = (l.takeWhile p).length := by
  unfold tkN; rw [List.take_of_length_le h]
theorem tkN_le (p : UInt8 → Bool) (n : Nat) (l : List UInt8) : tkN p n l ≤ l.length := by
  unfold tkN
  have := (List.takeWhile_sublist p (l := l.take n)).length_le
  rw [List.length_take] at this; omega
theorem take_tw (p : UInt8 → Bool) : ∀ l : List UInt8, l.take (l.takeWhile p).length = l.takeWhile p
  | [] => rfl
  | c :: t => by
    rw [List.takeWhile_cons]
    split
    · simp [take_tw p t]
    · rfl
theorem drop_tw (p : UInt8 → Bool) : ∀ l : List UInt8, l.drop (l.takeWhile p).length = l.dropWhile p
  | [] => rfl
  | c :: t => by
    rw [List.takeWhile_cons, List.dropWhile_cons]
    split
    · simp [drop_tw p t]
    · rfl

def isMin (c : UInt8) : Bool := c == 45
def isDot (c : UInt8) : Bool := c == 46
def isExp (c : UInt8) : Bool := c == 101 || c == 69
def isSig (c : UInt8) : Bool := c == 43 || c == 45

/-- A text's parts; what is left. -/
structure Wr where
  minus : Bool
  whole : List UInt8
  part : List UInt8
  sign : List UInt8
  power : List UInt8
  point : Bool
  raised : Bool
  rest : List UInt8
/-- No whole part? -/
def badW (w : List UInt8) : Bool := w.isEmpty || (decide (1 < w.length) && hdB (· == 48) w)
def l1 (l : List UInt8) : List UInt8 := l.drop (one isMin l)
def wholeL (l : List UInt8) : List UInt8 := (l1 l).takeWhile dgB
def l2 (l : List UInt8) : List UInt8 := (l1 l).dropWhile dgB
def l3 (l : List UInt8) : List UInt8 := (l2 l).drop (one isDot (l2 l))
def partL (l : List UInt8) : List UInt8 := if hdB isDot (l2 l) then (l3 l).takeWhile dgB else []
def l4 (l : List UInt8) : List UInt8 := (l3 l).drop (partL l).length
def l5 (l : List UInt8) : List UInt8 := (l4 l).drop (one isExp (l4 l))
def signL (l : List UInt8) : List UInt8 := if hdB isExp (l4 l) then (l5 l).take (one isSig (l5 l)) else []
def l6 (l : List UInt8) : List UInt8 := (l5 l).drop (signL l).length
def powerL (l : List UInt8) : List UInt8 := if hdB isExp (l4 l) then (l6 l).takeWhile dgB else []
def l7 (l : List UInt8) : List UInt8 := (l6 l).drop (powerL l).length
def sW (l : List UInt8) : Wr := ⟨hdB isMin l, wholeL l, partL l, signL l, powerL l, hdB isDot (l2 l), hdB isExp (l4 l), l7 l⟩
/-- A number's text? -/
def okW (l : List UInt8) : Bool := !badW (wholeL l) && ((l7 l).isEmpty && (hdB isDot (l2 l) == !(partL l).isEmpty) && (hdB isExp (l4 l) == !(powerL l).isEmpty))

/-- A decimal: digits, the last one of which has an exponent. -/
structure Dm where
  minus : Bool
  digits : List UInt8
  exp : Int
deriving DecidableEq
def Dm.zero : Dm := ⟨false, [48], 0⟩
def lstrip (l : List UInt8) : List UInt8 := l.dropWhile (· == 48)
def rstrip (l : List UInt8) : List UInt8 := (l.reverse.dropWhile (· == 48)).reverse
def normalD (m : Bool) (ds : List UInt8) (e : Int) : Dm :=
  if rstrip (lstrip ds) = [] then .zero else ⟨m, rstrip (lstrip ds), e + (lstrip ds).length - (rstrip (lstrip ds)).length⟩
def Dm.text (d : Dm) : List UInt8 := if d = .zero then [48] else (if d.minus then [45] else []) ++ (d.digits ++ 101 :: Lib.itoa d.exp)
def expW (w : Wr) : Int := if w.sign = [45] then -((natV 0 w.power : Nat) : Int) else ((natV 0 w.power : Nat) : Int)
/-- Within bounds? -/
def inB (n : Int) : Bool := decide (-1000000000 ≤ n ∧ n ≤ 1000000000)
theorem inB_t {n : Int} : inB n = true ↔ -1000000000 ≤ n ∧ n ≤ 1000000000 := by simp [inB]
def dW (w : Wr) : Dm := normalD w.minus (w.whole ++ w.part) (expW w - w.part.length)
/-- A number that may be. -/
def goodL (l : List UInt8) : Bool := inB (expW (sW l)) && inB (dW (sW l)).exp
def readD (l : List UInt8) : List UInt8 × Int := if okW l then (if goodL l then ((dW (sW l)).text, 0) else ([], 7)) else ([], 3)
/-- A normal form? -/
def normL (l : List UInt8) : Bool := okW l && (goodL l && decide ((dW (sW l)).text = l))
def parseD (l : List UInt8) : Option Dm := if normL l then some (dW (sW l)) else none

/-- The sign of a value. -/
def Dm.sg (d : Dm) : Int := if d.digits = [48] then 0 else if d.minus then -1 else 1
def sizeD (a b : Dm) : Int := if Lib.compareInt (a.digits.length + a.exp) (b.digits.length + b.exp) = 0 then Lib.compareBytes a.digits b.digits else Lib.compareInt (a.digits.length + a.exp) (b.digits.length + b.exp)
def lessD (a b : Dm) : Bool := if a.sg = b.sg then decide (a.sg * sizeD a b < 0) else decide (a.sg < b.sg)
def lessT (a b : List UInt8) : Bool :=
  match parseD a, parseD b with
  | some x, some y => lessD x y
  | _, _ => false

/-- A decimal as it is made by reading. -/
structure Norm (d : Dm) : Prop where
  ne : d.digits ≠ []
  dg : ∀ c ∈ d.digits, dgB c = true
  inb : inB d.exp = true
  hd : d = .zero ∨ d.digits.head? ≠ some 48
  tl : d = .zero ∨ d.digits.getLast? ≠ some 48

end Go.Proofs.YtncldnghhpdolaaGreatDoor
