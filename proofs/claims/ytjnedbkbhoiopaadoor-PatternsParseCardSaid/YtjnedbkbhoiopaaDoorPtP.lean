/- Plain words of chapter 17's patterns; no program in them, and no statement of the seat is proved here. -/
import Derived.Test.YtjnedbkbhoiopaaDoorBase
namespace Go.Proofs.YtjnedbkbhoiopaaDoor
open Go.RowKit

/-- Bytes that must be written with a percent sign. -/
def spec (c : UInt8) : Bool := decide (c.toNat ≤ 32) || decide (c.toNat = 127) || ([37, 47, 91, 93, 61, 42] : List UInt8).contains c
/-- A digit of base 16. -/
def hexd (c : UInt8) : Bool := (decide (48 ≤ c.toNat) && decide (c.toNat ≤ 57)) || (decide (65 ≤ c.toNat) && decide (c.toNat ≤ 70)) || (decide (97 ≤ c.toNat) && decide (c.toNat ≤ 102))
def hexv (c : UInt8) : Nat := if c.toNat ≤ 57 then c.toNat - 48 else if c.toNat ≤ 70 then c.toNat - 55 else c.toNat - 87
/-- What a word tells, how far it goes, or (third) how far off it is wrong. -/
def wordL : List UInt8 → List UInt8 × Nat × Option Nat
  | [] => ([], 0, none)
  | c :: t =>
    if c = 37 then
      match t with
      | [] => ([], 0, some 1)
      | [a] => ([], 0, some (if hexd a then 2 else 1))
      | a :: b :: r =>
        if hexd a then
          if hexd b then
            match wordL r with
            | (o, n, none) => (UInt8.ofNat (hexv a * 16 + hexv b) :: o, n + 3, none)
            | (_, _, some k) => ([], 0, some (k + 3))
          else ([], 0, some 2)
        else ([], 0, some 1)
    else if spec c then ([], 0, none)
    else
      match wordL t with
      | (o, n, none) => (c :: o, n + 1, none)
      | (_, _, some k) => ([], 0, some (k + 1))

/-- A word, spelled. -/
def hexc (n : Nat) : UInt8 := UInt8.ofNat (if n < 10 then 48 + n else 87 + n)
def spellC (c : UInt8) : List UInt8 := if spec c || decide (128 ≤ c.toNat) then [37, hexc (c.toNat / 16), hexc (c.toNat % 16)] else [c]
def spellL (l : List UInt8) : List UInt8 := l.flatMap spellC

/-- A step of a path: its kind, its text, its id. -/
structure PStep where
  kind : Int
  txt : List UInt8
  ids : List UInt8
/-- A step of a pattern. -/
inductive Pat where
  | key (w : List UInt8)
  | anyKey
  | stars
  | anyAt
  | id (field w : List UInt8)
  | anyId (field : List UInt8)
def Pat.any : Pat → Bool
  | .stars => true
  | _ => false
def Pat.text : Pat → List UInt8
  | .key w => 47 :: spellL w
  | .anyKey => [47, 42]
  | .stars => [47, 42, 42]
  | .anyAt => [91, 42, 93]
  | .id f w => 91 :: (spellL f ++ 61 :: (spellL w ++ [93]))
  | .anyId f => 91 :: (spellL f ++ [61, 42, 93])
def Pat.takes : Pat → PStep → Bool
  | .key w, s => decide (s.kind = 0) && decide (s.txt = w)
  | .anyKey, s => decide (s.kind = 0)
  | .stars, _ => true
  | .anyAt, s => decide (s.kind = 1) || decide (s.kind = 2)
  | .id f w, s => decide (s.kind = 2) && decide (s.txt = f) && decide (s.ids = w)
  | .anyId f, s => decide (s.kind = 2) && decide (s.txt = f)

/-- A step behind its mark: it, and where it ends; or where it is wrong. -/
def keyedL (l : List UInt8) (i : Nat) : Except Nat (Pat × Nat) :=
  if l[i]? = some 42 then
    if l[i + 1]? = some 42 then .ok (.stars, i + 2) else .ok (.anyKey, i + 1)
  else
    match wordL (l.drop i) with
    | (o, n, none) => .ok (.key o, i + n)
    | (_, _, some k) => .error (i + k)
def closedL (l : List UInt8) (p : Pat) (i : Nat) : Except Nat (Pat × Nat) := if l[i]? = some 93 then .ok (p, i + 1) else .error i
def listedL (l : List UInt8) (i : Nat) : Except Nat (Pat × Nat) :=
  if l[i]? = some 42 then closedL l .anyAt (i + 1)
  else
    match wordL (l.drop i) with
    | (_, _, some k) => .error (i + k)
    | (o, n, none) =>
      if l[i + n]? = some 61 then
        if l[i + n + 1]? = some 42 then closedL l (.anyId o) (i + n + 2)
        else
          match wordL (l.drop (i + n + 1)) with
          | (_, _, some k) => .error (i + n + 1 + k)
          | (v, m, none) => closedL l (.id o v) (i + n + 1 + m)
      else .error (i + n)
/-- Steps from a place on, of which there are some ahead. -/
def stepsL (l : List UInt8) : Nat → Nat → List Pat → Except Nat (List Pat)
  | 0, _, ps => .ok ps
  | fuel + 1, i, ps =>
    if i < l.length then
      if ps.length = 512 then .error i
      else if l[i]? = some 47 then
        match keyedL l (i + 1) with
        | .error k => .error k
        | .ok (p, e) => stepsL l fuel e (ps ++ [p])
      else if l[i]? = some 91 then
        match listedL l (i + 1) with
        | .error k => .error k
        | .ok (p, e) => stepsL l fuel e (ps ++ [p])
      else .error (i + if i = 0 ∧ l[0]? = some 46 then 1 else 0)
    else .ok ps
def parseL (l : List UInt8) : Except Nat (List Pat) :=
  if l = [46] then .ok [] else if l = [] then .error 0 else stepsL l (l.length + 1) 0 []
def textL (ps : List Pat) : List UInt8 := if ps = [] then [46] else ps.flatMap Pat.text

/-- Which beginnings of the path the steps up to now take, with one step more. -/
def nxt (p : Pat) (may : Nat → Bool) (path : List PStep) : Nat → Bool
  | 0 => p.any && may 0
  | i + 1 => (p.any && may (i + 1)) || ((match path[i]? with | some s => p.takes s | none => false) && (may i || (p.any && nxt p may path i)))
def mayL (ps : List Pat) (path : List PStep) : Nat → Bool := ps.foldl (fun may p => nxt p may path) (fun i => decide (i = 0))
def matchL (ps : List Pat) (path : List PStep) : Bool := mayL ps path path.length
theorem mayL_snoc (ps : List Pat) (p : Pat) (path : List PStep) : mayL (ps ++ [p]) path = nxt p (mayL ps path) path := by
  unfold mayL; rw [List.foldl_append]; rfl

/-! The chapter's examples. -/
example : parseL [47, 37, 52, 49, 37, 50, 70] = .ok [.key [65, 47]] := by rfl
example : textL [.key [65, 47]] = [47, 65, 37, 50, 102] := by rfl
example : parseL [97] = .error 0 := by rfl
example : parseL [47, 97, 32, 98] = .error 2 := by rfl
example : parseL [47, 97, 37, 50] = .error 4 := by rfl
example : parseL [47, 120, 42] = .error 2 := by rfl
example : (match parseL [47, 97, 47, 42, 47, 99] with | .ok ps => matchL ps [⟨0, [97], []⟩, ⟨0, [98], []⟩, ⟨0, [99], []⟩] | _ => false) = true := by rfl
example : (match parseL [47, 42, 42, 47, 120] with | .ok ps => matchL ps [⟨0, [120], []⟩] && matchL ps [⟨0, [97], []⟩, ⟨0, [98], []⟩, ⟨0, [120], []⟩] | _ => false) = true := by rfl

/-! How a word is read piece by piece. -/
def wApp (o : List UInt8) (k : Nat) : List UInt8 × Nat × Option Nat → List UInt8 × Nat × Option Nat
  | (x, n, none) => (o ++ x, k + n, none)
  | (_, _, some j) => ([], 0, some (k + j))
theorem wApp_app (o o' : List UInt8) (k k' : Nat) (x : List UInt8 × Nat × Option Nat) : wApp o k (wApp o' k' x) = wApp (o ++ o') (k + k') x := by
  obtain ⟨a, n, b⟩ := x
  cases b <;> simp [wApp] <;> omega
theorem wordL_plain {c : UInt8} {t : List UInt8} (h : spec c = false) : wordL (c :: t) = wApp [c] 1 (wordL t) := by
  have h37 : c ≠ 37 := by rintro rfl; exact absurd h (by decide)
  rw [wordL.eq_def]
  dsimp only
  rw [if_neg h37, if_neg (by rw [h]; decide)]
  generalize wordL t = x
  obtain ⟨a, n, b⟩ := x
  cases b <;> simp [wApp] <;> omega
theorem wordL_stop {c : UInt8} {t : List UInt8} (h : spec c = true) (h37 : c ≠ 37) : wordL (c :: t) = ([], 0, none) := by
  rw [wordL.eq_def]
  dsimp only
  rw [if_neg h37, if_pos h]
theorem wordL_nil : wordL [] = ([], 0, none) := rfl
theorem wordL_hex {a b : UInt8} {r : List UInt8} (ha : hexd a = true) (hb : hexd b = true) : wordL (37 :: a :: b :: r) = wApp [UInt8.ofNat (hexv a * 16 + hexv b)] 3 (wordL r) := by
  rw [wordL, if_pos rfl]
  simp only [ha, hb, if_true]
  generalize wordL r = x
  obtain ⟨y, n, z⟩ := x
  cases z <;> simp [wApp] <;> omega
theorem wordL_bad1 {t : List UInt8} (h : ∀ a, t[0]? = some a → hexd a = false) : wordL (37 :: t) = ([], 0, some 1) := by
  cases t with
  | nil => rfl
  | cons a t =>
    have := h a rfl
    cases t with
    | nil => rw [wordL, if_pos rfl]; simp [this]
    | cons b t => rw [wordL, if_pos rfl]; simp [this]
theorem wordL_bad2 {a : UInt8} {t : List UInt8} (ha : hexd a = true) (h : ∀ b, t[0]? = some b → hexd b = false) : wordL (37 :: a :: t) = ([], 0, some 2) := by
  cases t with
  | nil => rw [wordL, if_pos rfl]; simp [ha]
  | cons b t =>
    have := h b rfl
    rw [wordL, if_pos rfl]; simp [ha, this]
/-- Where it is wrong, nothing is told. -/
theorem wApp_some (o : List UInt8) (k : Nat) (x : List UInt8 × Nat × Option Nat) : ∀ j, (wApp o k x).2.2 = some j → (wApp o k x).1 = [] ∧ (wApp o k x).2.1 = 0 := by
  obtain ⟨a, n, b⟩ := x
  cases b <;> simp [wApp]
theorem wordL_some (l : List UInt8) : ∀ j, (wordL l).2.2 = some j → (wordL l).1 = [] ∧ (wordL l).2.1 = 0 := by
  match l with
  | [] => simp [wordL]
  | c :: t =>
    by_cases h37 : c = 37
    · subst h37
      match t with
      | [] => simp [wordL]
      | [a] => rw [wordL, if_pos rfl]; simp
      | a :: b :: r =>
        by_cases ha : hexd a = true
        · by_cases hb : hexd b = true
          · rw [wordL_hex ha hb]; exact wApp_some _ _ _
          · rw [wordL_bad2 ha (by rintro _ ⟨⟩; simpa using hb)]; simp
        · rw [wordL_bad1 (by rintro _ ⟨⟩; simpa using ha)]; simp
    · by_cases hs : spec c = true
      · rw [wordL_stop hs h37]; simp
      · rw [wordL_plain (by simpa using hs)]; exact wApp_some _ _ _
theorem wApp_zero (l : List UInt8) : wApp [] 0 (wordL l) = wordL l := by
  have h := wordL_some l
  revert h
  generalize wordL l = x
  obtain ⟨a, n, b⟩ := x
  cases b with
  | none => simp [wApp]
  | some j => intro h; obtain ⟨h1, h2⟩ := h j rfl; simp at h1 h2; subst h1 h2; simp [wApp]
/-- A word goes no further than the text. -/
theorem wordL_le : ∀ (n : Nat) (l : List UInt8), l.length ≤ n → (wordL l).2.1 ≤ l.length ∧ (wordL l).1.length ≤ (wordL l).2.1 ∧ ∀ j, (wordL l).2.2 = some j → j ≤ l.length
  | _, [], _ => by simp [wordL]
  | 0, _ :: _, h => by simp at h
  | n + 1, c :: t, hl => by
    rw [List.length_cons] at hl
    by_cases h37 : c = 37
    · subst h37
      match t, hl with
      | [], _ => simp [wordL]
      | [a], _ => rw [wordL, if_pos rfl]; by_cases ha : hexd a <;> simp [ha]
      | a :: b :: r, hl =>
        by_cases ha : hexd a
        · by_cases hb : hexd b
          · have ih := wordL_le n r (by simp only [List.length_cons] at hl; omega)
            rw [wordL_hex ha hb]
            generalize wordL r = x at ih ⊢
            obtain ⟨y, k, z⟩ := x
            cases z with
            | none => simp [wApp] at ih ⊢; omega
            | some j => simp [wApp] at ih ⊢; omega
          · rw [wordL_bad2 ha (by rintro _ ⟨⟩; simpa using hb)]; simp
        · rw [wordL_bad1 (by rintro _ ⟨⟩; simpa using ha)]; simp
    · by_cases hs : spec c
      · rw [wordL_stop hs h37]; simp
      · have ih := wordL_le n t (by omega)
        rw [wordL_plain (by simpa using hs)]
        generalize wordL t = x at ih ⊢
        obtain ⟨y, k, z⟩ := x
        cases z with
        | none => simp [wApp] at ih ⊢; omega
        | some j => simp [wApp] at ih ⊢; omega

end Go.Proofs.YtjnedbkbhoiopaaDoor
