/- Plain words for chapter 04 (TOML's strings): how one is read, step by step; no statement of the seat is proved here. -/
import Derived.Test.YtflfedfghnnaeaaDoorHx
import Derived.Test.YtflfedfghnnaeaaDoorPut
namespace Go.Proofs.YtflfedfghnnaeaaDoor
open Go.RowKit

/-- May a byte stand for itself? -/
def plainB (c : Nat) : Bool := c == 9 || (decide (32 ≤ c) && c != 127)
def shortT : List (Nat × Nat) := [(98, 8), (116, 9), (110, 10), (102, 12), (114, 13), (34, 34), (92, 92)]
/-- The byte of a short escape's letter, from a row of the table on. -/
def shortFrom (c : Nat) (k : Nat) : Option Nat := ((shortT.drop k).find? fun x => x.1 == c).map (·.2)
theorem shortFrom_yes {c k : Nat} (h : k < shortT.length) (e : shortT[k].1 = c) : shortFrom c k = some shortT[k].2 := by
  unfold shortFrom; rw [List.drop_eq_getElem_cons h, List.find?_cons_of_pos (by simpa using e)]; rfl
theorem shortFrom_no {c k : Nat} (h : k < shortT.length) (e : shortT[k].1 ≠ c) : shortFrom c k = shortFrom c (k + 1) := by
  unfold shortFrom; rw [List.drop_eq_getElem_cons h, List.find?_cons_of_neg (by simpa using e)]
theorem shortFrom_end {c : Nat} : shortFrom c 7 = none := by simp [shortFrom, shortT]
/-- How many of a byte stand in a row, so many at most. -/
def runB (l : List UInt8) (q : Nat) : Nat → Nat → Nat
  | 0, _ => 0
  | f + 1, i => if bt l i = q then runB l q f (i + 1) + 1 else 0
/-- A line's end: how long it is; where it is wrong (below 0: nowhere). -/
def feedT (l : List UInt8) (i : Nat) : Nat × Int := if bt l i = 10 then (1, -1) else if bt l i = 13 then (if bt l (i + 1) = 10 then (2, -1) else (0, (i : Int) + 1)) else (0, -1)
/-- A step: 0: on from a place, what it tells; 1: over, behind it; 2: wrong there. -/
def marksT (l : List UInt8) (q : Nat) (i : Nat) : Nat × Nat × List UInt8 :=
  if 3 ≤ runB l q 5 i then (1, i + runB l q 5 i, List.replicate (runB l q 5 i - 3) (UInt8.ofNat q)) else (0, i + runB l q 5 i, List.replicate (runB l q 5 i) (UInt8.ofNat q))
def unitT (l : List UInt8) (d : Nat) (i : Nat) : Nat × Nat × List UInt8 :=
  if 0 ≤ (dgs l d (i + 2) 0).2 then (2, (dgs l d (i + 2) 0).2.toNat, [])
  else if 1114111 < (dgs l d (i + 2) 0).1 ∨ (55296 ≤ (dgs l d (i + 2) 0).1 ∧ (dgs l d (i + 2) 0).1 ≤ 57343) then (2, i + 2, [])
  else (0, i + 2 + d, putL [(dgs l d (i + 2) 0).1])
def escT (l : List UInt8) (i : Nat) : Nat × Nat × List UInt8 :=
  if l.length ≤ i + 1 then (2, l.length, []) else
  match shortFrom (bt l (i + 1)) 0 with
  | some b => (0, i + 2, [UInt8.ofNat b])
  | none => if bt l (i + 1) = 117 then unitT l 4 i else if bt l (i + 1) = 85 then unitT l 8 i else (2, i + 1, [])
/-- A fold, from a place behind its beginning on: it ends there (0), or is wrong there (2). -/
def foldR (l : List UInt8) (k : Nat) (lines : Bool) : Nat × Nat :=
  if h : k < l.length then
    if l[k].toNat = 32 ∨ l[k].toNat = 9 then foldR l (k + 1) lines
    else if l[k].toNat = 10 then foldR l (k + 1) true
    else if l[k].toNat = 13 then (if bt l (k + 1) = 10 then foldR l (k + 2) true else (2, k + 1))
    else if lines then (0, k) else (2, k)
  else (0, l.length)
termination_by l.length - k
def foldT (l : List UInt8) (i : Nat) : Nat × Nat × List UInt8 := ((foldR l (i + 1) false).1, (foldR l (i + 1) false).2, [])
def foldyB (c : Nat) : Bool := c == 32 || c == 9 || c == 13 || c == 10
def stepT (l : List UInt8) (q : Nat) (long : Bool) (i : Nat) : Nat × Nat × List UInt8 :=
  if bt l i = q then (if long then marksT l q i else (1, i + 1, []))
  else if bt l i = 92 ∧ q = 34 then (if long = true ∧ foldyB (bt l (i + 1)) = true then foldT l i else escT l i)
  else if long = true ∧ bt l i = 10 then (0, i + 1, [10])
  else if long = true ∧ bt l i = 13 then (if bt l (i + 1) = 10 then (0, i + 2, [13, 10]) else (2, i + 1, []))
  else if plainB (bt l i) then (0, i + 1, [UInt8.ofNat (bt l i)]) else (2, i, [])
/-- A string read on from a place, with what has been told so far: text, end, what is wrong, where. -/
def rdT (l : List UInt8) (q : Nat) (long : Bool) (i : Nat) (out : List UInt8) : List UInt8 × Int × Int × Int :=
  if _h : i < l.length then
    if (stepT l q long i).1 = 2 then ([], 0, 3, ((stepT l q long i).2.1 : Int))
    else if (stepT l q long i).1 = 1 then (out ++ (stepT l q long i).2.2, ((stepT l q long i).2.1 : Int), 0, 0)
    else if _hj : i < (stepT l q long i).2.1 then rdT l q long (stepT l q long i).2.1 (out ++ (stepT l q long i).2.2) else ([], 0, 3, 0)
  else ([], 0, 3, (l.length : Int))
termination_by l.length - i
/-- Does a long string begin there? -/
def longT (l : List UInt8) (i : Nat) : Bool := (bt l i == 34 || bt l i == 39) && bt l (i + 1) == bt l i && bt l (i + 2) == bt l i
def readAt (l : List UInt8) (i : Nat) : List UInt8 × Int × Int × Int :=
  if bt l i ≠ 34 ∧ bt l i ≠ 39 then ([], 0, 3, (i : Int))
  else if longT l i then (if 0 ≤ (feedT l (i + 3)).2 then ([], 0, 3, (feedT l (i + 3)).2) else rdT l (bt l i) true (i + 3 + (feedT l (i + 3)).1) [])
  else rdT l (bt l i) false (i + 1) []
def readT (l : List UInt8) (at_ : Int) : List UInt8 × Int × Int × Int := if at_ < 0 ∨ (l.length : Int) < at_ then ([], 0, 3, 0) else readAt l at_.toNat

theorem rdT_end {l : List UInt8} {q : Nat} {long : Bool} {i : Nat} {out : List UInt8} (h : l.length ≤ i) : rdT l q long i out = ([], 0, 3, (l.length : Int)) := by rw [rdT, dif_neg (by omega)]
theorem rdT_bad {l : List UInt8} {q : Nat} {long : Bool} {i p : Nat} {e out : List UInt8} (h : i < l.length) (hs : stepT l q long i = (2, p, e)) : rdT l q long i out = ([], 0, 3, (p : Int)) := by
  rw [rdT, dif_pos h, hs]; exact if_pos rfl
theorem rdT_over {l : List UInt8} {q : Nat} {long : Bool} {i p : Nat} {e out : List UInt8} (h : i < l.length) (hs : stepT l q long i = (1, p, e)) : rdT l q long i out = (out ++ e, (p : Int), 0, 0) := by
  rw [rdT, dif_pos h, hs]
  rw [if_neg (by simp), if_pos rfl]
theorem rdT_on {l : List UInt8} {q : Nat} {long : Bool} {i p : Nat} {e out : List UInt8} (h : i < l.length) (hs : stepT l q long i = (0, p, e)) (hp : i < p) : rdT l q long i out = rdT l q long p (out ++ e) := by
  conv => lhs; rw [rdT, dif_pos h, hs, if_neg (by simp), if_neg (by simp), dif_pos (by exact hp)]
theorem runB_le (l : List UInt8) (q : Nat) : ∀ (f i : Nat), runB l q f i ≤ f := by
  intro f
  induction f with
  | zero => intro i; simp [runB]
  | succ f ih => intro i; rw [runB]; have := ih (i + 1); split <;> omega
theorem runB_pos {l : List UInt8} {q f i : Nat} (h : bt l i = q) : 0 < runB l q (f + 1) i := by rw [runB, if_pos h]; omega
theorem foldR_le (l : List UInt8) : ∀ (n k : Nat) (b : Bool), l.length - k ≤ n → k ≤ l.length → k ≤ (foldR l k b).2 ∧ (foldR l k b).2 ≤ l.length ∧ ((foldR l k b).1 = 0 ∨ (foldR l k b).1 = 2) := by
  intro n
  induction n with
  | zero => intro k b h hk; rw [foldR, dif_neg (by omega)]; exact ⟨hk, Nat.le_refl _, .inl rfl⟩
  | succ n ih =>
    intro k b h hk
    rw [foldR]
    by_cases h1 : k < l.length
    · rw [dif_pos h1]
      by_cases h2 : l[k].toNat = 32 ∨ l[k].toNat = 9
      · rw [if_pos h2]; have := ih (k + 1) b (by omega) (by omega); exact ⟨by omega, this.2⟩
      rw [if_neg h2]
      by_cases h3 : l[k].toNat = 10
      · rw [if_pos h3]; have := ih (k + 1) true (by omega) (by omega); exact ⟨by omega, this.2⟩
      rw [if_neg h3]
      by_cases h4 : l[k].toNat = 13
      · rw [if_pos h4]
        by_cases h5 : bt l (k + 1) = 10
        · rw [if_pos h5]
          have : k + 1 < l.length := by
            rcases Nat.lt_or_ge (k + 1) l.length with h' | h'
            · exact h'
            · rw [bt_ge h'] at h5; omega
          have := ih (k + 2) true (by omega) (by omega); exact ⟨by omega, this.2⟩
        · rw [if_neg h5]; exact ⟨by simp, h1, .inr rfl⟩
      rw [if_neg h4]
      split
      · exact ⟨Nat.le_refl _, hk, .inl rfl⟩
      · exact ⟨Nat.le_refl _, hk, .inr rfl⟩
    · rw [dif_neg h1]; exact ⟨hk, Nat.le_refl _, .inl rfl⟩
theorem bt_lt_of {l : List UInt8} {i : Nat} (h : bt l i ≠ 256) : i < l.length := by
  rcases Nat.lt_or_ge i l.length with h' | h'
  · exact h'
  · exact absurd (bt_ge h') h
theorem shortFrom_lt {c b : Nat} (h : shortFrom c 0 = some b) : b < 128 := by
  unfold shortFrom at h
  obtain ⟨x, hx, rfl⟩ := Option.map_eq_some_iff.1 h
  have hm := List.mem_of_find?_eq_some hx
  simp [shortT] at hm
  rcases hm with rfl | rfl | rfl | rfl | rfl | rfl | rfl <;> decide
/-- A step goes on, is over, or is wrong; it goes on to a later place; what it tells is no longer than what it takes. -/
theorem unitT_ways (l : List UInt8) (d i : Nat) (_hd : d = 4 ∨ d = 8) : ((unitT l d i).1 = 0 ∧ (unitT l d i).2.1 = i + 2 + d ∧ (unitT l d i).2.2.length ≤ 4) ∨ ((unitT l d i).1 = 2 ∧ i < (unitT l d i).2.1 ∧ (unitT l d i).2.2 = []) := by
  unfold unitT
  by_cases h : 0 ≤ (dgs l d (i + 2) 0).2
  · rw [if_pos h]
    right
    refine ⟨rfl, ?_, rfl⟩
    rcases dgs_pos l d (i + 2) 0 with h' | h'
    · omega
    · show i < (dgs l d (i + 2) 0).2.toNat; omega
  rw [if_neg h]
  split
  · right; exact ⟨rfl, by show i < i + 2; omega, rfl⟩
  · left; exact ⟨rfl, rfl, by have := putL_len [(dgs l d (i + 2) 0).1]; simpa using this⟩
theorem escT_ways (l : List UInt8) (i : Nat) (h : i < l.length) : ((escT l i).1 = 0 ∧ i < (escT l i).2.1 ∧ (escT l i).2.1 ≤ i + 10 ∧ i + (escT l i).2.2.length ≤ (escT l i).2.1) ∨ ((escT l i).1 = 2 ∧ i < (escT l i).2.1 ∧ (escT l i).2.2 = []) := by
  unfold escT
  by_cases h1 : l.length ≤ i + 1
  · rw [if_pos h1]; right; exact ⟨rfl, h, rfl⟩
  rw [if_neg h1]
  cases shortFrom (bt l (i + 1)) 0 with
  | some b => left; exact ⟨rfl, by show i < i + 2; omega, by show i + 2 ≤ i + 10; omega, by show i + 1 ≤ i + 2; omega⟩
  | none =>
    dsimp only
    split
    · rcases unitT_ways l 4 i (.inl rfl) with ⟨a, b, c⟩ | a
      · left; exact ⟨a, by omega, by omega, by omega⟩
      · right; exact a
    · split
      · rcases unitT_ways l 8 i (.inr rfl) with ⟨a, b, c⟩ | a
        · left; exact ⟨a, by omega, by omega, by omega⟩
        · right; exact a
      · right; exact ⟨rfl, by show i < i + 1; omega, rfl⟩
theorem stepT_ways (l : List UInt8) (q : Nat) (long : Bool) (i : Nat) (h : i < l.length) :
    ((stepT l q long i).1 = 0 ∧ i < (stepT l q long i).2.1 ∧ (stepT l q long i).2.1 ≤ max (i + 10) l.length ∧ i + (stepT l q long i).2.2.length ≤ (stepT l q long i).2.1) ∨ ((stepT l q long i).1 = 1 ∧ i < (stepT l q long i).2.1 ∧ i + (stepT l q long i).2.2.length ≤ (stepT l q long i).2.1) ∨ ((stepT l q long i).1 = 2 ∧ (stepT l q long i).2.2 = []) := by
  unfold stepT
  by_cases h1 : bt l i = q
  · rw [if_pos h1]
    cases long
    · right; left; exact ⟨rfl, by show i < i + 1; omega, by show i + 0 ≤ i + 1; omega⟩
    · rw [if_pos rfl]
      unfold marksT
      have hp : 0 < runB l q 5 i := runB_pos h1
      have hle := runB_le l q 5 i
      split
      · right; left; exact ⟨rfl, by show i < i + runB l q 5 i; omega, by simp⟩
      · left; exact ⟨rfl, by show i < i + runB l q 5 i; omega, by show i + runB l q 5 i ≤ _; omega, by simp⟩
  rw [if_neg h1]
  split
  · split
    · rcases foldR_le l (l.length - (i + 1)) (i + 1) false (Nat.le_refl _) (by omega) with ⟨a, b, c | c⟩
      · left; exact ⟨c, by show i < (foldR l (i + 1) false).2; omega, by show (foldR l (i + 1) false).2 ≤ _; omega, by show i + 0 ≤ (foldR l (i + 1) false).2; omega⟩
      · right; right; exact ⟨c, rfl⟩
    · rcases escT_ways l i h with ⟨a, b, c, d⟩ | a
      · left; exact ⟨a, b, by omega, d⟩
      · right; right; exact ⟨a.1, a.2.2⟩
  split
  · left; exact ⟨rfl, by show i < i + 1; omega, by show i + 1 ≤ _; omega, by show i + 1 ≤ i + 1; omega⟩
  split
  · split
    · left; exact ⟨rfl, by show i < i + 2; omega, by show i + 2 ≤ _; omega, by show i + 2 ≤ i + 2; omega⟩
    · right; right; exact ⟨rfl, rfl⟩
  split
  · left; exact ⟨rfl, by show i < i + 1; omega, by show i + 1 ≤ _; omega, by show i + 1 ≤ i + 1; omega⟩
  · right; right; exact ⟨rfl, rfl⟩

end Go.Proofs.YtflfedfghnnaeaaDoor
