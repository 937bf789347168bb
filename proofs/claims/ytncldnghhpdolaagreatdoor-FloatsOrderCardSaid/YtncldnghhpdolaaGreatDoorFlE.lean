/- The reference's Read of chapter 06 by its places, in plain Lean; no statement of the seat is proved here. -/
import Derived.Test.YtncldnghhpdolaaGreatDoorFlR
namespace Go.Proofs.YtncldnghhpdolaaGreatDoor

def i0R (l : List UInt8) : Nat := if hdB isSig l = true then 1 else 0
def n1R (l : List UInt8) : List UInt8 := runD (l.drop (i0R l))
def e1R (l : List UInt8) : Nat := i0R l + runE false (l.drop (i0R l))
def ptR (l : List UInt8) : Bool := hdB isDot (l.drop (e1R l))
def p2R (l : List UInt8) : List UInt8 := runD (l.drop (e1R l + 1))
def e2R (l : List UInt8) : Nat := e1R l + 1 + runE false (l.drop (e1R l + 1))
def k2R (l : List UInt8) : Nat := if ptR l = true then e2R l else e1R l
def t2R (l : List UInt8) : List UInt8 := signR l ++ (n1R l ++ (if ptR l = true then 46 :: p2R l else []))
def raR (l : List UInt8) : Bool := hdB isExp (l.drop (k2R l))
def sbR (l : List UInt8) : Bool := hdB isSig (l.drop (k2R l + 1))
def k3R (l : List UInt8) : Nat := if sbR l = true then k2R l + 1 + 1 else k2R l + 1
def sgR (l : List UInt8) : List UInt8 := if sbR l = true then (l.drop (k2R l + 1)).take 1 else []
def p3R (l : List UInt8) : List UInt8 := runD (l.drop (k3R l))
def e3R (l : List UInt8) : Nat := k3R l + runE false (l.drop (k3R l))
theorem beh_drop (l : List UInt8) (k : Nat) : behR (l.drop k) = l.drop (if hdB isSig (l.drop k) = true then k + 1 else k) := by
  unfold behR
  split
  · rw [List.tail_drop]
  · rfl
theorem beh_i0 (l : List UInt8) : behR l = l.drop (i0R l) := by
  have := beh_drop l 0
  rw [List.drop_zero] at this
  rw [this]
  unfold i0R
  split <;> rfl
theorem rest_drop (l : List UInt8) (k : Nat) : restR (l.drop k) = l.drop (k + runE false (l.drop k)) := by unfold restR; rw [List.drop_drop]
theorem drop_nil_iff (l : List UInt8) (k : Nat) : l.drop k ≠ [] ↔ k < l.length := by rw [ne_eq, List.drop_eq_nil_iff]; omega
theorem exp_at (T l : List UInt8) (more : Bool) (k : Nat) : expR T more (l.drop k) =
    if hdB isExp (l.drop k) = true then
      if runD (behR (l.drop (k + 1))) = [] then ([], 3)
      else if restR (behR (l.drop (k + 1))) ≠ [] then ([], 3) else readD (T ++ (101 :: ((if hdB isSig (l.drop (k + 1)) = true then (l.drop (k + 1)).take 1 else []) ++ runD (behR (l.drop (k + 1))))))
    else if k < l.length ∨ more = false then ([], 3) else readD T := by
  unfold expR
  rw [List.tail_drop]
  split
  · rfl
  · congr 1
    rw [drop_nil_iff]
/-- The reference's Read by its places. -/
theorem fltR_pl (l : List UInt8) : fltR l =
    if l.drop (i0R l) = infL then (signR l ++ infL, 0) else if l.drop (i0R l) = nanL then (nanL, 0)
    else if n1R l = [] ∨ (1 < (n1R l).length ∧ (n1R l).head? = some 48) then ([], 3)
    else if ptR l = true ∧ p2R l = [] then ([], 3)
    else if raR l = true then
      if p3R l = [] then ([], 3) else if e3R l < l.length then ([], 3) else readD (t2R l ++ (101 :: (sgR l ++ p3R l)))
    else if k2R l < l.length ∨ ptR l = false then ([], 3) else readD (t2R l) := by
  unfold fltR
  rw [beh_i0]
  split
  · rfl
  · split
    · rfl
    · show (if n1R l = [] ∨ (1 < (n1R l).length ∧ (n1R l).head? = some 48) then _ else _) = _
      split
      · rfl
      · rw [rest_drop]
        show (if ptR l = true then _ else _) = _
        have hE : ∀ (T : List UInt8), T = t2R l → expR T (ptR l) (l.drop (k2R l)) = if raR l = true then
            if p3R l = [] then ([], 3) else if e3R l < l.length then ([], 3) else readD (t2R l ++ (101 :: (sgR l ++ p3R l)))
            else if k2R l < l.length ∨ ptR l = false then ([], 3) else readD (t2R l) := by
          intro T hT
          have h3 : behR (l.drop (k2R l + 1)) = l.drop (k3R l) := by rw [beh_drop]; rfl
          rw [exp_at, hT, h3, rest_drop]
          show (if raR l = true then (if p3R l = [] then _ else if l.drop (e3R l) ≠ [] then _ else readD (t2R l ++ (101 :: (sgR l ++ p3R l)))) else _) = _
          simp only [drop_nil_iff]
        by_cases hp : ptR l = true
        · rw [if_pos hp, List.tail_drop]
          show (if p2R l = [] then _ else _) = _
          by_cases h2 : p2R l = []
          · rw [if_pos h2, if_pos ⟨hp, h2⟩]
          · rw [if_neg h2, if_neg (fun e => h2 e.2), rest_drop]
            have hk : k2R l = e2R l := by unfold k2R; rw [if_pos hp]
            have := hE (signR l ++ (n1R l ++ (46 :: p2R l))) (by unfold t2R; rw [if_pos hp])
            rw [hk, hp] at this
            rw [hk, hp, ← this]
            rfl
        · have hp' : ptR l = false := by simpa using hp
          rw [if_neg hp, if_neg (fun e => hp e.1)]
          have hk : k2R l = e1R l := by unfold k2R; rw [if_neg hp]
          have := hE (signR l ++ n1R l) (by unfold t2R; rw [if_neg hp, List.append_nil])
          rw [hk, hp'] at this
          rw [hk, hp', ← this]
          rfl
theorem runD_le (l : List UInt8) : (runD l).length ≤ l.length := by
  unfold runD
  exact Nat.le_trans (lowQ_le _) (by rw [List.length_take]; omega)
theorem run_end (l : List UInt8) (k : Nat) (h : k ≤ l.length) : k + runE false (l.drop k) ≤ l.length := by
  have := runE_le (l.drop k) false
  rw [List.length_drop] at this
  omega
theorem hd_drop {p : UInt8 → Bool} {l : List UInt8} {k : Nat} (h : hdB p (l.drop k) = true) : k < l.length := by
  rw [← drop_nil_iff]
  intro e; rw [e] at h; cases h
theorem i0_le (l : List UInt8) : i0R l ≤ l.length := by
  unfold i0R
  split
  · have := hd_drop (k := 0) (by rwa [List.drop_zero]); omega
  · omega
theorem e1_le (l : List UInt8) : e1R l ≤ l.length := run_end l _ (i0_le l)
theorem e2_le (l : List UInt8) (h : ptR l = true) : e2R l ≤ l.length := run_end l _ (hd_drop h)
theorem k2_le (l : List UInt8) : k2R l ≤ l.length := by
  unfold k2R
  split
  · exact e2_le l ‹_›
  · exact e1_le l
theorem k3_le (l : List UInt8) (h : raR l = true) : k3R l ≤ l.length := by
  have := hd_drop h
  unfold k3R
  split
  · exact hd_drop ‹_›
  · omega
theorem e3_le (l : List UInt8) (h : raR l = true) : e3R l ≤ l.length := run_end l _ (k3_le l h)

end Go.Proofs.YtncldnghhpdolaaGreatDoor
