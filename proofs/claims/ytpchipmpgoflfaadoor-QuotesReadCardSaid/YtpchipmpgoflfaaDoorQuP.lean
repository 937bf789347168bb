/- The plain law of chapter 03's Read: unit by unit, as the reference reads, is what the program reads; no program in it, and no statement of the seat is proved here. -/
import Derived.Test.YtpchipmpgoflfaaDoorQuE
import Derived.Test.YtpchipmpgoflfaaDoorQuU
namespace Go.Proofs.YtpchipmpgoflfaaDoor
open Go.RowKit

def uHigh (u : UnitF) : Bool := !u.byte && (decide (55296 ≤ u.n) && decide (u.n ≤ 56319))
def uLow (u : UnitF) : Bool := !u.byte && (decide (56320 ≤ u.n) && decide (u.n ≤ 57343))
/-- The first unit, if it is the second half of a pair. -/
def lowHd (r : List UnitF) : Option UnitF := match r with
  | v :: _ => if uLow v then some v else none
  | [] => none
/-- The text of units, or the place of half of a pair. -/
def ruR : List UnitF → List UInt8 → List UInt8 ⊕ Int
  | [], out => .inl out
  | u :: r, out =>
    if u.byte then ruR r (out ++ [UInt8.ofNat u.n.toNat])
    else if uHigh u then (match lowHd r with
      | some v => ruR r.tail (out ++ putL [65536 + 1024 * (u.n - 55296) + v.n - 56320])
      | none => .inr u.at_)
    else if uLow u then .inr u.at_ else ruR r (out ++ putL [u.n])
termination_by us => us.length
decreasing_by all_goals (simp; try omega)
def finR (r : List UInt8 ⊕ Int) (e : Int) : List UInt8 × Int × Int := match r with
  | .inr a => ([], 6, a)
  | .inl out => if 0 ≤ e then ([], 3, e) else (out, 0, 0)
theorem fin_pos {out : List UInt8} {e : Int} (h : 0 ≤ e) : finR (.inl out) e = ([], 3, e) := if_pos h
def readR (l : List UInt8) : List UInt8 × Int × Int := finR (ruR (unitsQ l).1 []) (unitsQ l).2

theorem ruR_nil (out : List UInt8) : ruR [] out = .inl out := by rw [ruR]
theorem ruR_byte {u : UnitF} {r : List UnitF} {out : List UInt8} (h : u.byte = true) : ruR (u :: r) out = ruR r (out ++ [UInt8.ofNat u.n.toNat]) := by rw [ruR, if_pos h]
theorem ruR_one {u : UnitF} {r : List UnitF} {out : List UInt8} (h : u.byte = false) (h1 : uHigh u = false) (h2 : uLow u = false) : ruR (u :: r) out = ruR r (out ++ putL [u.n]) := by
  rw [ruR, if_neg (by simp [h]), if_neg (by simp [h1]), if_neg (by simp [h2])]
theorem ruR_low {u : UnitF} {r : List UnitF} {out : List UInt8} (h : u.byte = false) (h1 : uHigh u = false) (h2 : uLow u = true) : ruR (u :: r) out = .inr u.at_ := by
  rw [ruR, if_neg (by simp [h]), if_neg (by simp [h1]), if_pos h2]
theorem ruR_pair {u v : UnitF} {r : List UnitF} {out : List UInt8} (h : u.byte = false) (h1 : uHigh u = true) (h2 : uLow v = true) : ruR (u :: v :: r) out = ruR r (out ++ putL [65536 + 1024 * (u.n - 55296) + v.n - 56320]) := by
  have hl : lowHd (v :: r) = some v := if_pos h2
  rw [ruR, if_neg (by simp [h]), if_pos h1, hl]; rfl
theorem ruR_half {u : UnitF} {r : List UnitF} {out : List UInt8} (h : u.byte = false) (h1 : uHigh u = true) (h2 : ∀ v r2, r = v :: r2 → uLow v = false) : ruR (u :: r) out = .inr u.at_ := by
  have hl : lowHd r = none := by
    cases r with
    | nil => rfl
    | cons v r2 => exact if_neg (by simp [h2 v r2 rfl])
  rw [ruR, if_neg (by simp [h]), if_pos h1, hl]

theorem shortI_u (h : 0 ≤ shortI 117 0) : False := by simp [shortI, shortFrom, shortT] at h
theorem shortI_none {c : Nat} (h : shortI c 0 < 0) : shortFrom c 0 = none := by
  unfold shortI at h
  cases h' : shortFrom c 0 with
  | none => rfl
  | some b => rw [h'] at h; simp at h; omega
theorem shortI_some {c : Nat} (h : 0 ≤ shortI c 0) : ∃ b : Nat, shortFrom c 0 = some b ∧ shortI c 0 = (b : Int) := by
  unfold shortI at h ⊢
  cases h' : shortFrom c 0 with
  | none => rw [h'] at h; simp at h
  | some b => exact ⟨b, rfl, rfl⟩

/-- An escape that is whole is the next unit. -/
theorem unit_head {l : List UInt8} {j : Nat} {m b : Int} (h : unitL l j = (m, b)) (hb : b < 0) : unitsL l j = (⟨j, 6, false, m⟩ :: (unitsL l (j + 6)).1, (unitsL l (j + 6)).2) := by
  unfold unitL at h
  rw [uRest] at h
  by_cases h1 : bt l j ≠ 92
  · rw [if_pos h1] at h; injection h; omega
  rw [if_neg h1] at h
  by_cases h2 : bt l (j + 1) ≠ 117
  · rw [if_pos h2] at h; injection h; omega
  rw [if_neg h2] at h
  have h1' : bt l j = 92 := by omega
  have h2' : bt l (j + 1) = 117 := by omega
  have hj : j < l.length := by
    rcases Nat.lt_or_ge j l.length with h | h
    · exact h
    · rw [bt_ge h] at h1'; omega
  have hj1 : j + 1 < l.length := by
    rcases Nat.lt_or_ge (j + 1) l.length with h | h
    · exact h
    · rw [bt_ge h] at h2'; omega
  have e : l[j].toNat = 92 := by rw [← bt_lt hj]; exact h1'
  conv => lhs; rw [unitsL, dif_pos hj, if_neg (by omega), if_neg (by omega), if_neg (by omega), if_neg (by omega), h2', if_neg (fun h => shortI_u h), if_neg (by omega), h, if_neg (by show ¬ 0 ≤ b; omega)]
/-- .. and the next unit that is half of a pair is a whole escape. -/
theorem head_low {l : List UInt8} {j : Nat} {v : UnitF} {r : List UnitF} (h : (unitsL l j).1 = v :: r) (hv : uLow v = true) : (unitL l j).2 < 0 ∧ 56320 ≤ (unitL l j).1 ∧ (unitL l j).1 < 57344 := by
  by_cases hj : j < l.length
  · rw [unitsL, dif_pos hj] at h
    by_cases h1 : l[j].toNat = 34
    · rw [if_pos h1] at h; cases h
    rw [if_neg h1] at h
    by_cases h2 : l[j].toNat < 32
    · rw [if_pos h2] at h; cases h
    rw [if_neg h2] at h
    by_cases h3 : l[j].toNat ≠ 92
    · rw [if_pos h3] at h; cases h; simp [uLow] at hv
    rw [if_neg h3] at h
    by_cases h4 : l.length ≤ j + 1
    · rw [if_pos h4] at h; cases h
    rw [if_neg h4] at h
    by_cases h5 : 0 ≤ shortI (bt l (j + 1)) 0
    · rw [if_pos h5] at h; cases h; simp [uLow] at hv
    rw [if_neg h5] at h
    by_cases h6 : bt l (j + 1) ≠ 117
    · rw [if_pos h6] at h; cases h
    rw [if_neg h6] at h
    by_cases h7 : 0 ≤ (dgs l 4 (j + 2) 0).2
    · rw [if_pos h7] at h; cases h
    rw [if_neg h7] at h
    have hu : unitL l j = dgs l 4 (j + 2) 0 := by
      unfold unitL
      rw [uRest, if_neg (by rw [bt_lt hj]; omega), if_neg h6]
    rw [hu]
    injection h with h8 h9
    rw [← h8] at hv
    simp [uLow] at hv
    omega
  · rw [unitsL, dif_neg hj] at h; cases h

theorem rd_same (l : List UInt8) : ∀ (n i : Nat) (out : List UInt8), l.length - i ≤ n → finR (ruR (unitsL l i).1 out) (unitsL l i).2 = rdQ l i out := by
  intro n
  induction n with
  | zero =>
    intro i out hn
    rw [unitsL, dif_neg (by omega), rdQ_end (by omega), ruR_nil]
    exact (by refine fin_pos ?_; first | omega | (dsimp only; omega))
  | succ n ih =>
    intro i out hn
    by_cases hj : i < l.length
    · by_cases h1 : l[i].toNat = 34
      · have hU : unitsL l i = ([], if i + 1 < l.length then (i : Int) + 1 else -1) := by rw [unitsL, dif_pos hj, if_pos h1]
        have hQ : rdQ l i out = if i + 1 = l.length then (out, 0, 0) else ([], 3, (i : Int) + 1) := by rw [rdQ, dif_pos hj, if_neg (by omega), if_pos h1]
        rw [hU, hQ, ruR_nil]
        by_cases h2 : i + 1 = l.length
        · rw [if_pos h2, if_neg (by omega)]; rfl
        · rw [if_neg h2, if_pos (by omega)]; exact (by refine fin_pos ?_; first | omega | (dsimp only; omega))
      by_cases h2 : l[i].toNat < 32
      · have hU : unitsL l i = ([], (i : Int)) := by rw [unitsL, dif_pos hj, if_neg h1, if_pos h2]
        have hQ : rdQ l i out = ([], 3, (i : Int)) := by rw [rdQ, dif_pos hj, if_pos h2]
        rw [hU, hQ, ruR_nil]; exact (by refine fin_pos ?_; first | omega | (dsimp only; omega))
      by_cases h3 : l[i].toNat ≠ 92
      · have hU : unitsL l i = (⟨i, 1, true, l[i].toNat⟩ :: (unitsL l (i + 1)).1, (unitsL l (i + 1)).2) := by rw [unitsL, dif_pos hj, if_neg h1, if_neg h2, if_pos h3]
        have hQ : rdQ l i out = rdQ l (i + 1) (out ++ [l[i]]) := by rw [rdQ, dif_pos hj, if_neg h2, if_neg h1, if_pos h3]
        rw [hU, hQ]
        dsimp only
        rw [ruR_byte rfl, ih _ _ (by omega)]; simp
      have h92 : l[i].toNat = 92 := by omega
      have hQ : ∀ t k co fa, escL l i = (t, k, co, fa) → rdQ l i out = if co = 0 ∧ 0 < k then rdQ l (i + k.toNat) (out ++ t) else ([], co, fa) := fun t k co fa e => by
        rw [rdQ, dif_pos hj, if_neg h2, if_neg h1, if_neg h3, e]; rfl
      have hU : unitsL l i = (if l.length ≤ i + 1 then ([], (l.length : Int))
          else if 0 ≤ shortI (bt l (i + 1)) 0 then (⟨i, 2, true, shortI (bt l (i + 1)) 0⟩ :: (unitsL l (i + 2)).1, (unitsL l (i + 2)).2)
          else if bt l (i + 1) ≠ 117 then ([], (i : Int) + 1)
          else if 0 ≤ (dgs l 4 (i + 2) 0).2 then ([], (dgs l 4 (i + 2) 0).2)
          else (⟨i, 6, false, (dgs l 4 (i + 2) 0).1⟩ :: (unitsL l (i + 6)).1, (unitsL l (i + 6)).2)) := by
        conv => lhs; rw [unitsL, dif_pos hj, if_neg h1, if_neg h2, if_neg h3]
      by_cases h4 : l.length ≤ i + 1
      · have he : escL l i = ([], 0, 3, (l.length : Int)) := by rw [escL, if_pos h4]
        rw [hU, if_pos h4, ruR_nil, hQ _ _ _ _ he, if_neg (by simp)]
        exact (by refine fin_pos ?_; first | omega | (dsimp only; omega))
      rw [if_neg h4] at hU
      by_cases h5 : 0 ≤ shortI (bt l (i + 1)) 0
      · obtain ⟨b, hb1, hb2⟩ := shortI_some h5
        have he : escL l i = ([UInt8.ofNat b], 2, 0, 0) := by rw [escL, if_neg h4, hb1]
        rw [hU, if_pos h5]
        dsimp only
        rw [ruR_byte rfl, ih _ _ (by omega), hQ _ _ _ _ he, if_pos (by simp), hb2]; simp
      rw [if_neg h5] at hU
      have he : escL l i = (putL [(runeL l i).1], (runeL l i).2.1, (runeL l i).2.2.1, (runeL l i).2.2.2) := by
        rw [escL, if_neg h4, shortI_none (by omega)]
      have hb : bt l i = 92 := by rw [bt_lt hj]; exact h92
      by_cases h6 : bt l (i + 1) ≠ 117
      · have hu : unitL l i = (0, (i : Int) + 1) := by unfold unitL; rw [uRest, if_neg (by omega), if_pos h6]
        have hr : runeL l i = (0, 0, 3, (i : Int) + 1) := by rw [runeL, hu]; exact if_pos (by show (0 : Int) ≤ (i : Int) + 1; omega)
        rw [hr] at he
        rw [hU, if_pos h6, ruR_nil, hQ _ _ _ _ he, if_neg (by simp)]
        exact (by refine fin_pos ?_; first | omega | (dsimp only; omega))
      rw [if_neg h6] at hU
      have hu : unitL l i = dgs l 4 (i + 2) 0 := by unfold unitL; rw [uRest, if_neg (by omega), if_neg h6]
      obtain ⟨r0, r1, r2⟩ := unitL_rng l i
      rw [← hu] at hU
      obtain ⟨m, b, hmb⟩ : ∃ m b, unitL l i = (m, b) := ⟨_, _, rfl⟩
      rw [hmb] at r0 r1 r2 hU
      dsimp only at r0 r1 r2 hU
      by_cases h7 : 0 ≤ b
      · have hr : runeL l i = (0, 0, 3, b) := by rw [runeL, hmb]; exact if_pos h7
        rw [hr] at he
        rw [hU, if_pos h7, ruR_nil, hQ _ _ _ _ he, if_neg (by simp)]
        exact fin_pos h7
      rw [if_neg h7] at hU
      by_cases h8 : m < 55296 ∨ 57344 ≤ m
      · have hr : runeL l i = (m, 6, 0, 0) := by rw [runeL, hmb]; dsimp only; rw [if_neg h7, if_pos h8]
        rw [hr] at he
        rw [hU, hQ _ _ _ _ he, if_pos (by simp)]
        dsimp only
        rw [ruR_one rfl (by simp [uHigh]; omega) (by simp [uLow]; omega), ih _ _ (by omega)]
        simp
      by_cases h9 : 56320 ≤ m
      · have hr : runeL l i = (0, 0, 6, (i : Int)) := by rw [runeL, hmb]; dsimp only; rw [if_neg h7, if_neg h8, if_pos (.inl h9)]
        rw [hr] at he
        rw [hU, hQ _ _ _ _ he, if_neg (by simp)]
        dsimp only
        rw [ruR_low rfl (by simp [uHigh]; omega) (by simp [uLow]; omega)]
        rfl
      by_cases h10 : (unitL l (i + 6)).2 < 0 ∧ 56320 ≤ (unitL l (i + 6)).1 ∧ (unitL l (i + 6)).1 < 57344
      · obtain ⟨p1, p2, p3⟩ := h10
        have hh := unit_head (l := l) (j := i + 6) (m := (unitL l (i + 6)).1) (b := (unitL l (i + 6)).2) rfl p1
        have hr : runeL l i = (65536 + (m - 55296) * 1024 + (unitL l (i + 6)).1 - 56320, 12, 0, 0) := by
          rw [runeL, hmb]; dsimp only; rw [if_neg h7, if_neg h8, if_neg (by omega)]
        rw [hr] at he
        rw [hU, hh, hQ _ _ _ _ he, if_pos (by simp)]
        dsimp only
        rw [ruR_pair rfl (by simp [uHigh]; omega) (by simp [uLow]; omega), ih _ _ (by omega)]
        simp [Int.mul_comm]
      · have hr : runeL l i = (0, 0, 6, (i : Int)) := by rw [runeL, hmb]; dsimp only; rw [if_neg h7, if_neg h8, if_pos (by omega)]
        rw [hr] at he
        rw [hU, hQ _ _ _ _ he, if_neg (by simp)]
        dsimp only
        rw [ruR_half rfl (by simp [uHigh]; omega) (fun v r2 e => by
          cases hv : uLow v with
          | false => rfl
          | true => exact absurd (head_low e hv) h10)]
        rfl
    · rw [unitsL, dif_neg hj, rdQ_end (by omega), ruR_nil]
      exact (by refine fin_pos ?_; first | omega | (dsimp only; omega))

theorem read_same (l : List UInt8) : readR l = readQ l := by
  unfold readR unitsQ readQ
  by_cases h0 : l.length = 0
  · rw [if_pos h0, if_pos h0, ruR_nil]; rfl
  rw [if_neg h0, if_neg h0]
  by_cases h1 : bt l 0 ≠ 34
  · rw [if_pos h1, if_pos h1, ruR_nil]; rfl
  rw [if_neg h1, if_neg h1]
  exact rd_same l _ 1 [] (Nat.le_refl _)

end Go.Proofs.YtpchipmpgoflfaaDoor
