/- Plain laws on the tokens that package jtokens tells: no program in sight. -/
import Derived.Test.YtjiejpjdbimjkaaJtD
namespace Go.Proofs.Ytjiejpjdbimjkaa
open Go.RowKit

theorem runL_gt {p : UInt8 → Bool} {l : List UInt8} {k : Nat} (h : k < l.length) (hp : p l[k] = true) : k < runL p l k := by
  rw [runL_yes h hp]; have := runL_le p l (k + 1) (by omega); omega

theorem wordM_bd {l : List UInt8} {k : Nat} (hk : k < l.length) (hc : isLetter l[k] = true) :
    (wordM l k).2 = -1 ∧ (∃ t : Nat, (wordM l k).1 = t ∧ k < t ∧ t ≤ l.length) ∨ (∃ t : Nat, (wordM l k).2 = t ∧ k ≤ t ∧ t ≤ l.length) := by
  unfold wordM
  split
  · exact .inl ⟨rfl, _, rfl, runL_gt hk hc, (runL_le _ _ _ (by omega)).2⟩
  · exact .inr ⟨k, rfl, by omega, by omega⟩

theorem nk1_bd {l : List UInt8} {k : Nat} (hk : k < l.length) : k ≤ nk1 l k ∧ nk1 l k ≤ l.length := by unfold nk1; split <;> omega
theorem digAt_lt {l : List UInt8} {k : Nat} (h : digAt l k = true) : ∃ h : k < l.length, isDigit l[k] = true := by
  unfold digAt at h; split at h
  · exact ⟨_, h⟩
  · cases h
theorem nInt_bd {l : List UInt8} {k : Nat} (h : digAt l k = true) : k < nInt l k ∧ nInt l k ≤ l.length := by
  obtain ⟨hk, hd⟩ := digAt_lt h
  unfold nInt; split
  · omega
  · exact ⟨runL_gt hk hd, (runL_le _ _ _ (by omega)).2⟩
theorem nFrac_bd {l : List UInt8} {t : Nat} (h : t ≤ l.length) : t ≤ nFrac l t ∧ nFrac l t ≤ l.length := by
  unfold nFrac; split
  · rename_i h1
    have := isAt_at h1
    split
    · exact ⟨by omega, (runL_le _ _ _ (by omega)).2⟩
    · omega
  · omega
theorem nSign_bd {l : List UInt8} {t : Nat} (h : t ≤ l.length) : t ≤ nSign l t ∧ nSign l t ≤ l.length := by
  unfold nSign; split
  · rename_i h1
    have := isAt_at h1
    omega
  · omega
theorem nExp_bd {l : List UInt8} {t : Nat} (h : t ≤ l.length) : t ≤ nExp l t ∧ nExp l t ≤ l.length := by
  unfold nExp; split
  · rename_i h1
    have := isAt_at h1
    have hs := nSign_bd (l := l) (t := t + 1) (by omega)
    split
    · exact ⟨by omega, (runL_le _ _ _ (by omega)).2⟩
    · omega
  · omega
theorem numM_bd {l : List UInt8} {k : Nat} (hk : k < l.length) :
    (numM l k).2 = -1 ∧ (∃ t : Nat, (numM l k).1 = t ∧ k < t ∧ t ≤ l.length) ∨ (∃ t : Nat, (numM l k).2 = t ∧ k ≤ t ∧ t ≤ l.length) := by
  have h1 := nk1_bd hk
  unfold numM; split
  · rename_i hd
    have h2 := nInt_bd hd
    have h3 := nFrac_bd h2.2
    have h4 := nExp_bd h3.2
    exact .inl ⟨rfl, _, rfl, by omega, h4.2⟩
  · exact .inr ⟨_, rfl, h1.1, h1.2⟩
theorem strM_bd (l : List UInt8) (k : Nat) (hk : k ≤ l.length) :
    (strM l k).2 = -1 ∧ (∃ t : Nat, (strM l k).1 = t ∧ k < t ∧ t ≤ l.length) ∨ (∃ t : Nat, (strM l k).2 = t ∧ k ≤ t ∧ t ≤ l.length) := by
  fun_induction strM l k with
  | case1 k hlt h1 => exact .inl ⟨rfl, k + 1, by simp, by omega, by omega⟩
  | case2 k hlt h1 h2 => exact .inr ⟨k, rfl, by omega, by omega⟩
  | case3 k hlt h1 h2 h3 ih =>
    rcases ih (by omega) with ⟨e, t, e2, a, b⟩ | ⟨t, e2, a, b⟩
    · exact .inl ⟨e, t, e2, by omega, b⟩
    · exact .inr ⟨t, e2, by omega, b⟩
  | case4 k hlt h1 h2 h3 h4 ih =>
    have := isAt_at h4
    rcases ih (by omega) with ⟨e, t, e2, a, b⟩ | ⟨t, e2, a, b⟩
    · exact .inl ⟨e, t, e2, by omega, b⟩
    · exact .inr ⟨t, e2, by omega, b⟩
  | case5 k hlt h1 h2 h3 h4 h5 => exact .inr ⟨k + 1, by simp, by omega, by omega⟩
  | case6 k hlt h1 h2 h3 h4 h5 h6 =>
    have hu : isAt l (k + 1) [117] = true := by simpa using h5
    have := isAt_at hu
    have hb := runL_le isHex (l.take (k + 6)) (k + 1 + 1) (by simp; omega)
    exact .inr ⟨_, rfl, by omega, by have := hb.2; simp at this; omega⟩
  | case7 k hlt h1 h2 h3 h4 h5 h6 ih =>
    have hu : isAt l (k + 1) [117] = true := by simpa using h5
    have := isAt_at hu
    have hb := runL_le isHex (l.take (k + 6)) (k + 1 + 1) (by simp; omega)
    have hl := hb.2
    simp at hl
    rcases ih (by omega) with ⟨e, t, e2, a, b⟩ | ⟨t, e2, a, b⟩
    · exact .inl ⟨e, t, e2, by omega, b⟩
    · exact .inr ⟨t, e2, by omega, b⟩
  | case8 k hlt => exact .inr ⟨l.length, rfl, by omega, by omega⟩

/-- What Next tells at a place: a token from there on to a place further on, or a fault from there on. -/
def TokAt (l : List UInt8) (k : Nat) (t : TokF) : Prop :=
  (0 ≤ t.kind ∧ t.kind ≤ 4 ∧ t.code = 0 ∧ t.at_ = 0 ∧ t.from_ = k ∧ ∃ e : Nat, t.to_ = e ∧ k < e ∧ e ≤ l.length) ∨ (t.kind = 0 ∧ t.from_ = 0 ∧ t.to_ = 0 ∧ t.code = 3 ∧ ∃ e : Nat, t.at_ = e ∧ k ≤ e ∧ e ≤ l.length)
theorem tokEnd_at {l : List UInt8} {k : Nat} {kd : Int} {r : Int × Int} (h0 : 0 ≤ kd) (h4 : kd ≤ 4)
    (h : r.2 = -1 ∧ (∃ t : Nat, r.1 = t ∧ k < t ∧ t ≤ l.length) ∨ (∃ t : Nat, r.2 = t ∧ k ≤ t ∧ t ≤ l.length)) : TokAt l k (tokEnd kd k r) := by
  rcases h with ⟨e, t, e2, a, b⟩ | ⟨t, e2, a, b⟩
  · rw [tokEnd, if_pos e]; exact .inl ⟨h0, h4, rfl, rfl, rfl, t, e2, a, b⟩
  · rw [tokEnd, if_neg (by omega)]; exact .inr ⟨rfl, rfl, rfl, rfl, t, e2, a, b⟩
theorem nextM_at {l : List UInt8} {k : Nat} (hk : k < l.length) : TokAt l k (nextM l k) := by
  have e : nextM l (k : Int) = nextF l k l[k] 0 := by rw [nextM, dif_pos ⟨by omega, by simpa using hk⟩]; simp
  rw [e]; unfold nextF
  split
  · rename_i h; exact tokEnd_at (by omega) (by omega) (.inl ⟨rfl, _, rfl, runL_gt hk h.2, (runL_le _ _ _ (by omega)).2⟩)
  split
  · exact tokEnd_at (by omega) (by omega) (.inl ⟨rfl, k + 1, by simp, by omega, by omega⟩)
  split
  · rename_i h; exact tokEnd_at (by omega) (by omega) (wordM_bd hk h.2)
  split
  · exact tokEnd_at (by omega) (by omega) (numM_bd hk)
  split
  · refine tokEnd_at (by omega) (by omega) ?_
    rcases strM_bd l (k + 1) (by omega) with ⟨e, t, e2, a, b⟩ | ⟨t, e2, a, b⟩
    · exact .inl ⟨e, t, e2, by omega, b⟩
    · exact .inr ⟨t, e2, by omega, b⟩
  · exact .inr ⟨rfl, rfl, rfl, rfl, k, rfl, by omega, by omega⟩

theorem TokAt.cases {l : List UInt8} {k : Nat} {t : TokF} (h : TokAt l k t) : (∃ kd : Int, ∃ e : Nat, 0 ≤ kd ∧ kd ≤ 4 ∧ t = ⟨kd, k, e, 0, 0⟩ ∧ k < e ∧ e ≤ l.length) ∨ (∃ e : Nat, t = ⟨0, 0, 0, 3, e⟩ ∧ k ≤ e ∧ e ≤ l.length) := by
  rcases h with ⟨h0, h1, h2, h3, h4, e, h5, h6, h7⟩ | ⟨h0, h1, h2, h3, e, h5, h6, h7⟩
  · exact .inl ⟨t.kind, e, h0, h1, by cases t; simp_all, h6, h7⟩
  · exact .inr ⟨e, by cases t; simp_all, h6, h7⟩

/-- All tokens from a place on, and what ends them. -/
def readM (l : List UInt8) (k : Nat) : List TokF × Int × Int :=
  if k < l.length then
    if (nextM l k).code = 0 ∧ k < (nextM l k).to_.toNat then ((nextM l k) :: (readM l (nextM l k).to_.toNat).1, (readM l (nextM l k).to_.toNat).2)
    else ([], (nextM l k).code, (nextM l k).at_)
  else ([], 0, 0)
termination_by l.length - k

theorem readM_tok {l : List UInt8} {k e : Nat} {kd : Int} (hk : k < l.length) (he : k < e) (h : nextM l k = ⟨kd, k, e, 0, 0⟩) : readM l k = (⟨kd, k, e, 0, 0⟩ :: (readM l e).1, (readM l e).2) := by
  rw [readM, if_pos hk, h, if_pos ⟨rfl, by simpa using he⟩]; simp
theorem readM_err {l : List UInt8} {k e : Nat} (hk : k < l.length) (h : nextM l k = ⟨0, 0, 0, 3, e⟩) : readM l k = ([], 3, (e : Int)) := by
  rw [readM, if_pos hk, h, if_neg (by simp)]
theorem readM_end {l : List UInt8} {k : Nat} (hk : ¬ k < l.length) : readM l k = ([], 0, 0) := by
  rw [readM, if_neg hk]

end Go.Proofs.Ytjiejpjdbimjkaa
