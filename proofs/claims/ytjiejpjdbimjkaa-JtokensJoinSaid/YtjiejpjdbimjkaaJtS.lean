/- Plain laws on all tokens of two texts with a mark between: no program in sight. -/
import Derived.Test.YtjiejpjdbimjkaaJtR
namespace Go.Proofs.Ytjiejpjdbimjkaa
open Go.RowKit

theorem runL_stop2 {p : UInt8 → Bool} (hp : ∀ c, isMark c = true → p c = false) {a z : List UInt8} (hs : Stop z) (t : Nat) (ht : t ≤ a.length) : runL p (a ++ z) t = runL p a t := by
  fun_induction runL p a t with
  | case1 k hk hpk ih => rw [runL_yes (by simp; omega) (by simpa [List.getElem_append_left, hk] using hpk), ih (by omega)]
  | case2 k hk hpk => rw [runL_no (by simp; omega) (by simpa [List.getElem_append_left, hk] using hpk)]
  | case3 k hk =>
    by_cases hkl : k < (a ++ z).length
    · rw [runL_no hkl (hp _ (stop_get hs (by omega) hkl))]
    · rw [runL_end hkl]
theorem isAt_stop2 {a z : List UInt8} (hs : Stop z) {s : List UInt8} (hm : ∀ c, isMark c = true → s.contains c = false) {t : Nat} (ht : t ≤ a.length) : isAt (a ++ z) t s = isAt a t s := by
  by_cases h : t < a.length
  · rw [isAt_lt h, isAt_lt (by simp; omega), List.getElem_append_left h]
  · rw [isAt_ge h, isAt_stop hs hm (by omega)]
theorem m2 {c : UInt8} (h : isMark c = true) : [45].contains c = false ∧ ([48] : List UInt8).contains c = false := by
  rcases mark_cases h with rfl | rfl | rfl | rfl | rfl | rfl <;> decide
section
variable {a z : List UInt8} (hs : Stop z)
include hs
theorem nk1_stop {t : Nat} (ht : t ≤ a.length) : nk1 (a ++ z) t = nk1 a t := by unfold nk1; rw [isAt_stop2 hs (fun c h => (m2 h).1) ht]
theorem digAt_stop {t : Nat} (ht : t ≤ a.length) : digAt (a ++ z) t = digAt a t := by
  unfold digAt
  by_cases h : t < a.length
  · rw [dif_pos h, dif_pos (by simp; omega), List.getElem_append_left h]
  · rw [dif_neg h]
    by_cases h2 : t < (a ++ z).length
    · rw [dif_pos h2]; exact (mark_not (stop_get hs (by omega) h2)).2.2
    · rw [dif_neg h2]
theorem nInt_stop {t : Nat} (ht : t ≤ a.length) : nInt (a ++ z) t = nInt a t := by
  unfold nInt; rw [isAt_stop2 hs (fun c h => (m2 h).2) ht, runL_stop2 (fun c h => (mark_not h).2.2) hs t ht]
theorem nFrac_stop {t : Nat} (ht : t ≤ a.length) : nFrac (a ++ z) t = nFrac a t := by
  unfold nFrac; rw [isAt_stop2 hs (fun c h => (m1 h).1) ht]
  split
  · rename_i h; have := isAt_at h; rw [runL_stop2 (fun c h => (mark_not h).2.2) hs (t + 1) (by omega)]
  · rfl
theorem nSign_stop {t : Nat} (ht : t ≤ a.length) : nSign (a ++ z) t = nSign a t := by unfold nSign; rw [isAt_stop2 hs (fun c h => (m1 h).2.2) ht]
theorem nExp_stop {t : Nat} (ht : t ≤ a.length) : nExp (a ++ z) t = nExp a t := by
  unfold nExp; rw [isAt_stop2 hs (fun c h => (m1 h).2.1) ht]
  split
  · rename_i h; have := isAt_at h
    have hb := nSign_bd (l := a) (t := t + 1) (by omega)
    rw [nSign_stop hs (by omega), runL_stop2 (fun c h => (mark_not h).2.2) hs _ hb.2]
  · rfl
theorem numM_stop {t : Nat} (ht : t < a.length) : numM (a ++ z) t = numM a t := by
  have h1 := nk1_bd ht
  unfold numM
  rw [nk1_stop hs (by omega), digAt_stop hs h1.2]
  split
  · rename_i hd
    have h2 := nInt_bd hd
    have h3 := nFrac_bd h2.2
    rw [nInt_stop hs h1.2, nFrac_stop hs h2.2, nExp_stop hs h3.2]
  · rfl
theorem wordM_stop {t : Nat} (ht : t ≤ a.length) : wordM (a ++ z) t = wordM a t := by
  have hb := runL_le isLetter a t ht
  unfold wordM
  rw [runL_stop2 (fun c h => (mark_not h).2.1) hs t ht]
  have hc : cutL (a ++ z) t (runL isLetter a t) = cutL a t (runL isLetter a t) := by
    unfold cutL
    rw [List.drop_append_of_le_length ht, List.take_append_of_le_length (by simp; omega)]
  rw [hc]
end
theorem strM_stop {u z : List UInt8} (k : Nat) {r : Int} (h : strM u k = (r, -1)) : strM (u ++ z) k = (r, -1) := by
  have hg : ∀ k (hk : k < u.length) (h2 : k < (u ++ z).length), (u ++ z)[k] = u[k] := fun k hk h2 => List.getElem_append_left hk
  fun_induction strM u k with
  | case1 k hlt h1 =>
    rw [strM_end (by simp; omega) (by rw [hg k hlt]; exact h1)]; exact h
  | case2 k hlt h1 h2 => injection h with _ h; omega
  | case3 k hlt h1 h2 h3 ih =>
    rw [strM_on (by simp; omega) (by rw [hg k hlt]; simpa using h1) (by rw [hg k hlt]; omega) (by rw [hg k hlt]; exact h3)]
    exact ih h
  | case4 k hlt h1 h2 h3 h4 ih =>
    have := isAt_at h4
    rw [strM_esc (by simp; omega) (by rw [hg k hlt]; simpa using h1) (by rw [hg k hlt]; omega) (by rw [hg k hlt]; simpa using h3) (by rw [isAt_lt (by simp; omega), hg _ this, ← isAt_lt this]; exact h4)]
    exact ih h
  | case5 k hlt h1 h2 h3 h4 h5 => injection h with _ h; omega
  | case6 k hlt h1 h2 h3 h4 h5 h6 => injection h with _ h; omega
  | case7 k hlt h1 h2 h3 h4 h5 h6 ih =>
    have hu : isAt u (k + 1) [117] = true := by simpa using h5
    have := isAt_at hu
    have hbr := runL_le isHex (u.take (k + 6)) (k + 1 + 1) (by simp at this ⊢; omega)
    have hbl := hbr.2
    rw [List.length_take] at hbl
    have ht : (u ++ z).take (k + 6) = u.take (k + 6) := by rw [List.take_append_of_le_length (by omega)]
    rw [strM_u (by simp; omega) (by rw [hg k hlt]; simpa using h1) (by rw [hg k hlt]; omega) (by rw [hg k hlt]; simpa using h3) (by rw [isAt_lt (by simp; omega), hg _ this, ← isAt_lt this]; simpa using h4) (by rw [isAt_lt (by simp; omega), hg _ this, ← isAt_lt this]; simpa using h5) (by rw [ht]; omega)]
    exact ih h
  | case8 k hlt => injection h with _ h; omega
/-- A token of a text is one of the text with a mark behind it. -/
theorem nextM_stop {a z : List UInt8} (hs : Stop z) {k e : Nat} (hk : k < a.length) {kd f : Int} (h : nextM a k = ⟨kd, f, e, 0, 0⟩) : nextM (a ++ z) k = ⟨kd, f, e, 0, 0⟩ := by
  rw [nextM_in hk] at h
  rw [nextM_in (by simp; omega), List.getElem_append_left hk]
  unfold nextF at h ⊢
  rw [runL_stop2 (fun c h => (mark_not h).1) hs k (by omega), wordM_stop hs (by omega), numM_stop hs hk]
  split at h
  · rename_i h1; rw [if_pos h1]; exact h
  rename_i n1; rw [if_neg n1]
  split at h
  · rename_i h1; rw [if_pos h1]; exact h
  rename_i n2; rw [if_neg n2]
  split at h
  · rename_i h1; rw [if_pos h1]; exact h
  rename_i n3; rw [if_neg n3]
  split at h
  · rename_i h1; rw [if_pos h1]; exact h
  rename_i n4; rw [if_neg n4]
  split at h
  · rename_i h1; rw [if_pos h1]
    obtain ⟨e1, _, _⟩ := tokEnd_ok h
    rw [strM_stop _ e1, ← e1]; exact h
  · unfold tokErr at h; injection h with _ _ _ h; omega

def shF (n : Nat) (f : Int × Int) : Int × Int := if f.1 = 0 then (0, 0) else (f.1, f.2 + n)
theorem readM_app (x l : List UInt8) (j : Nat) (hj : j ≤ l.length) : readM (x ++ l) (x.length + j) = ((readM l j).1.map (TokF.sh x.length), shF x.length (readM l j).2) := by
  by_cases hlt : j < l.length
  · have hn := nextM_app x l j hlt
    rcases (nextM_at hlt).cases with ⟨kd, e, h0, h4, ht, he, hel⟩ | ⟨e, ht, he, hel⟩
    · rw [ht] at hn
      have hn' : nextM (x ++ l) ((x.length + j : Nat) : Int) = ⟨kd, ((x.length + j : Nat) : Int), ((x.length + e : Nat) : Int), 0, 0⟩ := by
        rw [hn]; simp [TokF.sh, Int.add_comm]
      rw [readM_tok (by simp; omega) (by omega) hn', readM_tok hlt he ht, readM_app x l e hel]
      simp [TokF.sh, Int.add_comm]
    · rw [ht] at hn
      have hn' : nextM (x ++ l) ((x.length + j : Nat) : Int) = ⟨0, 0, 0, 3, ((x.length + e : Nat) : Int)⟩ := by
        rw [hn]; simp [TokF.sh, Int.add_comm]
      rw [readM_err (by simp; omega) hn', readM_err hlt ht]
      simp [shF, Int.add_comm]
  · rw [readM_end (by simp; omega), readM_end hlt]; simp [shF]
termination_by l.length - j

theorem mark_tok (a b : List UInt8) (c : UInt8) (hc : isMark c = true) : nextM (a ++ c :: b) (a.length : Nat) = ⟨1, (a.length : Nat), ((a.length + 1 : Nat) : Int), 0, 0⟩ := by
  rw [nextM_in (by simp)]
  have hg : (a ++ c :: b)[a.length]'(by simp) = c := by simp
  rw [hg, nextF, if_neg (by simp [(mark_not hc).1]), if_pos ⟨by omega, hc⟩, tokEnd_mk]
  simp
/-- The tokens of two texts, a mark between. -/
theorem readM_join (a b : List UInt8) (c : UInt8) (hc : isMark c = true) (k : Nat) (hk : k ≤ a.length) (hf : (readM a k).2 = (0, 0)) :
    readM (a ++ c :: b) k = ((readM a k).1 ++ ⟨1, (a.length : Nat), ((a.length + 1 : Nat) : Int), 0, 0⟩ :: (readM b 0).1.map (TokF.sh (a.length + 1)), shF (a.length + 1) (readM b 0).2) := by
  by_cases hlt : k < a.length
  · rcases (nextM_at hlt).cases with ⟨kd, e, h0, h4, ht, he, hel⟩ | ⟨e, ht, he, hel⟩
    · have hn := nextM_stop (z := c :: b) (fun x hx => by simp at hx; subst hx; exact hc) hlt ht
      rw [readM_tok hlt he ht] at hf ⊢
      rw [readM_tok (by simp; omega) he hn, readM_join a b c hc e hel hf]
      simp
    · rw [readM_err hlt ht] at hf; simp at hf
  · have hka : k = a.length := by omega
    subst hka
    rw [readM_tok (by simp) (by omega) (mark_tok a b c hc), readM_end (l := a) hlt]
    have h2 := readM_app (a ++ [c]) b 0 (by omega)
    simp only [List.append_assoc, List.cons_append, List.nil_append, List.length_append, List.length_cons, List.length_nil, Nat.add_zero, Nat.zero_add] at h2
    rw [h2]
    simp
termination_by a.length - k

end Go.Proofs.Ytjiejpjdbimjkaa
