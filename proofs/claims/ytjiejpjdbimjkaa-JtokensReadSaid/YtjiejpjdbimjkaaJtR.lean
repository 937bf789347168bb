/- Plain laws on all tokens of a text: no program in sight. -/
import Derived.Test.YtjiejpjdbimjkaaJtQ
namespace Go.Proofs.Ytjiejpjdbimjkaa
open Go.RowKit

theorem ex1 : readM [91, 49, 44, 32, 34, 97, 34, 93] 0 = ([⟨1, 0, 1, 0, 0⟩, ⟨3, 1, 2, 0, 0⟩, ⟨1, 2, 3, 0, 0⟩, ⟨0, 3, 4, 0, 0⟩, ⟨4, 4, 7, 0, 0⟩, ⟨1, 7, 8, 0, 0⟩], 0, 0) := by
  simp [readM, nextM, nextF, tokEnd, tokOk, runL, strM, numM, nk1, nInt, nFrac, nExp, isAt, digAt, isSpace, isMark, isLetter, isNum, isDigit, isQuote]
theorem ex2 : readM [45] 0 = ([], 3, 1) := by
  simp [readM, nextM, nextF, tokEnd, tokErr, numM, nk1, isAt, digAt, isSpace, isMark, isLetter, isNum, isDigit]
theorem ex3 : readM [48, 49] 0 = ([⟨3, 0, 1, 0, 0⟩, ⟨3, 1, 2, 0, 0⟩], 0, 0) := by
  simp [readM, nextM, nextF, tokEnd, tokOk, runL, numM, nk1, nInt, nFrac, nExp, isAt, digAt, isSpace, isMark, isLetter, isNum, isDigit]
theorem ex4 : readM [34, 92, 120, 34] 0 = ([], 3, 2) := by
  simp [readM, nextM, nextF, tokEnd, tokErr, strM, isAt, isSpace, isMark, isLetter, isNum, isDigit, isQuote]
theorem ex5 : readM [49, 46, 101] 0 = ([⟨3, 0, 1, 0, 0⟩], 3, 1) := by
  simp [readM, nextM, nextF, tokEnd, tokOk, tokErr, runL, numM, nk1, nInt, nFrac, nExp, isAt, digAt, isSpace, isMark, isLetter, isNum, isDigit, isQuote]

/-- What is true of the tokens from the place k on, pk being the kind of the token ahead of it. -/
def Cov (l : List UInt8) : Nat → Int → List TokF → Int × Int → Prop
  | k, _, [], f => (f = (0, 0) ∧ k = l.length) ∨ (f.1 = 3 ∧ ∃ e : Nat, f.2 = e ∧ k ≤ e ∧ e ≤ l.length)
  | k, pk, t :: ts, f => ∃ (kd : Int) (e : Nat), t = ⟨kd, k, e, 0, 0⟩ ∧ 0 ≤ kd ∧ kd ≤ 4 ∧ k < e ∧ e ≤ l.length ∧ (kd = pk → kd ≠ 0 ∧ kd ≠ 2) ∧ readM (cutL l k e) 0 = ([⟨kd, 0, ((e - k : Nat) : Int), 0, 0⟩], 0, 0) ∧ Cov l e kd ts f

theorem runL_stop (p : UInt8 → Bool) (l : List UInt8) (k : Nat) (h : runL p l k < l.length) (hk : k ≤ l.length) : p (l[runL p l k]) = false := by
  fun_induction runL p l k with
  | case1 k hk hp ih => exact ih h (by omega)
  | case2 k hk hp => simpa using hp
  | case3 k hk => omega

/-- Behind a space, or a word, stands no such byte. -/
theorem kind_stop {l : List UInt8} {k e : Nat} {kd : Int} (hk : k < l.length) (h : nextM l k = ⟨kd, k, e, 0, 0⟩) (he : e < l.length) :
    (kd = 0 → isSpace l[e] = false) ∧ (kd = 2 → isLetter l[e] = false) := by
  rw [nextM_in hk] at h
  unfold nextF at h
  split at h
  · obtain ⟨e1, e2, _⟩ := tokEnd_ok h
    injection e1 with e1
    have e1' : runL isSpace l k = e := by omega
    subst e1'
    exact ⟨fun _ => runL_stop _ _ _ he (by omega), fun h2 => by omega⟩
  split at h
  · obtain ⟨_, e2, _⟩ := tokEnd_ok h; exact ⟨fun h2 => by omega, fun h2 => by omega⟩
  split at h
  · obtain ⟨e1, e2, _⟩ := tokEnd_ok h
    refine ⟨fun h2 => by omega, fun _ => ?_⟩
    unfold wordM at e1
    split at e1
    · injection e1 with e1
      have e1' : runL isLetter l k = e := by omega
      subst e1'
      exact runL_stop _ _ _ he (by omega)
    · injection e1 with _ e1; omega
  split at h
  · obtain ⟨_, e2, _⟩ := tokEnd_ok h; exact ⟨fun h2 => by omega, fun h2 => by omega⟩
  split at h
  · obtain ⟨_, e2, _⟩ := tokEnd_ok h; exact ⟨fun h2 => by omega, fun h2 => by omega⟩
  · unfold tokErr at h; injection h with _ _ _ h; omega
theorem kind_of {l : List UInt8} {k e : Nat} {kd : Int} (hk : k < l.length) (h : nextM l k = ⟨kd, k, e, 0, 0⟩) : (kd = 0 → isSpace l[k] = true) ∧ (kd = 2 → isLetter l[k] = true) := by
  rw [nextM_in hk] at h
  unfold nextF at h
  split at h
  · rename_i h1; obtain ⟨_, e2, _⟩ := tokEnd_ok h; exact ⟨fun _ => h1.2, fun h2 => by omega⟩
  split at h
  · obtain ⟨_, e2, _⟩ := tokEnd_ok h; exact ⟨fun h2 => by omega, fun h2 => by omega⟩
  split at h
  · rename_i h1; obtain ⟨_, e2, _⟩ := tokEnd_ok h; exact ⟨fun h2 => by omega, fun _ => h1.2⟩
  split at h
  · obtain ⟨_, e2, _⟩ := tokEnd_ok h; exact ⟨fun h2 => by omega, fun h2 => by omega⟩
  split at h
  · obtain ⟨_, e2, _⟩ := tokEnd_ok h; exact ⟨fun h2 => by omega, fun h2 => by omega⟩
  · unfold tokErr at h; injection h with _ _ _ h; omega

/-- A token's bytes, alone or with a mark behind them. -/
theorem next_cut {l : List UInt8} {k e : Nat} {kd : Int} (hk : k < l.length) (he : k < e) (hel : e ≤ l.length) (h : nextM l k = ⟨kd, k, e, 0, 0⟩) {v : List UInt8} (hs : Stop v) :
    nextM (cutL l k e ++ v) ((0 : Nat) : Int) = ⟨kd, 0, ((e - k : Nat) : Int), 0, 0⟩ := by
  have hl : l = l.take k ++ (cutL l k e ++ l.drop e) := by
    have h1 : cutL l k e ++ l.drop e = l.drop k := by
      unfold cutL
      have := List.take_append_drop (e - k) (l.drop k)
      rw [List.drop_drop, show k + (e - k) = e from by omega] at this
      exact this
    rw [h1, List.take_append_drop]
  have hu : (cutL l k e).length = e - k := by simp [cutL]; omega
  have ht : (l.take k).length = k := by simp; omega
  have ha := nextM_app (l.take k) (cutL l k e ++ l.drop e) 0 (by simp [hu]; omega)
  rw [← hl, ht, Nat.add_zero, h] at ha
  have hc : nextM (cutL l k e ++ l.drop e) ((0 : Nat) : Int) = ⟨kd, 0, (((cutL l k e).length : Nat) : Int), 0, 0⟩ := by
    rw [hu]
    rcases (nextM_at (l := cutL l k e ++ l.drop e) (k := 0) (by simp [hu]; omega)).cases with ⟨kd', e', _, _, ht', _, _⟩ | ⟨e', ht', _, _⟩
    · rw [ht'] at ha ⊢
      simp [TokF.sh] at ha
      obtain ⟨h1, h2⟩ := ha
      have h3 : (e' : Int) = ((e - k : Nat) : Int) := by omega
      rw [h1, h3]; rfl
    · rw [ht'] at ha; simp [TokF.sh] at ha
  have := nextM_loc (u := cutL l k e) hs (by omega) hc
  rw [this, hu]

theorem Stop.nil : Stop [] := fun c h => by simp at h
theorem readM_one {l : List UInt8} {k e : Nat} {kd : Int} (hk : k < l.length) (he : k < e) (hel : e ≤ l.length) (h : nextM l k = ⟨kd, k, e, 0, 0⟩) : readM (cutL l k e) 0 = ([⟨kd, 0, ((e - k : Nat) : Int), 0, 0⟩], 0, 0) := by
  have h1 := next_cut hk he hel h Stop.nil
  rw [List.append_nil] at h1
  have hu : (cutL l k e).length = e - k := by simp [cutL]; omega
  rw [readM_tok (e := e - k) (by omega) (by omega) h1, readM_end (by omega)]
  simp

theorem cov_all (l : List UInt8) (k : Nat) (hk : k ≤ l.length) (pk : Int) (hp : ∀ h : k < l.length, (pk = 0 → isSpace l[k] = false) ∧ (pk = 2 → isLetter l[k] = false)) : Cov l k pk (readM l k).1 (readM l k).2 := by
  by_cases hlt : k < l.length
  · rcases (nextM_at hlt).cases with ⟨kd, e, h0, h4, ht, he, hel⟩ | ⟨e, ht, he, hel⟩
    · rw [readM_tok hlt he ht]
      refine ⟨kd, e, rfl, h0, h4, he, hel, fun hkp => ?_, readM_one hlt he hel ht, cov_all l e hel kd fun h => kind_stop hlt ht h⟩
      have hq := kind_of hlt ht
      have hp' := hp hlt
      refine ⟨fun h => ?_, fun h => ?_⟩
      · have := hq.1 h; rw [hp'.1 (by omega)] at this; cases this
      · have := hq.2 h; rw [hp'.2 (by omega)] at this; cases this
    · rw [readM_err hlt ht]
      exact .inr ⟨rfl, e, rfl, he, hel⟩
  · rw [readM_end hlt]
    exact .inl ⟨rfl, by omega⟩
termination_by l.length - k

end Go.Proofs.Ytjiejpjdbimjkaa
