/- Plain laws on the tokens that package jtokens tells: what is ahead and what is behind makes no difference: no program in sight. -/
import Derived.Test.YtjiejpjdbimjkaaJtP
namespace Go.Proofs.Ytjiejpjdbimjkaa
open Go.RowKit

/-! ### what is ahead -/
theorem runL_app (p : UInt8 → Bool) (x l : List UInt8) (j : Nat) : runL p (x ++ l) (x.length + j) = x.length + runL p l j := by
  fun_induction runL p l j with
  | case1 k hk hp ih =>
    rw [runL_yes (by simp; omega) (by simpa using hp), Nat.add_assoc, ih]
  | case2 k hk hp => rw [runL_no (by simp; omega) (by simpa using hp)]
  | case3 k hk => rw [runL_end (by simp; omega)]
theorem isAt_app (x l : List UInt8) (j : Nat) (s : List UInt8) : isAt (x ++ l) (x.length + j) s = isAt l j s := by
  unfold isAt
  by_cases h : j < l.length
  · rw [dif_pos h, dif_pos (by simp; omega)]; simp
  · rw [dif_neg h, dif_neg (by simp; omega)]
theorem digAt_app (x l : List UInt8) (j : Nat) : digAt (x ++ l) (x.length + j) = digAt l j := by
  unfold digAt
  by_cases h : j < l.length
  · rw [dif_pos h, dif_pos (by simp; omega)]; simp
  · rw [dif_neg h, dif_neg (by simp; omega)]
theorem cutL_app (x l : List UInt8) (j e : Nat) : cutL (x ++ l) (x.length + j) (x.length + e) = cutL l j e := by
  unfold cutL
  rw [List.drop_append, List.drop_eq_nil_of_le (by omega)]
  simp; congr 1; omega
/-- the same result, so many places later -/
def shP (n : Nat) (r : Int × Int) : Int × Int := if r.2 = -1 then (r.1 + n, -1) else (r.1, r.2 + n)
theorem wordM_app (x l : List UInt8) (j : Nat) : wordM (x ++ l) (x.length + j) = shP x.length (wordM l j) := by
  unfold wordM
  rw [runL_app, cutL_app]
  split
  · simp [shP]; omega
  · simp [shP]; omega
theorem nk1_app (x l : List UInt8) (j : Nat) : nk1 (x ++ l) (x.length + j) = x.length + nk1 l j := by
  unfold nk1; rw [isAt_app]; split <;> omega
theorem nInt_app (x l : List UInt8) (j : Nat) : nInt (x ++ l) (x.length + j) = x.length + nInt l j := by
  unfold nInt; rw [isAt_app, runL_app]; split <;> omega
theorem nFrac_app (x l : List UInt8) (j : Nat) : nFrac (x ++ l) (x.length + j) = x.length + nFrac l j := by
  unfold nFrac; rw [isAt_app, Nat.add_assoc, runL_app]; split <;> (try split) <;> (try split) <;> omega
theorem nSign_app (x l : List UInt8) (j : Nat) : nSign (x ++ l) (x.length + j) = x.length + nSign l j := by
  unfold nSign; rw [isAt_app]; split <;> omega
theorem nExp_app (x l : List UInt8) (j : Nat) : nExp (x ++ l) (x.length + j) = x.length + nExp l j := by
  unfold nExp; rw [isAt_app, Nat.add_assoc, nSign_app, runL_app]; split <;> (try split) <;> (try split) <;> omega
theorem numM_app (x l : List UInt8) (j : Nat) : numM (x ++ l) (x.length + j) = shP x.length (numM l j) := by
  unfold numM
  rw [nk1_app, digAt_app, nInt_app, nFrac_app, nExp_app]
  split
  · simp [shP]; omega
  · simp [shP]; omega
theorem strM_app (x l : List UInt8) (j : Nat) : strM (x ++ l) (x.length + j) = shP x.length (strM l j) := by
  have ht : ∀ k, (x ++ l).take (x.length + k + 6) = x ++ l.take (k + 6) := fun k => by
    rw [Nat.add_assoc, List.take_length_add_append]
  have hr : ∀ k, runL isHex (x ++ l.take (k + 6)) (x.length + k + 1 + 1) = x.length + runL isHex (l.take (k + 6)) (k + 1 + 1) := fun k => by
    rw [show x.length + k + 1 + 1 = x.length + (k + 1 + 1) from by omega, runL_app]
  have hg : ∀ k (h : k < l.length), (x ++ l)[x.length + k]'(by simp; omega) = l[k] := fun k h => by simp
  fun_induction strM l j with
  | case1 k hlt h1 => rw [strM_end (by simp; omega) (by rw [hg k hlt]; exact h1)]; simp [shP]; try omega
  | case2 k hlt h1 h2 => rw [strM_low (by simp; omega) (by rw [hg k hlt]; simpa using h1) (by rw [hg k hlt]; exact h2)]; simp [shP]; try omega
  | case3 k hlt h1 h2 h3 ih =>
    rw [strM_on (by simp; omega) (by rw [hg k hlt]; simpa using h1) (by rw [hg k hlt]; omega) (by rw [hg k hlt]; exact h3), Nat.add_assoc, ih]
  | case4 k hlt h1 h2 h3 h4 ih =>
    rw [strM_esc (by simp; omega) (by rw [hg k hlt]; simpa using h1) (by rw [hg k hlt]; omega) (by rw [hg k hlt]; simpa using h3) (by rw [Nat.add_assoc, isAt_app]; exact h4), Nat.add_assoc, ih]
  | case5 k hlt h1 h2 h3 h4 h5 =>
    rw [strM_nou (by simp; omega) (by rw [hg k hlt]; simpa using h1) (by rw [hg k hlt]; omega) (by rw [hg k hlt]; simpa using h3) (by rw [Nat.add_assoc, isAt_app]; simpa using h4) (by rw [Nat.add_assoc, isAt_app]; exact h5)]
    rw [shP, if_neg (by simp; try omega)]; simp; try omega
  | case6 k hlt h1 h2 h3 h4 h5 h6 =>
    rw [strM_hex (by simp; omega) (by rw [hg k hlt]; simpa using h1) (by rw [hg k hlt]; omega) (by rw [hg k hlt]; simpa using h3) (by rw [Nat.add_assoc, isAt_app]; simpa using h4) (by rw [Nat.add_assoc, isAt_app]; simpa using h5) (by rw [ht, hr]; omega)]
    rw [ht, hr, shP, if_neg (by simp; try omega)]; simp; try omega
  | case7 k hlt h1 h2 h3 h4 h5 h6 ih =>
    rw [strM_u (by simp; omega) (by rw [hg k hlt]; simpa using h1) (by rw [hg k hlt]; omega) (by rw [hg k hlt]; simpa using h3) (by rw [Nat.add_assoc, isAt_app]; simpa using h4) (by rw [Nat.add_assoc, isAt_app]; simpa using h5) (by rw [ht, hr]; omega), Nat.add_assoc, ih]
  | case8 k hlt => rw [strM_out (by simp; omega)]; simp [shP]; try omega
def TokF.sh (n : Nat) (t : TokF) : TokF := if t.code = 0 then ⟨t.kind, t.from_ + n, t.to_ + n, 0, 0⟩ else ⟨t.kind, t.from_, t.to_, t.code, t.at_ + n⟩
theorem tokEnd_sh (kd : Int) (k n : Nat) (r : Int × Int) (h0 : r.2 = -1 ∨ 0 ≤ r.2) : tokEnd kd (n + k) (shP n r) = (tokEnd kd k r).sh n := by
  unfold tokEnd shP
  split
  · simp [TokF.sh, tokOk]; omega
  · rename_i h
    rw [if_neg (by simp; omega)]
    simp [TokF.sh, tokErr]
theorem bd_sign {l : List UInt8} {k : Nat} {r : Int × Int} (h : r.2 = -1 ∧ (∃ t : Nat, r.1 = t ∧ k < t ∧ t ≤ l.length) ∨ (∃ t : Nat, r.2 = t ∧ k ≤ t ∧ t ≤ l.length)) : r.2 = -1 ∨ 0 ≤ r.2 := by
  rcases h with ⟨e, _⟩ | ⟨t, e, _⟩ <;> omega
theorem nextM_in {l : List UInt8} {k : Nat} (hk : k < l.length) : nextM l k = nextF l k l[k] 0 := by
  rw [nextM, dif_pos ⟨by omega, by simpa using hk⟩]; simp
theorem nextM_app (x l : List UInt8) (j : Nat) (hj : j < l.length) : nextM (x ++ l) ((x.length + j : Nat) : Int) = (nextM l j).sh x.length := by
  rw [nextM_in (by simp; omega), nextM_in hj]
  have hg : (x ++ l)[x.length + j]'(by simp; omega) = l[j] := by simp
  rw [hg]
  unfold nextF
  split
  · rename_i h
    rw [runL_app, ← tokEnd_sh _ _ _ _ (.inl rfl)]; simp [shP, Int.add_comm]
  split
  · rw [← tokEnd_sh _ _ _ _ (.inl rfl)]; simp [shP]; congr 2; omega
  split
  · rename_i h; rw [wordM_app, tokEnd_sh _ _ _ _ (bd_sign (wordM_bd hj h.2))]
  split
  · rw [numM_app, tokEnd_sh _ _ _ _ (bd_sign (numM_bd hj))]
  split
  · rw [Nat.add_assoc, strM_app, tokEnd_sh _ _ _ _ (bd_sign (strM_bd l (j + 1) (by omega)))]
  · simp [TokF.sh, tokErr, Int.add_comm]

/-! ### what is behind -/
def Stop (v : List UInt8) : Prop := ∀ c, v.head? = some c → isMark c = true
theorem mark_cases {c : UInt8} (h : isMark c = true) : c = 123 ∨ c = 125 ∨ c = 91 ∨ c = 93 ∨ c = 44 ∨ c = 58 := by
  simpa [isMark] using h
theorem mark_not {c : UInt8} (h : isMark c = true) : isSpace c = false ∧ isLetter c = false ∧ isDigit c = false := by
  rcases mark_cases h with rfl | rfl | rfl | rfl | rfl | rfl <;> decide
theorem stop_get {u v : List UInt8} (hs : Stop v) {k : Nat} (hk : u.length = k) (h : k < (u ++ v).length) : isMark (u ++ v)[k] = true := by
  subst hk
  cases v with
  | nil => simp at h
  | cons c r => exact hs _ (by simp)
theorem runL_loc {p : UInt8 → Bool} (hp : ∀ c, isMark c = true → p c = false) {u v v' : List UInt8} (hs : Stop v') (t : Nat) (ht : t ≤ u.length) (h : runL p (u ++ v) t ≤ u.length) :
    runL p (u ++ v') t = runL p (u ++ v) t := by
  fun_induction runL p (u ++ v) t with
  | case1 k hk hpk ih =>
    have hb := runL_le p (u ++ v) (k + 1) (by omega)
    have hku : k < u.length := by omega
    rw [runL_yes (by simp; omega) (by simpa [List.getElem_append_left, hku] using hpk), ih (by omega) h]
  | case2 k hk hpk =>
    by_cases hku : k < u.length
    · rw [runL_no (by simp; omega) (by simpa [List.getElem_append_left, hku] using hpk)]
    · by_cases hkl : k < (u ++ v').length
      · rw [runL_no hkl (hp _ (stop_get hs (by omega) hkl))]
      · rw [runL_end hkl]
  | case3 k hk =>
    by_cases hkl : k < (u ++ v').length
    · rw [runL_no hkl (hp _ (stop_get hs (by simp at hk; omega) hkl))]
    · rw [runL_end hkl]
theorem isAt_loc {u v v' : List UInt8} {t : Nat} (ht : t < u.length) (s : List UInt8) : isAt (u ++ v') t s = isAt (u ++ v) t s := by
  rw [isAt_lt (by simp; omega), isAt_lt (by simp; omega), List.getElem_append_left ht, List.getElem_append_left ht]
theorem isAt_stop {u v : List UInt8} (hs : Stop v) {s : List UInt8} (hm : ∀ c, isMark c = true → s.contains c = false) {t : Nat} (ht : t = u.length) : isAt (u ++ v) t s = false := by
  by_cases h : t < (u ++ v).length
  · rw [isAt_lt h]; exact hm _ (stop_get hs ht.symm h)
  · rw [isAt_ge h]
theorem m1 {c : UInt8} (h : isMark c = true) : [46].contains c = false ∧ [101, 69].contains c = false ∧ ([43, 45] : List UInt8).contains c = false := by
  rcases mark_cases h with rfl | rfl | rfl | rfl | rfl | rfl <;> decide
theorem nFrac_loc {u v v' : List UInt8} (hs : Stop v') {t : Nat} (ht : t ≤ u.length) (h : nFrac (u ++ v) t ≤ u.length) (h' : t < u.length ∨ nFrac (u ++ v) t = t) : nFrac (u ++ v') t = nFrac (u ++ v) t := by
  by_cases hlt : t < u.length
  · unfold nFrac at h ⊢
    rw [isAt_loc (v := v) hlt]
    by_cases h1 : isAt (u ++ v) t [46]
    · simp only [if_pos h1] at h ⊢
      have hr : runL isDigit (u ++ v) (t + 1) ≤ u.length := by split at h <;> omega
      rw [runL_loc (fun c hc => (mark_not hc).2.2) hs (t + 1) (by omega) hr]
    · simp only [if_neg h1]
  · have e : t = u.length := by omega
    rw [h'.resolve_left hlt, nFrac, if_neg (by rw [isAt_stop hs (fun c hc => (m1 hc).1) e]; simp)]
theorem nExp_loc {u v v' : List UInt8} (hs : Stop v') {t : Nat} (ht : t ≤ u.length) (h : nExp (u ++ v) t = u.length) : nExp (u ++ v') t = u.length := by
  by_cases hlt : t < u.length
  · unfold nExp at h
    by_cases h1 : isAt (u ++ v) t [101, 69]
    · rw [if_pos h1] at h
      split at h
      · rename_i h2
        have hf : nSign (u ++ v) (t + 1) < u.length := by omega
        have ht1 : t + 1 < u.length := by have : t + 1 ≤ nSign (u ++ v) (t + 1) := by unfold nSign; split <;> omega
                                          omega
        have e : nSign (u ++ v') (t + 1) = nSign (u ++ v) (t + 1) := by unfold nSign; rw [isAt_loc (v := v) ht1]
        have e2 := runL_loc (u := u) (v := v) (v' := v') (fun c hc => (mark_not hc).2.2) hs (nSign (u ++ v) (t + 1)) (by omega) (by omega)
        rw [nExp, if_pos (by rw [isAt_loc (v := v) hlt]; exact h1), e, e2, if_pos h2, h]
      · omega
    · rw [if_neg h1] at h; omega
  · have e : t = u.length := by omega
    rw [nExp, if_neg (by rw [isAt_stop hs (fun c hc => (m1 hc).2.1) e]; simp), e]

theorem numM_loc {u v v' : List UInt8} (hs : Stop v') (hu : 0 < u.length) (h : numM (u ++ v) 0 = ((u.length : Int), -1)) : numM (u ++ v') 0 = ((u.length : Int), -1) := by
  unfold numM at h
  by_cases hd : digAt (u ++ v) (nk1 (u ++ v) 0)
  · rw [if_pos hd] at h
    have hk := nk1_bd (l := u ++ v) (k := 0) (by simp; omega)
    have h1 := nInt_bd hd
    have h2 := nFrac_bd h1.2
    have h3 := nExp_bd h2.2
    have hn : nExp (u ++ v) (nFrac (u ++ v) (nInt (u ++ v) (nk1 (u ++ v) 0))) = u.length := by injection h with h _; omega
    have e1 : nk1 (u ++ v') 0 = nk1 (u ++ v) 0 := by unfold nk1; rw [isAt_loc (v := v) hu]
    have e2 : digAt (u ++ v') (nk1 (u ++ v) 0) = true := by
      obtain ⟨hx, hy⟩ := digAt_lt hd
      have : nk1 (u ++ v) 0 < u.length := by omega
      rw [List.getElem_append_left this] at hy
      rw [digAt, dif_pos (by simp; omega), List.getElem_append_left this, hy]
    have e3 : nInt (u ++ v') (nk1 (u ++ v) 0) = nInt (u ++ v) (nk1 (u ++ v) 0) := by
      have h4 : nk1 (u ++ v) 0 < u.length := by omega
      have hle : nInt (u ++ v) (nk1 (u ++ v) 0) ≤ u.length := by omega
      unfold nInt at hle ⊢
      rw [isAt_loc (v := v) h4]
      by_cases h1 : isAt (u ++ v) (nk1 (u ++ v) 0) [48]
      · simp only [if_pos h1]
      · simp only [if_neg h1] at hle ⊢
        rw [runL_loc (fun c hc => (mark_not hc).2.2) hs _ (by omega) hle]
    have e4 := nFrac_loc (u := u) (v := v) (v' := v') hs (t := nInt (u ++ v) (nk1 (u ++ v) 0)) (by omega) (by omega) (by omega)
    have e5 := nExp_loc (u := u) (v := v) (v' := v') hs (t := nFrac (u ++ v) (nInt (u ++ v) (nk1 (u ++ v) 0))) (by omega) hn
    rw [numM, e1, if_pos e2, e3, e4, e5]
  · rw [if_neg hd] at h; injection h with _ h; omega
theorem wordM_loc {u v v' : List UInt8} (hs : Stop v') (h : wordM (u ++ v) 0 = ((u.length : Int), -1)) : wordM (u ++ v') 0 = ((u.length : Int), -1) := by
  unfold wordM at h
  split at h
  · rename_i hm
    have hr : runL isLetter (u ++ v) 0 = u.length := by injection h with h _; omega
    rw [hr] at hm
    have hc : ∀ x, cutL (u ++ x) 0 u.length = u := fun x => by simp [cutL]
    rw [hc] at hm
    have e := runL_loc (u := u) (v := v) (v' := v') (fun c hc => (mark_not hc).2.1) hs 0 (by omega) (by omega)
    rw [wordM, e, hr, hc, if_pos hm]
  · injection h with _ h; omega
theorem strM_loc {u v v' : List UInt8} (k : Nat) (h : strM (u ++ v) k = ((u.length : Int), -1)) : strM (u ++ v') k = ((u.length : Int), -1) := by
  have hg : ∀ k (hk : k < u.length) (h1 : k < (u ++ v).length) (h2 : k < (u ++ v').length), (u ++ v')[k] = (u ++ v)[k] := fun k hk h1 h2 => by rw [List.getElem_append_left hk, List.getElem_append_left hk]
  fun_induction strM (u ++ v) k with
  | case1 k hlt h1 =>
    injection h with h _
    have hk : k < u.length := by omega
    rw [strM_end (by simp; omega) (by rw [hg k hk hlt]; exact h1), h]
  | case2 k hlt h1 h2 => injection h with _ h; omega
  | case3 k hlt h1 h2 h3 ih =>
    have hb := strM_bd (u ++ v) (k + 1) (by omega)
    rw [h] at hb
    have hk : k < u.length := by rcases hb with ⟨_, t, e, _⟩ | ⟨t, e, _⟩ <;> simp at e <;> omega
    rw [strM_on (by simp; omega) (by rw [hg k hk hlt]; simpa using h1) (by rw [hg k hk hlt]; omega) (by rw [hg k hk hlt]; exact h3)]
    exact ih h
  | case4 k hlt h1 h2 h3 h4 ih =>
    have hb := strM_bd (u ++ v) (k + 2) (by have := isAt_at h4; omega)
    rw [h] at hb
    have hk : k + 2 < u.length := by rcases hb with ⟨_, t, e, _⟩ | ⟨t, e, _⟩ <;> simp at e <;> omega
    rw [strM_esc (by simp; omega) (by rw [hg k (by omega) hlt]; simpa using h1) (by rw [hg k (by omega) hlt]; omega) (by rw [hg k (by omega) hlt]; simpa using h3) (by rw [isAt_loc (v := v) (by omega)]; exact h4)]
    exact ih h
  | case5 k hlt h1 h2 h3 h4 h5 => injection h with _ h; omega
  | case6 k hlt h1 h2 h3 h4 h5 h6 => injection h with _ h; omega
  | case7 k hlt h1 h2 h3 h4 h5 h6 ih =>
    have hu : isAt (u ++ v) (k + 1) [117] = true := by simpa using h5
    have := isAt_at hu
    have hbr := runL_le isHex ((u ++ v).take (k + 6)) (k + 1 + 1) (by simp at this ⊢; omega)
    have hbl := hbr.2
    rw [List.length_take] at hbl
    have hb := strM_bd (u ++ v) (k + 6) (by omega)
    rw [h] at hb
    have hk : k + 6 < u.length := by rcases hb with ⟨_, t, e, _⟩ | ⟨t, e, _⟩ <;> simp at e <;> omega
    have ht : (u ++ v').take (k + 6) = (u ++ v).take (k + 6) := by rw [List.take_append_of_le_length (by omega), List.take_append_of_le_length (by omega)]
    rw [strM_u (by simp; omega) (by rw [hg k (by omega) hlt]; simpa using h1) (by rw [hg k (by omega) hlt]; omega) (by rw [hg k (by omega) hlt]; simpa using h3) (by rw [isAt_loc (v := v) (by omega)]; simpa using h4) (by rw [isAt_loc (v := v) (by omega)]; simpa using h5) (by rw [ht]; omega)]
    exact ih h
  | case8 k hlt => injection h with _ h; omega
theorem tokEnd_ok {kd kd' : Int} {k e : Nat} {f : Int} {r : Int × Int} (h : tokEnd kd k r = ⟨kd', f, e, 0, 0⟩) : r = ((e : Int), -1) ∧ kd' = kd ∧ f = k := by
  unfold tokEnd at h
  split at h
  · rename_i h1
    unfold tokOk at h
    injection h with a b c
    exact ⟨by cases r; simp_all, a.symm, b.symm⟩
  · unfold tokErr at h; injection h with a b c d; omega
theorem tokEnd_mk (kd : Int) (k : Nat) (e : Int) : tokEnd kd k (e, -1) = ⟨kd, k, e, 0, 0⟩ := by simp [tokEnd, tokOk]
/-- A token's bytes alone, and with a mark behind them, are that token. -/
theorem nextM_loc {u v v' : List UInt8} (hs : Stop v') (hu : 0 < u.length) {kd : Int} (h : nextM (u ++ v) ((0 : Nat) : Int) = ⟨kd, 0, (u.length : Nat), 0, 0⟩) : nextM (u ++ v') ((0 : Nat) : Int) = ⟨kd, 0, (u.length : Nat), 0, 0⟩ := by
  rw [nextM_in (by simp; omega)] at h ⊢
  have hg : (u ++ v')[0]'(by simp; omega) = (u ++ v)[0]'(by simp; omega) := by rw [List.getElem_append_left hu, List.getElem_append_left hu]
  rw [hg]
  unfold nextF at h ⊢
  split at h
  · rename_i h1
    rw [if_pos h1]
    obtain ⟨e1, e2, _⟩ := tokEnd_ok h
    injection e1 with e1
    have e3 := runL_loc (u := u) (v := v) (v' := v') (fun c hc => (mark_not hc).1) hs 0 (by omega) (by omega)
    rw [e3, e1, tokEnd_mk, e2]; simp
  rename_i n1
  rw [if_neg n1]
  split at h
  · rename_i h1
    rw [if_pos h1]; exact h
  rename_i n2
  rw [if_neg n2]
  split at h
  · rename_i h1
    rw [if_pos h1]
    obtain ⟨e1, e2, _⟩ := tokEnd_ok h
    rw [wordM_loc hs e1, tokEnd_mk, e2]; simp
  rename_i n3
  rw [if_neg n3]
  split at h
  · rename_i h1
    rw [if_pos h1]
    obtain ⟨e1, e2, _⟩ := tokEnd_ok h
    rw [numM_loc hs hu e1, tokEnd_mk, e2]; simp
  rename_i n4
  rw [if_neg n4]
  split at h
  · rename_i h1
    rw [if_pos h1]
    obtain ⟨e1, e2, _⟩ := tokEnd_ok h
    rw [strM_loc _ e1, tokEnd_mk, e2]; simp
  · unfold tokErr at h; injection h with a b c d; omega

end Go.Proofs.Ytjiejpjdbimjkaa
