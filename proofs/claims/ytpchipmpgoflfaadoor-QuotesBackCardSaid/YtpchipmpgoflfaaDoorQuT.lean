/- Plain laws of chapter 03's strings: no string of a text is shorter than the one that is written; no program in it, and no statement of the seat is proved here. -/
import Derived.Test.YtpchipmpgoflfaaDoorQuS
namespace Go.Proofs.YtpchipmpgoflfaaDoor
open Go.RowKit

theorem wrB_plain : ∀ c : UInt8, 32 ≤ c.toNat → c.toNat ≠ 34 → c.toNat ≠ 92 → wrB c = [c] := by
  intro c h1 h2 h3
  have h := u8_all (p := fun c => c.toNat < 32 ∨ c.toNat = 34 ∨ c.toNat = 92 ∨ letterB c = 0) (by decide +kernel) c
  have h0 : letterB c = 0 := by
    rcases h with h | h | h | h
    · omega
    · exact absurd h h2
    · exact absurd h h3
    · exact h
  rw [wrB, if_neg (by simp [h0]), if_neg (by omega)]
theorem enc_high (r : Int) (h : 128 ≤ r) : ∀ x ∈ Lib.encodeRune r, 128 ≤ x.toNat := by
  intro x hx
  have hz : ∀ z ∈ Lib.encodeRuneZ r, 128 ≤ z ∧ z < 256 := by
    intro z hz
    refine ⟨?_, (Lib.encodeRuneZ_byte r z hz).2⟩
    by_cases h1 : r ≤ 2047
    · rw [Lib.encodeRuneZ_two h h1] at hz
      simp at hz; omega
    · by_cases h2 : (2048 ≤ r ∧ r < 55296) ∨ (57343 < r ∧ r ≤ 65535)
      · rw [Lib.encodeRuneZ_three h2] at hz
        simp at hz; omega
      · by_cases h3 : 65536 ≤ r ∧ r ≤ 1114111
        · rw [Lib.encodeRuneZ_four h3.1 h3.2] at hz
          simp at hz; omega
        · rw [Lib.encodeRuneZ_bad (by omega)] at hz
          simp at hz; omega
  unfold Lib.encodeRune at hx
  simp only [List.mem_map] at hx
  obtain ⟨z, hzm, rfl⟩ := hx
  have := hz z hzm
  simp
  omega
theorem wr_high (l : List UInt8) (h : ∀ x ∈ l, 128 ≤ x.toNat) : (l.flatMap wrB).length = l.length := by
  induction l with
  | nil => rfl
  | cons x l ih =>
    have hx := h x (by simp)
    rw [List.flatMap_cons, wrB_plain x (by omega) (by omega) (by omega), List.length_append, ih (fun y hy => h y (by simp [hy]))]
    simp; omega
theorem wr_put (n : Int) (h : 0 ≤ n) : ((putL [n]).flatMap wrB).length ≤ 6 := by
  by_cases h1 : n < 128
  · obtain ⟨m, rfl⟩ := Int.eq_ofNat_of_zero_le h
    rw [put_ascii (by omega)]
    have := wrB_len (UInt8.ofNat m)
    simpa using this
  · have e : putL [n] = Lib.encodeRune n := by simp [putL]
    rw [e, wr_high _ (enc_high n (by omega))]
    have := Lib.runeCells_le n
    rw [Lib.runeCells_length] at this
    omega
theorem wr_short {y b : Nat} (h : shortFrom y 0 = some b) : (wrB (UInt8.ofNat b)).length ≤ 2 := by
  unfold shortFrom at h
  obtain ⟨x, hx, rfl⟩ := Option.map_eq_some_iff.1 h
  have hm := List.mem_of_find?_eq_some hx
  simp [shortT] at hm
  rcases hm with rfl | rfl | rfl | rfl | rfl | rfl | rfl | rfl <;> simp [wrB, letterB, lettFrom, shortT]
/-- What an escape tells is not written longer. -/
theorem esc_wr {l : List UInt8} {i : Nat} {t : List UInt8} {k : Int} {fa : Int} (h : escL l i = (t, k, 0, fa)) : ((t.flatMap wrB).length : Int) ≤ k := by
  unfold escL at h
  split at h
  · injection h with _ h; injection h with _ h; injection h with h _; omega
  · split at h
    · rename_i b hb
      injection h with h1 h; injection h with h2 h
      subst h1 h2
      have := wr_short hb
      simp; omega
    · obtain ⟨r0, r1, _⟩ := unitL_rng l i
      unfold runeL at h
      split at h
      · injection h with _ h; injection h with _ h; injection h with h _; simp at h
      · split at h
        · injection h with h1 h; injection h with h2 h
          subst h1 h2
          have := wr_put (unitL l i).1 r0
          dsimp only
          omega
        · split at h
          · injection h with _ h; injection h with _ h; injection h with h _; simp at h
          · rename_i h8 h9
            injection h with h1 h; injection h with h2 h
            subst h1 h2
            have := wr_put (65536 + ((unitL l i).1 - 55296) * 1024 + (unitL l (i + 6)).1 - 56320) (by omega)
            dsimp only
            omega
theorem min_len {l : List UInt8} : ∀ (n i : Nat) (out res : List UInt8), l.length - i ≤ n → rdQ l i out = (res, 0, 0) → ∃ t, res = out ++ t ∧ (t.flatMap wrB).length + 1 + i ≤ l.length := by
  intro n
  induction n with
  | zero =>
    intro i out res hn h
    rw [rdQ_end (by omega)] at h
    injection h with _ h; injection h with h _; omega
  | succ n ih =>
    intro i out res hn h
    by_cases hj : i < l.length
    · rw [rdQ, dif_pos hj] at h
      by_cases h1 : l[i].toNat < 32
      · rw [if_pos h1] at h; injection h with _ h; injection h with h _; omega
      rw [if_neg h1] at h
      by_cases h2 : l[i].toNat = 34
      · rw [if_pos h2] at h
        split at h
        · injection h with h _
          exact ⟨[], by simp [h], by simp; omega⟩
        · injection h with _ h; injection h with h _; omega
      rw [if_neg h2] at h
      by_cases h3 : l[i].toNat ≠ 92
      · rw [if_pos h3] at h
        obtain ⟨t, e, hl⟩ := ih _ _ _ (by omega) h
        refine ⟨l[i] :: t, by rw [e]; simp, ?_⟩
        rw [List.flatMap_cons, wrB_plain _ (by omega) h2 h3]
        simp only [List.length_append, List.length_cons, List.length_nil]; omega
      rw [if_neg h3] at h
      split at h
      · rename_i hc
        obtain ⟨t, e, hl⟩ := ih _ _ _ (by have := hc.2; omega) h
        have hw := esc_wr (l := l) (i := i) (t := (escL l i).1) (k := (escL l i).2.1) (fa := (escL l i).2.2.2) (by rw [← hc.1])
        refine ⟨(escL l i).1 ++ t, by rw [e]; simp, ?_⟩
        rw [List.flatMap_append, List.length_append]
        have := hc.2
        omega
      · rename_i hc
        injection h with h1' h; injection h with h2' h
        rcases esc_ways l i with ⟨t, k, he, hk, _, _⟩ | ⟨t, k, co, fa, he, hco⟩
        · rw [he] at hc; simp at hc; omega
        · rw [he] at h2'; dsimp only at h2'; omega
    · rw [rdQ_end (by omega)] at h
      injection h with _ h; injection h with h _; omega
theorem read_min {l a : List UInt8} (h : readQ l = (a, 0, 0)) : (writeQ a).length ≤ l.length := by
  unfold readQ at h
  split at h
  · injection h with _ h; injection h with h _; omega
  · split at h
    · injection h with _ h; injection h with h _; omega
    · obtain ⟨t, e, hl⟩ := min_len _ 1 [] a (Nat.le_refl _) h
      simp at e
      subst e
      simp only [writeQ, List.length_append, List.length_cons, List.length_nil]; omega

end Go.Proofs.YtpchipmpgoflfaaDoor
