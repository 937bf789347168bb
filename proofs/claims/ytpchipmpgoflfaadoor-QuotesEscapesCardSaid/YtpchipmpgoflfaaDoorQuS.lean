/- Plain laws of chapter 03's strings: what is written is read, and no string of a text is shorter; no program in it, and no statement of the seat is proved here. -/
import Derived.Test.YtpchipmpgoflfaaDoorQuL
namespace Go.Proofs.YtpchipmpgoflfaaDoor
open Go.RowKit

theorem drop_cons {l : List UInt8} {i : Nat} {x : UInt8} {r : List UInt8} (h : l.drop i = x :: r) : ∃ hi : i < l.length, l[i] = x ∧ l.drop (i + 1) = r := by
  have hi : i < l.length := by
    rcases Nat.lt_or_ge i l.length with h' | h'
    · exact h'
    · rw [List.drop_eq_nil_of_le h'] at h; cases h
  rw [List.drop_eq_getElem_cons hi] at h
  injection h with h1 h2
  exact ⟨hi, h1, h2⟩
theorem bt_drop {l : List UInt8} {i : Nat} {x : UInt8} {r : List UInt8} (h : l.drop i = x :: r) : bt l i = x.toNat := by
  obtain ⟨hi, h1, _⟩ := drop_cons h
  rw [bt_lt hi, h1]
theorem hx_drop {l : List UInt8} {i : Nat} {x : UInt8} {r : List UInt8} (h : l.drop i = x :: r) : hx l i = hexD x := by
  obtain ⟨hi, h1, _⟩ := drop_cons h
  rw [hx, dif_pos hi, h1]
theorem rdQ_byteL {l : List UInt8} {i : Nat} {x : UInt8} {r out : List UInt8} (h : l.drop i = x :: r) (h0 : 32 ≤ x.toNat) (h1 : x.toNat ≠ 34) (h2 : x.toNat ≠ 92) : rdQ l i out = rdQ l (i + 1) (out ++ [x]) := by
  obtain ⟨hi, e, _⟩ := drop_cons h
  conv => lhs; rw [rdQ, dif_pos hi, e, if_neg (by omega), if_neg h1, if_pos h2]
theorem rdQ_quoteL {l : List UInt8} {i : Nat} {out : List UInt8} (h : l.drop i = [34]) : rdQ l i out = (out, 0, 0) := by
  obtain ⟨hi, e, h2⟩ := drop_cons h
  have hl : i + 1 = l.length := by
    have := congrArg List.length h2
    simp at this; omega
  rw [rdQ, dif_pos hi, e, if_neg (by decide), if_pos (by decide), if_pos hl]
theorem rdQ_escL {l : List UInt8} {i : Nat} {r out t : List UInt8} {k : Nat} (h : l.drop i = 92 :: r) (he : escL l i = (t, (k : Int), 0, 0)) (hk : 0 < k) : rdQ l i out = rdQ l (i + k) (out ++ t) := by
  obtain ⟨hi, e, _⟩ := drop_cons h
  conv => lhs; rw [rdQ, dif_pos hi, e, if_neg (by decide), if_neg (by decide), if_neg (by decide), he, dif_pos ⟨rfl, by simpa using hk⟩]
  simp
theorem escL_short {l : List UInt8} {i : Nat} {y : UInt8} {r : List UInt8} {b : Nat} (h : l.drop i = 92 :: y :: r) (hb : shortFrom y.toNat 0 = some b) : escL l i = ([UInt8.ofNat b], 2, 0, 0) := by
  obtain ⟨hi, _, h1⟩ := drop_cons h
  obtain ⟨hi1, _, _⟩ := drop_cons h1
  rw [escL, if_neg (by omega), bt_drop h1, hb]
/-- A whole escape of a rune that is no half of a pair. -/
theorem unitL_four {l : List UInt8} {i : Nat} {a b c d : UInt8} {r : List UInt8} (h : l.drop i = 92 :: 117 :: a :: b :: c :: d :: r) (ha : 0 ≤ hexD a) (hb : 0 ≤ hexD b) (hc : 0 ≤ hexD c) (hd : 0 ≤ hexD d) :
    unitL l i = (16 * (16 * (16 * hexD a + hexD b) + hexD c) + hexD d, -1) := by
  obtain ⟨hi, _, h1⟩ := drop_cons h
  obtain ⟨_, _, h2⟩ := drop_cons h1
  obtain ⟨_, _, h3⟩ := drop_cons h2
  obtain ⟨_, _, h4⟩ := drop_cons h3
  obtain ⟨_, _, h5⟩ := drop_cons h4
  unfold unitL
  rw [uRest, if_neg (by rw [bt_drop h]; decide), if_neg (by rw [bt_drop h1]; decide), dgs, hx_drop h2, if_neg (by omega), dgs, hx_drop h3, if_neg (by omega), dgs, hx_drop h4, if_neg (by omega), dgs, hx_drop h5, if_neg (by omega), dgs]
  simp
theorem escL_rune {l : List UInt8} {i : Nat} {r : List UInt8} {n : Int} (h : l.drop i = 92 :: 117 :: r) (hu : unitL l i = (n, -1)) (hn : n < 55296 ∨ 57344 ≤ n) : escL l i = (putL [n], 6, 0, 0) := by
  obtain ⟨hi, _, h1⟩ := drop_cons h
  obtain ⟨hi1, _, _⟩ := drop_cons h1
  have hr : runeL l i = (n, 6, 0, 0) := by rw [runeL, hu]; dsimp only; rw [if_neg (by omega), if_pos hn]
  rw [escL, if_neg (by omega), bt_drop h1, show shortFrom (117 : UInt8).toNat 0 = none by decide, hr]
theorem hexD_hexc : ∀ n : Fin 16, hexD (hexc n.val) = (n.val : Int) := by decide +kernel
theorem put_ascii {n : Nat} (h : n < 128) : putL [(n : Int)] = [UInt8.ofNat n] := by
  have h1 : Lib.encodeRune (n : Int) = [UInt8.ofNat n] := by
    unfold Lib.encodeRune
    rw [Lib.encodeRuneZ_one (by omega) (by omega)]
    simp
  simp [putL, h1]
/-- A byte that is written with a short escape is told by it; one that stands for itself does. -/
theorem wrB_ways : ∀ c : UInt8, (∃ y : UInt8, wrB c = [92, y] ∧ shortFrom y.toNat 0 = some c.toNat) ∨ (wrB c = [92, 117, 48, 48, hexc (c.toNat / 16), hexc (c.toNat % 16)] ∧ c.toNat < 32) ∨ (wrB c = [c] ∧ 32 ≤ c.toNat ∧ c.toNat ≠ 34 ∧ c.toNat ≠ 92) := by
  have h := u8_all (p := fun c => (letterB c ≠ 0 ∧ shortFrom (letterB c).toNat 0 = some c.toNat) ∨ (letterB c = 0 ∧ c.toNat < 32) ∨ (letterB c = 0 ∧ 32 ≤ c.toNat ∧ c.toNat ≠ 34 ∧ c.toNat ≠ 92)) (by decide +kernel)
  intro c
  rcases h c with ⟨h1, h2⟩ | ⟨h1, h2⟩ | ⟨h1, h2, h3, h4⟩
  · exact .inl ⟨letterB c, by rw [wrB, if_pos h1], h2⟩
  · exact .inr (.inl ⟨by rw [wrB, if_neg (by simp [h1]), if_pos h2], h2⟩)
  · exact .inr (.inr ⟨by rw [wrB, if_neg (by simp [h1]), if_neg (by omega)], h2, h3, h4⟩)
theorem rd_write {l : List UInt8} : ∀ (a : List UInt8) (i : Nat) (out : List UInt8), l.drop i = a.flatMap wrB ++ [34] → rdQ l i out = (out ++ a, 0, 0) := by
  intro a
  induction a with
  | nil => intro i out h; rw [rdQ_quoteL h]; simp
  | cons c a ih =>
    intro i out h
    rw [List.flatMap_cons, List.append_assoc] at h
    rcases wrB_ways c with ⟨y, e, hy⟩ | ⟨e, hc⟩ | ⟨e, h1, h2, h3⟩
    · rw [e] at h
      rw [rdQ_escL (k := 2) h (escL_short h hy) (by omega), ih (i + 2) _ (by
        obtain ⟨_, _, q1⟩ := drop_cons h
        obtain ⟨_, _, q2⟩ := drop_cons q1
        exact q2)]
      simp
    · rw [e] at h
      have k1 := hexD_hexc ⟨c.toNat / 16, by omega⟩
      have k2 := hexD_hexc ⟨c.toNat % 16, by omega⟩
      dsimp only at k1 k2
      have z : hexD 48 = 0 := by decide
      have hu := unitL_four h (by rw [z]; omega) (by rw [z]; omega) (by rw [k1]; omega) (by rw [k2]; omega)
      rw [z, k1, k2] at hu
      have hu' : unitL l i = ((c.toNat : Int), -1) := by rw [hu]; congr 1; omega
      rw [rdQ_escL (k := 6) h (escL_rune h hu' (by omega)) (by omega), put_ascii (by omega), ih (i + 6) _ (by
        obtain ⟨_, _, q1⟩ := drop_cons h
        obtain ⟨_, _, q2⟩ := drop_cons q1
        obtain ⟨_, _, q3⟩ := drop_cons q2
        obtain ⟨_, _, q4⟩ := drop_cons q3
        obtain ⟨_, _, q5⟩ := drop_cons q4
        obtain ⟨_, _, q6⟩ := drop_cons q5
        exact q6)]
      simp
    · rw [e] at h
      rw [rdQ_byteL h h1 h2 h3, ih (i + 1) _ (drop_cons h).2.2]
      simp
theorem read_write (a : List UInt8) : readQ (writeQ a) = (a, 0, 0) := by
  have hl : (writeQ a).drop 1 = a.flatMap wrB ++ [34] := rfl
  rw [readQ, if_neg (by simp [writeQ]), if_neg (by rw [bt_drop (l := writeQ a) (i := 0) rfl]; decide), rd_write a 1 [] hl]
  rfl
theorem write_inj {a b : List UInt8} (h : writeQ a = writeQ b) : a = b := by
  have h1 := read_write a
  rw [h, read_write b] at h1
  injection h1 with h1; exact h1.symm
theorem write_join (a b : List UInt8) : writeQ (a ++ b) = (writeQ a).take ((writeQ a).length - 1) ++ (writeQ b).drop 1 := by
  have e : (writeQ a).take ((writeQ a).length - 1) = 34 :: a.flatMap wrB := by
    unfold writeQ
    rw [show (34 :: (a.flatMap wrB ++ [34])).length - 1 = (34 :: a.flatMap wrB).length by simp]
    rw [← List.cons_append, List.take_left]
  rw [e]
  simp [writeQ]

end Go.Proofs.YtpchipmpgoflfaaDoor
