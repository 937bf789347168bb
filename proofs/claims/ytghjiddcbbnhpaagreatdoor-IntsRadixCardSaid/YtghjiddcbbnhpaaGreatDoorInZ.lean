/- Walks over package ints: number, Cmp; no statement of the seat is proved here. -/
import Derived.Test.YtghjiddcbbnhpaaGreatDoorInY
import Derived.Lib.AtoiErrMem
import Derived.Lib.AppendIntMem
namespace Go.Proofs.YtghjiddcbbnhpaaGreatDoor
open Go.RowKit

theorem pUM_nat : ∀ (l : List UInt8) (a : Nat), (∀ c ∈ l, dgB c = true) → natV a l < 18446744073709551616 → Lib.parseUintM (2 ^ 64 - 1) a l = .ok (natV a l)
  | [], _, _, _ => rfl
  | c :: l, a, h, hv => by
    have h1 := dgB_t.1 (h c (by simp))
    have h2 := natV_le l (10 * a + (c.toNat - 48))
    rw [natV_cons] at hv
    rw [Lib.parseUintM, if_pos h1, if_neg (by omega), if_neg (by simp; omega), natV_cons, Nat.mul_comm a 10]
    exact pUM_nat l _ (fun x hx => h x (by simp [hx])) hv
theorem pUB_dec {n : Nat} (h : n < 18446744073709551616) : Lib.parseUintB 64 (Lib.decDigits n) = .ok n := by
  unfold Lib.parseUintB
  rw [if_neg (dec_ne n), pUM_nat _ _ (dec_dg n) (by rw [natV_dec]; exact h), natV_dec]
theorem pIB_itoa {z : Int} (h : I64 z) : Lib.parseIntB 64 (Lib.itoa z) = .ok z := by
  unfold I64 at h
  by_cases hz : z < 0
  · rw [itoa_neg hz, Lib.parseIntB]
    rw [if_pos (by right; decide), pUB_dec (by omega)]
    simp only [show (45 : UInt8).toNat = 45 from rfl, not_true_eq_false, false_and, if_false, true_and]
    rw [if_neg (by simp; omega), if_pos trivial]
    congr 1; omega
  · rw [itoa_pos hz]
    cases e : Lib.decDigits z.natAbs with
    | nil => exact absurd e (dec_ne _)
    | cons c r =>
      have hc := dgB_t.1 (dec_dg z.natAbs c (by rw [e]; simp))
      rw [Lib.parseIntB]
      rw [if_neg (by omega), ← e, pUB_dec (by omega)]
      have h45 : ¬ c.toNat = 45 := by omega
      simp only [h45, not_false_eq_true, true_and, false_and, if_false]
      rw [if_neg (by simp; omega)]
      congr 1; omega
theorem pUM_le : ∀ (l : List UInt8) (a u : Nat), a < 18446744073709551616 → Lib.parseUintM (2 ^ 64 - 1) a l = .ok u → u < 18446744073709551616
  | [], a, u, h, e => by rw [Lib.parseUintM] at e; injection e with e; omega
  | c :: l, a, u, h, e => by
    rw [Lib.parseUintM] at e
    split at e
    · split at e
      · cases e
      · split at e
        · cases e
        · exact pUM_le l _ u (by simp at *; omega) e
    · cases e
theorem pIB_range {l : List UInt8} {z : Int} (h : Lib.parseIntB 64 l = .ok z) : I64 z := by
  unfold I64
  unfold Lib.parseIntB at h
  split at h
  · cases h
  · rename_i c r
    simp only at h
    split at h
    · cases h
    · cases h
    · rename_i u _
      split at h
      · cases h
      · split at h
        · cases h
        · rename_i h1 h2
          injection h with h
          simp at h1 h2
          by_cases h45 : c.toNat = 45
          · rw [if_pos h45] at h; have := h2 h45; omega
          · rw [if_neg h45] at h; have := h1 h45; omega
theorem num_of {l : List UInt8} {z : Int} (h : Lib.parseIntB 64 l = .ok z) : (Lib.itoa z = l ∧ numO l = some z) ∨ (Lib.itoa z ≠ l ∧ numO l = none) := by
  by_cases e : Lib.itoa z = l
  · exact .inl ⟨e, (num_iff _ _).2 ⟨pIB_range h, e.symm⟩⟩
  · refine .inr ⟨e, num_none fun y hy k => e ?_⟩
    subst k
    rw [pIB_itoa hy] at h
    injection h with h
    rw [h]
theorem num_bad {l : List UInt8} (h : ∀ z, Lib.parseIntB 64 l ≠ .ok z) : numO l = none := num_none fun y hy k => h y (by rw [k]; exact pIB_itoa hy)

theorem fmt_is (n : Int) (h : I64 n) (t : ByteArray) (ht : t.data.toList = Lib.itoa n) (w : World) (hT : TAB w) :
    Calls Tryz.prog 13 #[.int .i64 n, .int .i64 10] w fun e w' => e = .returned (.string t) ∧ Below w.heap.size w w' := by
  refine (Tryz.strconv_FormatInt_10 n h.1 h.2 w (hT w (Below.refl _ w))).mono ?_
  rintro e w' ⟨rfl, k, os, rfl⟩
  have : (⟨(Lib.itoa n).toArray⟩ : ByteArray) = t := str_eq ht.symm
  exact ⟨by rw [this], Lib.below_grow _ _ (Nat.le_refl _) _ _⟩

set_option maxHeartbeats 2000000 in
theorem num_is (s : ByteArray) (hs : s.size ≤ 1000000) (w : World) (hG : Gl w) :
    Calls Tryz.prog 31 #[.string s] w fun e w' => (∃ z b, e = .returned (.tuple #[.int .i64 z, .bool b]) ∧ numO s.data.toList = if b = true then some z else none) ∧ Below w.heap.size w w' := by
  rcases hp : Lib.parseIntB 64 s.data.toList with v | _ | _
  ·
    obtain ⟨t, ht⟩ := str_ex (Lib.itoa v)
    have hv := pIB_range hp
    have HC := Lib.hid (fun w => Tryz.strconv_ParseInt_10_at64_ok s (by omega) v hp w)
    have HF := Lib.hid (fun w hT => fmt_is v hv t ht w hT)
    rcases num_of hp with ⟨h1, h2⟩ | ⟨h1, h2⟩
    · have he : (t.toList == s.toList) = true := by rw [ByteArray.toList_eq, ByteArray.toList_eq, ht, h1]; exact beq_self_eq_true _
      clear hp ht h1
      go_enter Tryz.func31, Tryz.ntmps31
      go_wp2_with (first
        | (go_at_call 25; refine (HC.out _).mono ?_; rintro e w1 ⟨rfl, hb⟩; have hb1 : Below w.heap.size w w1 := hb.elim (fun e => e ▸ Below.refl _ _) (fun ⟨_, e⟩ => e ▸ Lib.bytesWorld_below _ _ _); clear hb)
        | (go_at_call 13; refine (HF.out _ (hG.later hb1).tab).mono ?_; rintro e w2 ⟨rfl, hb2⟩))
      go_ret2
      exact ⟨⟨v, true, rfl, h2⟩, hb1.trans (hb2.mono hb1.size)⟩
    · have he : (t.toList == s.toList) = false := by rw [ByteArray.toList_eq, ByteArray.toList_eq, ht]; simpa using h1
      clear hp ht h1
      go_enter Tryz.func31, Tryz.ntmps31
      go_wp2_with (first
        | (go_at_call 25; refine (HC.out _).mono ?_; rintro e w1 ⟨rfl, hb⟩; have hb1 : Below w.heap.size w w1 := hb.elim (fun e => e ▸ Below.refl _ _) (fun ⟨_, e⟩ => e ▸ Lib.bytesWorld_below _ _ _); clear hb)
        | (go_at_call 13; refine (HF.out _ (hG.later hb1).tab).mono ?_; rintro e w2 ⟨rfl, hb2⟩))
      go_ret2
      exact ⟨⟨v, false, rfl, h2⟩, hb1.trans (hb2.mono hb1.size)⟩
  ·
    obtain ⟨b, hy⟩ := hG.syn
    have HC := Lib.hid (Tryz.strconv_ParseInt_10_at64_syntax s (by omega) hp _ w hy (.inr ⟨_, _, rfl⟩))
    have h2 := num_bad (l := s.data.toList) (by rw [hp]; intro z e; cases e)
    clear hp hy
    go_enter Tryz.func31, Tryz.ntmps31
    go_wp2_with (go_at_call 25; refine HC.out.mono ?_; rintro e w1 ⟨N, rfl, hN, hcs, hb1⟩)
    go_ret2
    exact ⟨⟨_, false, rfl, h2⟩, hb1⟩
  ·
    obtain ⟨b, hy⟩ := hG.rng
    have HC := Lib.hid (Tryz.strconv_ParseInt_10_at64_range s (by omega) hp _ w hy (.inr ⟨_, _, rfl⟩))
    have h2 := num_bad (l := s.data.toList) (by rw [hp]; intro z e; cases e)
    clear hp hy
    go_enter Tryz.func31, Tryz.ntmps31
    go_wp2_with (go_at_call 25; refine HC.out.mono ?_; rintro e w1 ⟨N, rfl, hN, hcs, hb1⟩)
    go_ret2
    exact ⟨⟨_, false, rfl, h2⟩, hb1⟩

theorem nan_is (x : Int) (w : World) : Calls Tryz.prog 34 #[.int .i64 x] w fun e w' => e = .returned (.bool false) ∧ w = w' := by
  go_enter Tryz.func34, Tryz.ntmps34
  go_wp2
  go_ret
  exact ⟨by simp, rfl⟩
theorem compare_is (x y : Int) (w : World) : Calls Tryz.prog 14 #[.int .i64 x, .int .i64 y] w fun e w' => e = .returned (.int .i64 (cmpZ x y)) ∧ w = w' := by
  have HN := Lib.hid nan_is
  unfold cmpZ
  by_cases h1 : x < y
  · have b1 : decide (x < y) = true := decide_eq_true h1
    rw [if_pos h1]; clear h1
    go_enter Tryz.func14, Tryz.ntmps14
    go_wp2_with (go_at_call 34; refine (HN.out _ _).mono ?_; rintro e w1 ⟨rfl, rfl⟩)
    go_ret
    exact ⟨rfl, rfl⟩
  · have b1 : decide (x < y) = false := decide_eq_false h1
    rw [if_neg h1]; clear h1
    by_cases h2 : y < x
    · have b2 : decide (y < x) = true := decide_eq_true h2
      rw [if_pos h2]; clear h2
      go_enter Tryz.func14, Tryz.ntmps14
      go_wp2_with (go_at_call 34; refine (HN.out _ _).mono ?_; rintro e w1 ⟨rfl, rfl⟩)
      go_ret
      exact ⟨rfl, rfl⟩
    · have b2 : decide (y < x) = false := decide_eq_false h2
      rw [if_neg h2]; clear h2
      go_enter Tryz.func14, Tryz.ntmps14
      go_wp2_with (go_at_call 34; refine (HN.out _ _).mono ?_; rintro e w1 ⟨rfl, rfl⟩)
      go_ret
      exact ⟨rfl, rfl⟩

set_option maxHeartbeats 2000000 in
theorem icmp_is (s t : ByteArray) (hs : s.size ≤ 1000000) (ht : t.size ≤ 1000000) (w : World) (hG : Gl w) :
    Calls Tryz.prog 11 #[.string s, .string t] w fun e w' => e = .returned (.int .i64 (cmpO s.data.toList t.data.toList)) ∧ Below w.heap.size w w' := by
  have H1 := Lib.hid (num_is s hs w hG)
  have H2 := Lib.hid (fun w' (hb : Below w.heap.size w w') => num_is t ht w' (hG.later hb))
  have HC := Lib.hid compare_is
  clear hG
  go_enter Tryz.func11, Tryz.ntmps11
  go_wp2_with (first
    | (go_at_call 31; refine H1.out.mono ?_; rintro e w1 ⟨⟨x, b, rfl, h1⟩, hb1⟩; clear H1)
    | (go_at_call 31; refine (H2.out _ hb1).mono ?_; rintro e w2 ⟨⟨y, c, rfl, h2⟩, hb2⟩; have hb := hb1.trans (hb2.mono hb1.size); cases b <;> cases c)
    | (go_at_call 14; refine (HC.out _ _ _).mono ?_; rintro e w1 ⟨rfl, rfl⟩))
  all_goals go_ret
  all_goals refine ⟨?_, hb⟩
  all_goals unfold cmpO
  all_goals rw [h1, h2]
  all_goals rfl

end Go.Proofs.YtghjiddcbbnhpaaGreatDoor
