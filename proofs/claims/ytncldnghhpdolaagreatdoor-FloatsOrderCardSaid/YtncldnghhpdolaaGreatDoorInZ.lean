/- Walks over package ints: numerals; no statement of the seat is proved here. -/
import Derived.Test.YtncldnghhpdolaaGreatDoorInY
import Derived.Lib.AtoiErrMem
import Derived.Lib.AppendIntMem
namespace Go.Proofs.YtncldnghhpdolaaGreatDoor
open Go.RowKit

theorem pUM_nat : ∀ (l : List UInt8) (a : Nat), (∀ c ∈ l, dgB c = true) → natV a l < 18446744073709551616 → Lib.parseUintM (2 ^ 64 - 1) a l = .ok (natV a l)
  | [], _, _, _ => rfl
  | c :: l, a, h, hv => by
    have h1 := dgB_t.1 (h c (by simp))
    have h2 := natV_le l (10 * a + (c.toNat - 48))
    rw [natV_cons] at hv
    rw [Lib.parseUintM, if_pos h1, if_neg (by omega), if_neg (by simp; omega), natV_cons, Nat.mul_comm a 10]
    exact pUM_nat l _ (fun x hx => h x (by simp [hx])) hv
theorem pUB_dec {n : Nat} (h : n < 18446744073709551616) : Lib.parseUintB 64 (Lib.decDigits n) = .ok n := by
  unfold Lib.parseUintB
  rw [if_neg (dec_ne n), pUM_nat _ _ (dec_dg n) (by rw [natV_dec]; exact h), natV_dec]
theorem pIB_itoa {z : Int} (h : I64 z) : Lib.parseIntB 64 (Lib.itoa z) = .ok z := by
  unfold I64 at h
  by_cases hz : z < 0
  · rw [itoa_neg hz, Lib.parseIntB]
    rw [if_pos (by right; decide), pUB_dec (by omega)]
    simp only [show (45 : UInt8).toNat = 45 from rfl, not_true_eq_false, false_and, if_false, true_and]
    rw [if_neg (by simp; omega), if_pos trivial]
    congr 1; omega
  · rw [itoa_pos hz]
    cases e : Lib.decDigits z.natAbs with
    | nil => exact absurd e (dec_ne _)
    | cons c r =>
      have hc := dgB_t.1 (dec_dg z.natAbs c (by rw [e]; simp))
      rw [Lib.parseIntB]
      rw [if_neg (by omega), ← e, pUB_dec (by omega)]
      have h45 : ¬ c.toNat = 45 := by omega
      simp only [h45, not_false_eq_true, true_and, false_and, if_false]
      rw [if_neg (by simp; omega)]
      congr 1; omega
theorem pUM_le : ∀ (l : List UInt8) (a u : Nat), a < 18446744073709551616 → Lib.parseUintM (2 ^ 64 - 1) a l = .ok u → u < 18446744073709551616
  | [], a, u, h, e => by rw [Lib.parseUintM] at e; injection e with e; omega
  | c :: l, a, u, h, e => by
    rw [Lib.parseUintM] at e
    split at e
    · split at e
      · cases e
      · split at e
        · cases e
        · exact pUM_le l _ u (by simp at *; omega) e
    · cases e
theorem pIB_range {l : List UInt8} {z : Int} (h : Lib.parseIntB 64 l = .ok z) : I64 z := by
  unfold I64
  unfold Lib.parseIntB at h
  split at h
  · cases h
  · rename_i c r
    simp only at h
    split at h
    · cases h
    · cases h
    · rename_i u _
      split at h
      · cases h
      · split at h
        · cases h
        · rename_i h1 h2
          injection h with h
          simp at h1 h2
          by_cases h45 : c.toNat = 45
          · rw [if_pos h45] at h; have := h2 h45; omega
          · rw [if_neg h45] at h; have := h1 h45; omega
theorem num_of {l : List UInt8} {z : Int} (h : Lib.parseIntB 64 l = .ok z) : (Lib.itoa z = l ∧ numO l = some z) ∨ (Lib.itoa z ≠ l ∧ numO l = none) := by
  by_cases e : Lib.itoa z = l
  · exact .inl ⟨e, (num_iff _ _).2 ⟨pIB_range h, e.symm⟩⟩
  · refine .inr ⟨e, num_none fun y hy k => e ?_⟩
    subst k
    rw [pIB_itoa hy] at h
    injection h with h
    rw [h]
theorem num_bad {l : List UInt8} (h : ∀ z, Lib.parseIntB 64 l ≠ .ok z) : numO l = none := num_none fun y hy k => h y (by rw [k]; exact pIB_itoa hy)

theorem fmt_is (n : Int) (h : I64 n) (t : ByteArray) (ht : t.data.toList = Lib.itoa n) (w : World) (hT : TAB w) :
    Calls Tryz.prog 48 #[.int .i64 n, .int .i64 10] w fun e w' => e = .returned (.string t) ∧ Below w.heap.size w w' := by
  refine (Tryz.strconv_FormatInt_10 n h.1 h.2 w (hT w (Below.refl _ w))).mono ?_
  rintro e w' ⟨rfl, k, os, rfl⟩
  have : (⟨(Lib.itoa n).toArray⟩ : ByteArray) = t := str_eq ht.symm
  exact ⟨by rw [this], Lib.below_grow _ _ (Nat.le_refl _) _ _⟩

end Go.Proofs.YtncldnghhpdolaaGreatDoor
