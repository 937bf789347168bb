/- Walks over package jtokens: word, num, str; no statement of the seat is proved here. -/
import Derived.Test.YtjiejpjdbimjkaaJtA
namespace Go.Proofs.Ytjiejpjdbimjkaa
open Go.RowKit

theorem letter_enters : Enters 29 := fun args w => enters_of Try.func29 (by kernel_rfl) rfl args w
theorem digit_enters : Enters 32 := fun args w => enters_of Try.func32 (by kernel_rfl) rfl args w
theorem space_enters : Enters 23 := fun args w => enters_of Try.func23 (by kernel_rfl) rfl args w
theorem base16_enters : Enters 39 := fun args w => enters_of Try.func39 (by kernel_rfl) rfl args w

def digAt (l : List UInt8) (k : Nat) : Bool := if h : k < l.length then isDigit l[k] else false
def nk1 (l : List UInt8) (k : Nat) : Nat := if isAt l k [45] then k + 1 else k
def nInt (l : List UInt8) (k : Nat) : Nat := if isAt l k [48] then k + 1 else runL isDigit l k
def nFrac (l : List UInt8) (t : Nat) : Nat := if isAt l t [46] then (if t + 1 < runL isDigit l (t + 1) then runL isDigit l (t + 1) else t) else t
def nSign (l : List UInt8) (f : Nat) : Nat := if isAt l f [43, 45] then f + 1 else f
def nExp (l : List UInt8) (t : Nat) : Nat := if isAt l t [101, 69] then (if nSign l (t + 1) < runL isDigit l (nSign l (t + 1)) then runL isDigit l (nSign l (t + 1)) else t) else t
def numM (l : List UInt8) (k : Nat) : Int × Int := if digAt l (nk1 l k) then (((nExp l (nFrac l (nInt l (nk1 l k))) : Nat) : Int), -1) else (0, ((nk1 l k : Nat) : Int))

theorem isAt_c {l : List UInt8} {k : Nat} (h : k < l.length) (c : UInt8) : isAt l k [c] = (l[k] == c) := by rw [isAt_lt h, Bool.eq_iff_iff]; simp
theorem byte_eq (a b : UInt8) : ((a.toNat : Int) == (b.toNat : Int)) = (a == b) := by
  rw [Bool.eq_iff_iff]; simp only [beq_iff_eq, ← UInt8.toNat_inj]; omega
theorem num_fin {l : List UInt8} {k k1 t1 t2 : Nat} (h1 : Hid (k1 = nk1 l k)) (hlt : k1 < l.length) (hd : isDigit l[k1] = true) (ht1 : Hid (t1 = nInt l k1)) (ht2 : Hid (t2 = nFrac l t1)) {r : Nat} (h : r = nExp l t2) :
    Ending.returned (.tuple #[.int .i64 (r : Int), .int .i64 (-1)]) = .returned (.tuple #[.int .i64 (numM l k).1, .int .i64 (numM l k).2]) := by
  have e : numM l k = ((r : Int), -1) := by
    rw [numM, if_pos (by rw [← h1.out]; simp [digAt, hlt, hd]), ← h1.out, ← ht1.out, ← ht2.out, h]
  rw [e]
theorem nFrac_no {l : List UInt8} {t : Nat} (h : (!isAt l t [46]) = true) : nFrac l t = t := by rw [nFrac, if_neg (by simpa using h)]
theorem nFrac_up {l : List UInt8} {t : Nat} (h : (!isAt l t [46]) = false) (h2 : (t : Int) + 1 < (runL isDigit l (t + 1) : Nat)) : nFrac l t = runL isDigit l (t + 1) := by
  rw [nFrac, if_pos (by simpa using h), if_pos (by omega)]
theorem nFrac_st {l : List UInt8} {t : Nat} (h : (!isAt l t [46]) = false) (h2 : ((runL isDigit l (t + 1) : Nat) : Int) ≤ (t : Int) + 1) : nFrac l t = t := by
  rw [nFrac, if_pos (by simpa using h), if_neg (by omega)]
theorem nExp_no {l : List UInt8} {t : Nat} (h : (!isAt l t [101, 69]) = true) : t = nExp l t := by rw [nExp, if_neg (by simpa using h)]
theorem nSign_s {l : List UInt8} {t : Nat} (h : isAt l (t + 1) [43, 45] = true) : nSign l (t + 1) = t + 1 + 1 := by rw [nSign, if_pos h]
theorem nSign_n {l : List UInt8} {t : Nat} (h : isAt l (t + 1) [43, 45] = false) : nSign l (t + 1) = t + 1 := by rw [nSign, if_neg (by simp [h])]
theorem nExp_up {l : List UInt8} {t f : Nat} (h : (!isAt l t [101, 69]) = false) (hf : nSign l (t + 1) = f) (h2 : (f : Int) < (runL isDigit l f : Nat)) : runL isDigit l f = nExp l t := by
  rw [nExp, if_pos (by simpa using h), hf, if_pos (by omega)]
theorem nExp_st {l : List UInt8} {t f : Nat} (h : (!isAt l t [101, 69]) = false) (hf : nSign l (t + 1) = f) (h2 : ((runL isDigit l f : Nat) : Int) ≤ f) : t = nExp l t := by
  rw [nExp, if_pos (by simpa using h), hf, if_neg (by omega)]
theorem nInt_one {l : List UInt8} {k : Nat} (h : k < l.length) (hc : ((l[k].toNat : Int) != 48) = false) : nInt l k = k + 1 := by
  have : (l[k] == 48) = true := by rw [← byte_eq]; simpa [bne] using hc
  rw [nInt, isAt_c h, if_pos this]
theorem nInt_run {l : List UInt8} {k : Nat} (h : k < l.length) (hc : ((l[k].toNat : Int) != 48) = true) : nInt l k = runL isDigit l k := by
  have : (l[k] == 48) = false := by rw [← byte_eq]; simpa [bne] using hc
  rw [nInt, isAt_c h, if_neg (by simp [this])]

theorem runL_bd (p : UInt8 → Bool) (l : List UInt8) (k : Nat) : runL p l k ≤ l.length ∨ runL p l k = k := by
  by_cases h : k ≤ l.length
  · exact .inl (runL_le p l k h).2
  · exact .inr (runL_end (by omega))

set_option maxHeartbeats 1000000 in
theorem num_any (A : Option Addr) (l : List UInt8) (c : Nat) (k : Nat) (hk : k < l.length) (hl : l.length ≤ 4611686018427387904) (w : World) (hB : BS w w.heap.size A l) :
    Calls Try.prog 33 #[.slice A l.length c, .int .i64 k] w fun e w' => e = .returned (.tuple #[.int .i64 (numM l k).1, .int .i64 (numM l k).2]) ∧ Below w.heap.size w w' := by
  have HB := Lib.hid hB; clear hB
  go_enter Try.func33, Try.ntmps33
  go_wp2_with fail
  refine wp_scope_fwd 0 rfl ?_
  go_upto_if 11 with (go_at_call 38; refine (is_any _ _ _ _ (by omega) _ _ HB.out).mono ?_; rintro e w1 ⟨rfl, hb1⟩)
  go_cut [1] from 9 (fun s1 w' => ∃ k1 : Nat, s1 = .int .i64 k1 ∧ Hid (k1 = nk1 l k) ∧ k1 ≤ l.length ∧ Below w.heap.size w w')
  case first =>
    go_wp2
    · go_meet
      case rel => exact ⟨k+1, by go_num, by simp_all [Hid, nk1], by omega, hb1⟩
    · go_meet
      case rel => exact ⟨k, rfl, by simp_all [Hid, nk1], by omega, hb1⟩
  case rest =>
    obtain ⟨k1, rfl, hk1, hle, hbw⟩ := hcut
    by_cases hlt : k1 < l.length
    · obtain ⟨a, rfl, ha, hc⟩ := (HB.out.below hbw) k1 hlt
      have HC := Lib.hid hk1; clear hk1
      go_upto_if 33 with (go_at_call 32; refine (digit_tells _ _).mono ?_; rintro e w2 ⟨rfl, hb2⟩; replace hc := cell_later hb2 hc; replace hbw := hbw.trans (hb2.mono hbw.size); clear hb2)
      · go_wp2
        rename_i hno
        rw [jump_ret]
        go_ret2
        refine ⟨ret_two ?_ ?_, hbw⟩
        · have : isDigit l[k1] = false := by
            rcases hno with h | h
            · simp at h; omega
            · simpa using h
          simp [numM, digAt, ← HC.out.out, hlt, this]
        · have : isDigit l[k1] = false := by
            rcases hno with h | h
            · simp at h; omega
            · simpa using h
          simp [numM, digAt, ← HC.out.out, hlt, this]
      · have hd : Hid (isDigit l[k1] = true) := by
          have h : ((k1 : Int) == (l.length : Int)) = false ∧ (!isDigit l[k1]) = false := by assumption
          have h2 := h.2
          show isDigit l[k1] = true
          simpa using h2
        go_cut [4] from 9 (fun s4 w' => ∃ t : Nat, s4 = .int .i64 t ∧ Hid (t = nInt l k1) ∧ t ≤ l.length ∧ Below w.heap.size w w')
        case first =>
          go_wp2_with (go_at_call 25; refine (run_any _ _ digit_enters digit_tells _ _ _ rfl _ _ (by omega) hl _ ((HB.out.below hbw).mono hbw.size)).mono ?_; rintro e w3 ⟨rfl, hb3⟩)
          · go_meet
            case rel => exact ⟨_, by simp, (nInt_run hlt ‹_›).symm, (runL_le _ _ _ (by omega)).2, hbw.trans (hb3.mono hbw.size)⟩
          · go_meet
            case rel => exact ⟨k1 + 1, by go_num, (nInt_one hlt ‹_›).symm, by omega, hbw⟩
        case rest =>
          obtain ⟨t1, rfl, ht1, hle1, hbw1⟩ := hcut
          clear hc hbw
          go_wp2_with (go_at_call 38; refine (is_any _ _ _ _ (by omega) _ _ ((HB.out.below hbw1).mono hbw1.size)).mono ?_; rintro e w2 ⟨rfl, hb2⟩; replace hbw1 := hbw1.trans (hb2.mono hbw1.size); clear hb2)
          · -- no point: goto
            have ht2 : Hid (t1 = nFrac l t1) := (nFrac_no ‹_›).symm
            have e1 : ((t1 : Int) + 1).toNat = t1 + 1 := by omega
            have e2 : ((t1 : Int) + 1 + 1).toNat = t1 + 1 + 1 := by omega
            go_step3
            refine And.intro rfl ?_
            go_wp2_with (first | (go_at_call 38; refine (is_any _ _ _ _ (by omega) _ _ ((HB.out.below hbw1).mono hbw1.size)).mono ?_; rintro e w2 ⟨rfl, hb2⟩; replace hbw1 := hbw1.trans (hb2.mono hbw1.size); clear hb2) | (go_at_call 25; refine (run_any _ _ digit_enters digit_tells _ _ _ rfl _ _ (by omega) hl _ ((HB.out.below hbw1).mono hbw1.size)).mono ?_; rintro e w3 ⟨rfl, hb3⟩; replace hbw1 := hbw1.trans (hb3.mono hbw1.size); clear hb3))
            · rw [Exit.noGoto_ret]
              go_ret2
              exact ⟨num_fin HC.out hlt hd.out ht1 ht2 (nExp_no ‹_›), hbw1⟩
            · rw [Exit.noGoto_ret]
              go_ret2
              exact ⟨num_fin HC.out hlt hd.out ht1 ht2 (nExp_up ‹_› (nSign_s ‹_›) (by omega)), hbw1⟩
            · rw [Exit.noGoto_ret]
              go_ret2
              exact ⟨num_fin HC.out hlt hd.out ht1 ht2 (nExp_st ‹_› (nSign_s ‹_›) (by omega)), hbw1⟩
            · rw [Exit.noGoto_ret]
              go_ret2
              exact ⟨num_fin HC.out hlt hd.out ht1 ht2 (nExp_up ‹_› (nSign_n ‹_›) (by omega)), hbw1⟩
            · rw [Exit.noGoto_ret]
              go_ret2
              exact ⟨num_fin HC.out hlt hd.out ht1 ht2 (nExp_st ‹_› (nSign_n ‹_›) (by omega)), hbw1⟩
          · have HP : Hid ((!isAt l t1 [46]) = false) := ‹(!isAt l t1 [46]) = false›
            go_upto_if 48 with (go_at_call 25; refine (run_any _ _ digit_enters digit_tells _ _ _ rfl _ _ (by omega) hl _ ((HB.out.below hbw1).mono hbw1.size)).mono ?_; rintro e w3 ⟨rfl, hb3⟩; replace hbw1 := hbw1.trans (hb3.mono hbw1.size); clear hb3)
            have HL := isAt_at (l := l) (k := t1) (s := [46]) (by simpa using HP.out)
            go_cut [4] from 9 (fun s4 w' => ∃ t : Nat, s4 = .int .i64 t ∧ Hid (t = nFrac l t1) ∧ t ≤ l.length ∧ Below w.heap.size w w')
            case first =>
              go_wp2
              · go_meet
                case rel => exact ⟨_, rfl, (nFrac_up HP.out (by omega)).symm, (runL_le _ _ _ (by omega)).2, hbw1⟩
              · go_meet
                case rel => exact ⟨_, rfl, (nFrac_st HP.out (by omega)).symm, by omega, hbw1⟩
            case rest =>
              obtain ⟨t2, rfl, ht2, hle2, hbw2⟩ := hcut
              have e1 : ((t2 : Int) + 1).toNat = t2 + 1 := by omega
              have e2 : ((t2 : Int) + 1 + 1).toNat = t2 + 1 + 1 := by omega
              go_wp2_with fail
              go_step3
              go_wp2_with (first | (go_at_call 38; refine (is_any _ _ _ _ (by omega) _ _ ((HB.out.below hbw2).mono hbw2.size)).mono ?_; rintro e w2 ⟨rfl, hb2⟩; replace hbw2 := hbw2.trans (hb2.mono hbw2.size); clear hb2) | (go_at_call 25; refine (run_any _ _ digit_enters digit_tells _ _ _ rfl _ _ (by omega) hl _ ((HB.out.below hbw2).mono hbw2.size)).mono ?_; rintro e w3 ⟨rfl, hb3⟩; replace hbw2 := hbw2.trans (hb3.mono hbw2.size); clear hb3))
              · rw [jump_ret]
                go_ret2
                exact ⟨num_fin HC.out hlt hd.out ht1 ht2 (nExp_no ‹_›), hbw2⟩
              · rw [jump_ret]
                go_ret2
                exact ⟨num_fin HC.out hlt hd.out ht1 ht2 (nExp_up ‹_› (nSign_s ‹_›) (by omega)), hbw2⟩
              · rw [jump_ret]
                go_ret2
                exact ⟨num_fin HC.out hlt hd.out ht1 ht2 (nExp_st ‹_› (nSign_s ‹_›) (by omega)), hbw2⟩
              · rw [jump_ret]
                go_ret2
                exact ⟨num_fin HC.out hlt hd.out ht1 ht2 (nExp_up ‹_› (nSign_n ‹_›) (by omega)), hbw2⟩
              · rw [jump_ret]
                go_ret2
                exact ⟨num_fin HC.out hlt hd.out ht1 ht2 (nExp_st ‹_› (nSign_n ‹_›) (by omega)), hbw2⟩
    · go_wp2
      rw [jump_ret]
      go_ret2
      refine ⟨ret_two ?_ ?_, hbw⟩
      · simp [numM, digAt, ← hk1.out, hlt]
      · simp [numM, digAt, ← hk1.out, hlt]
        omega

end Go.Proofs.Ytjiejpjdbimjkaa
