/- Walks over package jtokens: word, str; no statement of the seat is proved here. -/
import Derived.Test.YtjiejpjdbimjkaaJtB
import Derived.Test.YtjiejpjdbimjkaaLib
namespace Go.Proofs.Ytjiejpjdbimjkaa
open Go.RowKit

def words3 : List ByteArray := [⟨#[116, 114, 117, 101]⟩, ⟨#[102, 97, 108, 115, 101]⟩, ⟨#[110, 117, 108, 108]⟩]
def cutL (l : List UInt8) (lo hi : Nat) : List UInt8 := (l.drop lo).take (hi - lo)
def wordM (l : List UInt8) (k : Nat) : Int × Int :=
  if memS words3 (cutL l k (runL isLetter l k)) then (((runL isLetter l k : Nat) : Int), -1) else (0, (k : Int))

set_option maxHeartbeats 400000 in
theorem word_any (A : Option Addr) (l : List UInt8) (c : Nat) (hc : l.length ≤ c) (k : Nat) (hk : k < l.length) (hl : l.length ≤ 4611686018427387904) (w : World) (hB : BS w w.heap.size A l) :
    Calls Try.prog 30 #[.slice A l.length c, .int .i64 k] w fun e w' => e = .returned (.tuple #[.int .i64 (wordM l k).1, .int .i64 (wordM l k).2]) ∧ Below w.heap.size w w' := by
  have HB := Lib.hid hB; clear hB
  obtain ⟨t, ht⟩ : ∃ t, Hid (t = runL isLetter l k) := ⟨_, rfl⟩
  have hb := runL_le isLetter l k (by omega)
  rw [← ht.out] at hb
  have hsl := fun w => run_slice_cut (P := Try.prog) 22 5 Try.underlying22 (fun w => by kernel_rfl) A l.length c k t hb.1 (by omega) w
  have hcv : ∀ w' o, Below w.heap.size w w' → (convert 22 9 (.slice (cutA A c k) (t - k) (c - k))).run Try.prog (w'.alloc o) = .ok (.string ⟨(cutL l k t).toArray⟩) (w'.alloc o) := fun w' o hbw => by
    have h1 := (HB.out.below (hbw.alloc hbw.size o)).cut (cap := c) hb.1 hb.2 hc
    have h2 := conv_bs (P := Try.prog) (w'.alloc o) 22 9 5 Try.underlying22 Try.underlying5 Try.underlying9 h1 (c - k)
    rwa [cut_length hb.2] at h2
  have HCV := Lib.hid hcv; clear hcv
  go_enter Try.func30, Try.ntmps30
  go_wp2_with (first | (go_at_call 25; refine (run_any _ _ letter_enters letter_tells _ _ _ rfl _ _ (by omega) hl _ HB.out).mono ?_; rw [Int.toNat_natCast, ← ht.out]; rintro e w1 ⟨rfl, hb1⟩; have hcv := fun o => HCV.out w1 o hb1) | (go_at_call 37; refine (scontains_any _ words3 _ _ (by simp [words3]) _ (SS.made w1 words3 _ _)).mono ?_; rintro e w2 ⟨rfl, rfl⟩))
  · have hm : (!memS words3 (cutL l k t)) = true := by assumption
    have e : wordM l k = (0, (k : Int)) := by rw [wordM, ← ht.out, if_neg (by simpa using hm)]
    go_ret2
    rw [e]
    exact ⟨rfl, hb1.alloc hb1.size _⟩
  · have hm : (!memS words3 (cutL l k t)) = false := by assumption
    have e : wordM l k = ((t : Int), -1) := by rw [wordM, ← ht.out, if_pos (by simpa using hm)]
    go_ret2
    rw [e]
    exact ⟨rfl, hb1.alloc hb1.size _⟩

/-- A string from behind its first mark on: a place in it to where it ends, and what is wrong. -/
def strM (l : List UInt8) (k : Nat) : Int × Int :=
  if h : k < l.length then
    if ((l[k].toNat : Int) == 34) = true then ((k : Int) + 1, -1)
    else if (l[k].toNat : Int) < 32 then (0, (k : Int))
    else if ((l[k].toNat : Int) != 92) = true then strM l (k + 1)
    else if isAt l (k + 1) [34, 92, 47, 98, 102, 110, 114, 116] then strM l (k + 2)
    else if (!isAt l (k + 1) [117]) = true then (0, (k : Int) + 1)
    else if runL isHex (l.take (k + 6)) (k + 1 + 1) < k + 6 then (0, ((runL isHex (l.take (k + 6)) (k + 1 + 1) : Nat) : Int))
    else strM l (k + 6)
  else (0, (l.length : Int))
termination_by l.length - k

theorem isAt_bd {l : List UInt8} {k : Nat} {s : List UInt8} (h : isAt l k s = true) : k < l.length := isAt_at h
section
variable {l : List UInt8} {j : Nat} (h : j < l.length)
include h
theorem strM_end (h1 : ((l[j].toNat : Int) == 34) = true) : strM l j = ((j : Int) + 1, -1) := by rw [strM, dif_pos h, if_pos h1]
theorem strM_low (h1 : ((l[j].toNat : Int) == 34) = false) (h2 : (l[j].toNat : Int) < 32) : strM l j = (0, (j : Int)) := by rw [strM, dif_pos h, if_neg (by simp [h1]), if_pos h2]
theorem strM_on (h1 : ((l[j].toNat : Int) == 34) = false) (h2 : 32 ≤ (l[j].toNat : Int)) (h3 : ((l[j].toNat : Int) != 92) = true) : strM l j = strM l (j + 1) := by
  rw [strM, dif_pos h, if_neg (by simp [h1]), if_neg (by omega), if_pos h3]
theorem strM_esc (h1 : ((l[j].toNat : Int) == 34) = false) (h2 : 32 ≤ (l[j].toNat : Int)) (h3 : ((l[j].toNat : Int) != 92) = false) (h4 : isAt l (j + 1) [34, 92, 47, 98, 102, 110, 114, 116] = true) : strM l j = strM l (j + 2) := by
  rw [strM, dif_pos h, if_neg (by simp [h1]), if_neg (by omega), if_neg (by simp [h3]), if_pos h4]
theorem strM_nou (h1 : ((l[j].toNat : Int) == 34) = false) (h2 : 32 ≤ (l[j].toNat : Int)) (h3 : ((l[j].toNat : Int) != 92) = false) (h4 : isAt l (j + 1) [34, 92, 47, 98, 102, 110, 114, 116] = false) (h5 : (!isAt l (j + 1) [117]) = true) : strM l j = (0, (j : Int) + 1) := by
  rw [strM, dif_pos h, if_neg (by simp [h1]), if_neg (by omega), if_neg (by simp [h3]), if_neg (by simp [h4]), if_pos h5]
theorem strM_hex (h1 : ((l[j].toNat : Int) == 34) = false) (h2 : 32 ≤ (l[j].toNat : Int)) (h3 : ((l[j].toNat : Int) != 92) = false) (h4 : isAt l (j + 1) [34, 92, 47, 98, 102, 110, 114, 116] = false) (h5 : (!isAt l (j + 1) [117]) = false)
    (h6 : ((runL isHex (l.take (j + 6)) (j + 1 + 1) : Nat) : Int) < (j : Int) + 1 + 1 + 4) : strM l j = (0, ((runL isHex (l.take (j + 6)) (j + 1 + 1) : Nat) : Int)) := by
  rw [strM, dif_pos h, if_neg (by simp [h1]), if_neg (by omega), if_neg (by simp [h3]), if_neg (by simp [h4]), if_neg (by simp [h5]), if_pos (by omega)]
theorem strM_u (h1 : ((l[j].toNat : Int) == 34) = false) (h2 : 32 ≤ (l[j].toNat : Int)) (h3 : ((l[j].toNat : Int) != 92) = false) (h4 : isAt l (j + 1) [34, 92, 47, 98, 102, 110, 114, 116] = false) (h5 : (!isAt l (j + 1) [117]) = false)
    (h6 : (j : Int) + 1 + 1 + 4 ≤ ((runL isHex (l.take (j + 6)) (j + 1 + 1) : Nat) : Int)) : strM l j = strM l (j + 6) := by
  rw [strM, dif_pos h, if_neg (by simp [h1]), if_neg (by omega), if_neg (by simp [h3]), if_neg (by simp [h4]), if_neg (by simp [h5]), if_neg (by omega)]
end
theorem strM_out {l : List UInt8} {j : Nat} (h : ¬ j < l.length) : strM l j = (0, (l.length : Int)) := by rw [strM, dif_neg h]
theorem ret_pair {x : Int × Int} {a b : Int} (h : x = (a, b)) : Ending.returned (.tuple #[.int .i64 a, .int .i64 b]) = .returned (.tuple #[.int .i64 x.1, .int .i64 x.2]) := by rw [h]

set_option maxHeartbeats 1000000 in
theorem str_any (A : Option Addr) (l : List UInt8) (c : Nat) (hc : l.length ≤ c) (k : Nat) (hk : k < l.length) (hl : l.length ≤ 4611686018427387904) (w : World) (hB : BS w w.heap.size A l) :
    Calls Try.prog 35 #[.slice A l.length c, .int .i64 k] w fun e w' => e = .returned (.tuple #[.int .i64 (strM l (k + 1)).1, .int .i64 (strM l (k + 1)).2]) ∧ Below w.heap.size w w' := by
  have HB := Lib.hid hB; clear hB
  obtain ⟨R, hR⟩ : ∃ R, Hid (R = strM l (k + 1)) := ⟨_, rfl⟩
  rw [← hR.out]
  go_enter Try.func35, Try.ntmps35
  go_wp2
  go_loopw [1, 4, 5] (fun s1 _ _ wr => ∃ j : Nat, s1 = .int .i64 j ∧ j ≤ l.length ∧ Hid (strM l j = R) ∧ Below w.heap.size w wr) (fun s1 _ _ _ => l.length - (intOf s1).toNat)
  case atStart => exact ⟨k + 1, by go_num, by omega, hR.out.symm, Below.refl _ _⟩
  case round =>
    obtain ⟨j, rfl, hj, hr, hbw⟩ := hrel
    by_cases hlt : j < l.length
    · obtain ⟨a, rfl, ha, hc⟩ := (HB.out.below hbw) j hlt
      have e1 : ((j : Int) + 1).toNat = j + 1 := by omega
      have e2 : ((j : Int) + 1 + 1).toNat = j + 1 + 1 := by omega
      go_wp2_with (first | (go_at_call_of 38 (Value.string ⟨#[117]⟩); refine (is_any _ _ _ _ (by omega) _ _ ((HB.out.below hbw).mono hbw.size)).mono ?_; rintro e w2 ⟨rfl, hb2⟩; replace hbw := hbw.trans (hb2.mono hbw.size); clear hb2) | (go_at_call 38; refine (is_any _ _ _ _ (by omega) _ _ ((HB.out.below hbw).mono hbw.size)).mono ?_; rintro e w1 ⟨rfl, hb2⟩; replace hbw := hbw.trans (hb2.mono hbw.size); clear hb2) | (go_at_call 25; have HU := isAt_bd (l := l) (k := j + 1) (s := [117]) (by simpa using ‹(!isAt l (j + 1) [117]) = false›); refine (run_any _ _ base16_enters base16_tells _ (l.take (j + 6)) _ (by simp; omega) _ _ (by omega) (by simp; omega) _ (((HB.out.below hbw).mono hbw.size).take _)).mono ?_; rintro e w3 ⟨rfl, hb2⟩; replace hbw := hbw.trans (hb2.mono hbw.size); clear hb2; have hbd := runL_le isHex (l.take (j + 6)) (j + 1 + 1)))
      · go_ret2
        exact ⟨ret_pair (hr.out.symm.trans (strM_end hlt ‹_›)), hbw⟩
      · go_ret2
        exact ⟨ret_pair (hr.out.symm.trans (strM_low hlt ‹_› ‹_›)), hbw⟩
      · go_round
        case rel => exact ⟨j + 1, by go_num, by omega, (strM_on hlt ‹_› ‹_› ‹_›).symm.trans hr.out, hbw⟩
        case measure => simp [intOf]; omega
      · have HU := isAt_bd (l := l) (k := j + 1) (s := [34, 92, 47, 98, 102, 110, 114, 116]) ‹_›
        go_round
        case rel => exact ⟨j + 2, by go_num, by omega, (strM_esc hlt ‹_› ‹_› ‹_› ‹_›).symm.trans hr.out, hbw⟩
        case measure => simp [intOf]; omega
      · go_ret2
        exact ⟨ret_pair (hr.out.symm.trans (strM_nou hlt ‹_› ‹_› ‹_› ‹_› ‹_›)), hbw⟩
      · go_ret2
        exact ⟨ret_pair (hr.out.symm.trans (strM_hex hlt ‹_› ‹_› ‹_› ‹_› ‹_› ‹_›)), hbw⟩
      · go_round
        case rel => exact ⟨j + 6, by go_num, by simp at hbd; omega, (strM_u hlt ‹_› ‹_› ‹_› ‹_› ‹_› ‹_›).symm.trans hr.out, hbw⟩
        case measure => simp [intOf]; omega
    · go_wp2
      go_ret2
      exact ⟨ret_pair (hr.out.symm.trans (strM_out hlt)), hbw⟩

end Go.Proofs.Ytjiejpjdbimjkaa
