/- Walks over chapter 07's reference: date, clock, zone, form; no statement of the seat is proved here. -/
import Derived.Test.YtnoghelkcbjfiaaGreatDoorDtR
namespace Go.Proofs.YtnoghelkcbjfiaaGreatDoor
open Go.RowKit

theorem two_G {w0 : World} (s : ByteArray) (hs : s.size ≤ 1099511627776) (i : Int) (h0 : 0 ≤ i) (h1 : i ≤ 2199023255552) {w : World} (hb : Below w0.heap.size w0 w) :
    Calls Tryz.prog 32 #[.string s, .int .i64 i] w fun e w' => e = .returned (.int .i64 (twoZ s.data.toList i.toNat)) ∧ Below w0.heap.size w0 w' :=
  (two_is s hs i h0 h1 w).mono fun _ _ ⟨h, hb'⟩ => ⟨h, hb.trans (hb'.mono hb.size)⟩

theorem ris_c (s : ByteArray) (hs : s.size ≤ 1099511627776) (i : Int) (h0 : 0 ≤ i) (c : Int) (n : Nat) (hc : c = (n : Int)) (hn : n < 256) (w : World) :
    Calls Tryz.prog 30 #[.string s, .int .i64 i, .int .u8 c] w fun e w' => e = .returned (.bool (decide (bt s.data.toList i.toNat = n))) ∧ w = w' := by
  have h := ris_is s hs i h0 (UInt8.ofNat n) w
  have e : (UInt8.ofNat n).toNat = n := by simp; omega
  rw [e, ← hc] at h
  exact h

theorem twoZ_neg {l : List UInt8} {i : Nat} : twoZ l i < 0 ↔ tw l i = false := by
  have := twoZ_lt (l := l) (i := i)
  cases h : tw l i
  · rw [h] at this; simpa using this
  · rw [h] at this; simpa using this
theorem twoZ_ge {l : List UInt8} {i : Nat} : 0 ≤ twoZ l i ↔ tw l i = true := by
  have := twoZ_neg (l := l) (i := i)
  cases h : tw l i
  · rw [h] at this; have := this.2 rfl; simp; omega
  · rw [h] at this; simp at this; simp [this]

set_option maxHeartbeats 1000000 in
theorem date_is (s : ByteArray) (hs : s.size ≤ 1099511627776) (k : Nat) (hk : k ≤ 1099511627776) (w : World) :
    Calls Tryz.prog 28 #[.string s, .int .i64 (k : Int)] w fun e w' => e = .returned (.int .i64 (dateZ s.data.toList k)) ∧ Below w.heap.size w w' := by
  have hB := Below.refl w.heap.size w
  go_enter Tryz.func28, Tryz.ntmps28
  go_wp2_with (first
    | (go_at_call 32; (with_reducible refine (two_G s hs _ (by omega) (by omega) ‹Below w.heap.size w _›).mono ?_); rintro e w' ⟨rfl, hb'⟩)
    | (go_at_call 30; (with_reducible refine (ris_c s hs _ (by omega) 45 45 (by omega) (by omega) _).mono ?_); rintro e w' ⟨rfl, rfl⟩))
  all_goals (
    go_ret
    refine ⟨ret_int ?_, ‹Below w.heap.size w _›⟩
    try simp only [twoZ_ge, twoZ_neg] at *
    simp_all [dateZ, isD])

set_option maxHeartbeats 1000000 in
theorem rzone_is (s : ByteArray) (hs : s.size ≤ 1099511627776) (i : Int) (h0 : 0 ≤ i) (h1 : i ≤ 1099511627776) (w : World) :
    Calls Tryz.prog 31 #[.string s, .int .i64 i] w fun e w' => e = .returned (.int .i64 (zoneZ s.data.toList i.toNat)) ∧ Below w.heap.size w w' := by
  obtain ⟨k, rfl⟩ : ∃ k : Nat, i = k := ⟨i.toNat, by omega⟩
  rw [Int.toNat_natCast]
  have hB := Below.refl w.heap.size w
  go_enter Tryz.func31, Tryz.ntmps31
  go_wp2_with (first
    | (go_at_call 32; (with_reducible refine (two_G s hs _ (by omega) (by omega) ‹Below w.heap.size w _›).mono ?_); rintro e w' ⟨rfl, hb'⟩)
    | (go_at_call 30; (first
      | (with_reducible refine (ris_c s hs _ (by omega) 90 90 (by omega) (by omega) _).mono ?_)
      | (with_reducible refine (ris_c s hs _ (by omega) 122 122 (by omega) (by omega) _).mono ?_)
      | (with_reducible refine (ris_c s hs _ (by omega) 43 43 (by omega) (by omega) _).mono ?_)
      | (with_reducible refine (ris_c s hs _ (by omega) 45 45 (by omega) (by omega) _).mono ?_)
      | (with_reducible refine (ris_c s hs _ (by omega) 58 58 (by omega) (by omega) _).mono ?_)); rintro e w' ⟨rfl, rfl⟩))
  all_goals (
    go_ret
    refine ⟨ret_int ?_, ‹Below w.heap.size w _›⟩
    try simp only [twoZ_ge, twoZ_neg] at *
    simp_all [zoneZ, zoneN, isZ])

set_option maxHeartbeats 2000000 in
theorem clock_is (s : ByteArray) (hs : s.size ≤ 1099511627776) (i : Int) (h0 : 0 ≤ i) (h1 : i ≤ 1099511627776) (w : World) :
    Calls Tryz.prog 29 #[.string s, .int .i64 i] w fun e w' => e = .returned (.int .i64 (clockZ s.data.toList i.toNat)) ∧ Below w.heap.size w w' := by
  obtain ⟨k, rfl⟩ : ∃ k : Nat, i = k := ⟨i.toNat, by omega⟩
  rw [Int.toNat_natCast]
  have hB := Below.refl w.heap.size w
  go_enter Tryz.func29, Tryz.ntmps29
  go_wp2_with (first
    | (go_at_call 32; (with_reducible refine (two_G s hs _ (by omega) (by omega) ‹Below w.heap.size w _›).mono ?_); rintro e w' ⟨rfl, hb'⟩)
    | (go_at_call 30; (first
      | (with_reducible refine (ris_c s hs _ (by omega) 46 46 (by omega) (by omega) _).mono ?_)
      | (with_reducible refine (ris_c s hs _ (by omega) 58 58 (by omega) (by omega) _).mono ?_)); rintro e w' ⟨rfl, rfl⟩))
  case isTrue.isTrue =>
    have h8 := ‹bt s.data.toList (k + 8) = 46›
    have hk9 : k + 8 + 1 < s.size := by omega
    have hC : Hid (isC s.data.toList k = true) := by
      show _ = _
      simp only [twoZ_ge] at *
      simp_all [isC]
    have hE : Hid (clockZ s.data.toList k = (k : Int) + 8 + pN (runD s.data.toList (k + 9))) := by
      show _ = _
      rw [clockZ, if_pos hC.out, partN, if_pos h8]
    by_cases hd : dgN s[k + 8 + 1].toNat = true
    · have hR : Hid (clockZ s.data.toList k = (k : Int) + 9 + runD s.data.toList (k + 9)) := by
        have hdg : dg s.data.toList (k + 9) = true := by rw [dg, bt_lt (show k + 9 < s.data.toList.length from hk9)]; exact hd
        have := runD_yes hdg
        show _ = _
        rw [hE.out, pN, if_neg (by omega)]; omega
      have HD := Lib.hid hd; clear hd hE
      refine (numeral_at _ _ HD.out _).mono ?_
      rintro e w' ⟨rfl, rfl⟩
      go_wp2
      go_loop [5] (fun u => ∃ e : Nat, u = .int .i64 e ∧ k + 9 ≤ e ∧ e ≤ s.size ∧ Hid ((e : Int) + runD s.data.toList e = (k : Int) + 9 + runD s.data.toList (k + 9))) (fun u => s.size - (intOf u).toNat)
      case atStart => exact ⟨k + 9, by go_num, by omega, by omega, by show _ = _; omega⟩
      case round =>
        obtain ⟨e, rfl, he1, he2, he⟩ := hrel
        by_cases hlt : e < s.size
        · obtain ⟨b, hb⟩ : ∃ b, Hid (dgN s[e].toNat = b) := ⟨dgN s[e].toNat, rfl⟩
          have hdg : Hid (dg s.data.toList e = b) := by show _ = _; rw [dg, bt_lt (show e < s.data.toList.length from hlt)]; exact hb.out
          cases b
          · go_wp2_with (go_at_call 49; (with_reducible refine (numeral_at _ _ hb.out _).mono ?_); rintro e w' ⟨rfl, rfl⟩)
            go_ret
            refine ⟨ret_int ?_, ‹Below w.heap.size w _›⟩
            have := he.out
            rw [hR.out, ← this, runD_no hdg.out]; simp
          · go_wp2_with (go_at_call 49; (with_reducible refine (numeral_at _ _ hb.out _).mono ?_); rintro e w' ⟨rfl, rfl⟩)
            go_round
            case rel => exact ⟨e + 1, by go_num, by omega, by omega, by have := he.out; have h2 := runD_yes hdg.out; show _ = _; omega⟩
            case measure => simp [intOf]; omega
        · go_wp2
          go_ret
          refine ⟨ret_int ?_, ‹Below w.heap.size w _›⟩
          have := he.out
          rw [hR.out, ← this, runD, List.drop_eq_nil_of_le (by rw [size_list]; omega)]; simp
    · have hR : Hid (clockZ s.data.toList k = (k : Int) + 8) := by
        have hdg : dg s.data.toList (k + 9) = false := by rw [dg, bt_lt (show k + 9 < s.data.toList.length from hk9)]; exact Bool.eq_false_iff.2 hd
        show _ = _
        rw [hE.out, runD_no hdg]; rfl
      have HD : Hid (dgN s[k + 8 + 1].toNat = false) := Bool.eq_false_iff.2 hd
      clear hd hE
      refine (numeral_at _ _ HD.out _).mono ?_
      rintro e w' ⟨rfl, rfl⟩
      go_wp2
      go_ret
      exact ⟨ret_int hR.out.symm, ‹Below w.heap.size w _›⟩
  all_goals (
    go_ret
    refine ⟨ret_int ?_, ‹Below w.heap.size w _›⟩
    try simp only [twoZ_ge, twoZ_neg] at *
    try simp_all [clockZ, isC, partN, pN]
    try (rw [runD_ge (by rw [size_list]; omega)]; simp))

end Go.Proofs.YtnoghelkcbjfiaaGreatDoor
