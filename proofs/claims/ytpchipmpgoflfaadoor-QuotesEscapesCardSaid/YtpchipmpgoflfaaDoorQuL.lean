/- Walks over the law's helpers of chapter 03: is, fault, lives; no statement of the seat is proved here. -/
import Derived.Test.YtpchipmpgoflfaaDoorQuE
import Derived.Test.YtpchipmpgoflfaaDoorQuW
namespace Go.Proofs.YtpchipmpgoflfaaDoor
open Go.RowKit

theorem ex1 : readQ [34, 97, 92, 117, 48, 48, 101, 57, 92, 110, 34] = ([97, 195, 169, 10], 0, 0) := by
  simp [readQ, bt, rdQ, escL, runeL, unitL, uRest, dgs, hx, hexD, shortFrom, shortT, putL, Lib.encodeRune, Lib.encodeRuneZ]
theorem ex2 : readQ [34, 92, 117, 100, 56, 51, 100, 92, 117, 100, 101, 48, 48, 34] = ([240, 159, 152, 128], 0, 0) := by
  simp [readQ, bt, rdQ, escL, runeL, unitL, uRest, dgs, hx, hexD, shortFrom, shortT, putL, Lib.encodeRune, Lib.encodeRuneZ]
theorem ex3 : readQ [34, 120, 92, 117, 100, 56, 51, 100, 34] = ([], 6, 2) := by
  simp [readQ, bt, rdQ, escL, runeL, unitL, uRest, dgs, hx, hexD, shortFrom, shortT]
theorem ex4 : readQ [34, 97] = ([], 3, 2) := by
  simp [readQ, bt, rdQ]
theorem ex5 : readQ [34, 92, 120, 34] = ([], 3, 2) := by
  simp [readQ, bt, rdQ, escL, runeL, unitL, uRest, shortFrom, shortT]
theorem ex6 : writeQ [1] = [34, 92, 117, 48, 48, 48, 49, 34] := by
  simp [writeQ, wrB, letterB, lettFrom, shortT, hexc]

theorem qread_at (s : ByteArray) (hs : s.size ≤ 16777216) (t : List UInt8) (co fa : Int) (h : readQ s.data.toList = (t, co, fa)) (w : World) (hG : Glob w) :
    Calls Tryd.prog 9 #[.string s] w fun e w' => e = .returned (.tuple #[.string ⟨t.toArray⟩, .agg #[.int .i64 co, .int .i64 fa]]) ∧ Below w.heap.size w w' := by
  have := qread_any s hs w hG
  rw [h] at this
  exact this
theorem str_eq_t {a : ByteArray} {l : List UInt8} (h : a.data.toList = l) : ((⟨l.toArray⟩ : ByteArray).toList == a.toList) = true := by
  rw [ByteArray.toList_eq, ByteArray.toList_eq, h]; simp
theorem str_eq_f {a : ByteArray} {l : List UInt8} (h : a.data.toList ≠ l) : ((⟨l.toArray⟩ : ByteArray).toList == a.toList) = false := by
  rw [ByteArray.toList_eq, ByteArray.toList_eq]; simpa using fun e => h e.symm

set_option maxHeartbeats 1000000 in
theorem is_any (s : ByteArray) (hs : s.size ≤ 16777216) (want : ByteArray) (w : World) (hG : Glob w) :
    Calls Tryd.prog 13 #[.string s, .string want] w fun e w' => e = .returned (.bool (decide (readQ s.data.toList = (want.data.toList, 0, 0)))) ∧ Below w.heap.size w w' := by
  obtain ⟨t, co, fa, hR⟩ : ∃ t co fa, Hid (readQ s.data.toList = (t, co, fa)) := ⟨(readQ s.data.toList).1, (readQ s.data.toList).2.1, (readQ s.data.toList).2.2, rfl⟩
  have hd : decide (readQ s.data.toList = (want.data.toList, 0, 0)) = (((⟨t.toArray⟩ : ByteArray).toList == want.toList) && ((co == 0) && (fa == 0))) := by
    rw [hR.out, Bool.eq_iff_iff]
    by_cases he : want.data.toList = t
    · rw [str_eq_t he]; simp [he]
    · rw [str_eq_f he]; simp; intro e; exact absurd e.symm he
  rw [hd]
  have HG := Lib.hid hG; clear hG hd
  go_enter Tryd.func13, Tryd.ntmps13
  go_wp2_with (go_at_call 9; (with_reducible refine (qread_at s hs t co fa hR.out _ HG.out).mono ?_); rintro e w1 ⟨rfl, hb1⟩)
  all_goals (
    go_ret
    refine ⟨ret_bool ?_, hb1.alloc hb1.size _⟩
    simp [ByteArray.toList_eq] at *
    try simp [*])

set_option maxHeartbeats 1000000 in
theorem fault_any (s : ByteArray) (hs : s.size ≤ 16777216) (c a : Int) (w : World) (hG : Glob w) :
    Calls Tryd.prog 16 #[.string s, .int .i64 c, .int .i64 a] w fun e w' => e = .returned (.bool (decide (readQ s.data.toList = ([], c, a)))) ∧ Below w.heap.size w w' := by
  obtain ⟨t, co, fa, hR⟩ : ∃ t co fa, Hid (readQ s.data.toList = (t, co, fa)) := ⟨(readQ s.data.toList).1, (readQ s.data.toList).2.1, (readQ s.data.toList).2.2, rfl⟩
  have hd : decide (readQ s.data.toList = ([], c, a)) = (((⟨t.toArray⟩ : ByteArray).toList.isEmpty) && ((co == c) && (fa == a))) := by
    rw [hR.out, Bool.eq_iff_iff, ByteArray.toList_eq]
    cases t <;> simp
  rw [hd]
  have HG := Lib.hid hG; clear hG hd
  go_enter Tryd.func16, Tryd.ntmps16
  go_wp2_with (go_at_call 9; (with_reducible refine (qread_at s hs t co fa hR.out _ HG.out).mono ?_); rintro e w1 ⟨rfl, hb1⟩)
  all_goals (
    go_ret
    refine ⟨ret_bool ?_, hb1.alloc hb1.size _⟩
    simp [ByteArray.toList_eq] at *
    try simp [*])

theorem is_t (s : ByteArray) (want : ByteArray) (h : readQ s.data.toList = (want.data.toList, 0, 0)) (hs : s.size ≤ 16777216) (w : World) (hG : Glob w) :
    Calls Tryd.prog 13 #[.string s, .string want] w fun e w' => e = .returned (.bool true) ∧ Below w.heap.size w w' := by
  have := is_any s hs want w hG
  rwa [decide_eq_true h] at this
theorem fault_t (s : ByteArray) (c a : Int) (h : readQ s.data.toList = ([], c, a)) (hs : s.size ≤ 16777216) (w : World) (hG : Glob w) :
    Calls Tryd.prog 16 #[.string s, .int .i64 c, .int .i64 a] w fun e w' => e = .returned (.bool true) ∧ Below w.heap.size w w' := by
  have := fault_any s hs c a w hG
  rwa [decide_eq_true h] at this
theorem qwrite_at (s : ByteArray) (hs : s.size ≤ 16777216) (t : List UInt8) (h : writeQ s.data.toList = t) (w : World) (hG : Glob w) :
    Calls Tryd.prog 11 #[.string s] w fun e w' => e = .returned (.string ⟨t.toArray⟩) ∧ Below w.heap.size w w' := by
  subst h; exact qwrite_any s hs w hG

set_option maxHeartbeats 1000000 in
theorem lives_any (w : World) (hG : Glob w) : Calls Tryd.prog 8 #[] w fun e w' => e = .returned (.bool true) ∧ Below w.heap.size w w' := by
  have HG := Lib.hid hG; clear hG
  go_enter Tryd.func8, Tryd.ntmps8
  go_wp2_with fail
  refine (is_t _ _ ex1 (by decide) _ HG.out).mono ?_
  rintro e w1 ⟨rfl, hb1⟩
  go_wp2_with fail
  refine (is_t _ _ ex2 (by decide) _ (HG.out.keep hb1 (Nat.le_refl _))).mono ?_
  rintro e w2 ⟨rfl, hb2⟩
  have hb12 := hb1.trans (hb2.mono hb1.size)
  go_wp2_with fail
  refine (fault_t _ _ _ ex3 (by decide) _ (HG.out.keep hb12 (Nat.le_refl _))).mono ?_
  rintro e w3 ⟨rfl, hb3⟩
  have hb13 := hb12.trans (hb3.mono hb12.size)
  go_wp2_with fail
  refine (fault_t _ _ _ ex4 (by decide) _ (HG.out.keep hb13 (Nat.le_refl _))).mono ?_
  rintro e w4 ⟨rfl, hb4⟩
  have hb14 := hb13.trans (hb4.mono hb13.size)
  go_wp2_with fail
  refine (fault_t _ _ _ ex5 (by decide) _ (HG.out.keep hb14 (Nat.le_refl _))).mono ?_
  rintro e w5 ⟨rfl, hb5⟩
  have hb15 := hb14.trans (hb5.mono hb14.size)
  go_wp2_with fail
  refine (qwrite_at _ (by decide) _ ex6 _ (HG.out.keep hb15 (Nat.le_refl _))).mono ?_
  rintro e w6 ⟨rfl, hb6⟩
  go_wp2
  go_ret
  exact ⟨rfl, hb15.trans (hb6.mono hb15.size)⟩

end Go.Proofs.YtpchipmpgoflfaaDoor
