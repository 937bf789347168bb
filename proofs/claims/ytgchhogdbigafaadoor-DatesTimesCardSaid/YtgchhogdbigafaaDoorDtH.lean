/- Walks over the law's helpers of chapter 07: is, fails, lives; no statement of the seat is proved here. -/
import Derived.Test.YtgchhogdbigafaaDoorDtG
namespace Go.Proofs.YtgchhogdbigafaaDoor
open Go.RowKit

theorem ex1 : readD [49, 57, 55, 57, 45, 48, 53, 45, 50, 55, 32, 48, 55, 58, 51, 50, 58, 48, 48, 46, 53, 48, 48, 122] = ([49, 57, 55, 57, 45, 48, 53, 45, 50, 55, 84, 48, 55, 58, 51, 50, 58, 48, 48, 46, 53, 90], 0) := by decide +kernel
theorem ex2 : readD [50, 48, 48, 48, 45, 48, 50, 45, 50, 57] = ([50, 48, 48, 48, 45, 48, 50, 45, 50, 57], 0) := by decide +kernel
theorem ex3 : readD [49, 57, 48, 48, 45, 48, 50, 45, 50, 57] = ([], 9) := by decide +kernel
theorem ex4 : readD [50, 52, 58, 48, 48, 58, 48, 48] = ([], 9) := by decide +kernel
theorem ex5 : readD [55, 58, 51, 50, 58, 48, 48] = ([], 3) := by decide +kernel
theorem ex6 : ofD [48, 55, 58, 51, 50, 58, 48, 48] = 2 := by decide +kernel
theorem ex7 : (spl [49, 57, 55, 57, 45, 48, 53, 45, 50, 55, 32, 35, 32, 120]).long = 10 := by decide +kernel

theorem beq_str {a b : ByteArray} (h : a.data.toList ≠ b.data.toList) : (a.toList == b.toList) = false := by
  rw [ByteArray.toList_eq, ByteArray.toList_eq]; simpa using h

set_option maxHeartbeats 1000000 in
theorem is_v (s want : ByteArray) (hs : s.size ≤ 549755813888) (b : Bool) (h : decide (readD s.data.toList = (want.data.toList, 0)) = b) (w : World) :
    Calls Tryd.prog 8 #[.string s, .string want] w fun x w' => x = .returned (.bool b) ∧ Below w.heap.size w w' := by
  obtain ⟨r, hr⟩ := str_ex (readD s.data.toList).1
  obtain ⟨c, hc⟩ : ∃ c, (readD s.data.toList).2 = c := ⟨_, rfl⟩
  have hR := Lib.hid (fun w => iread_at s r c hs (by rw [hr, ← hc]) w)
  have hE : decide (readD s.data.toList = (want.data.toList, 0)) = decide (r.data.toList = want.data.toList ∧ c = 0) := by
    have e : readD s.data.toList = (r.data.toList, c) := by rw [hr, ← hc]
    rw [e]; simp
  rw [← h, hE]
  clear h hE hr hc
  by_cases h1 : r.data.toList = want.data.toList
  · obtain rfl := str_of h1
    by_cases h0 : c = 0
    · rw [decide_eq_true ⟨h1, h0⟩]
      have b0 : (c == 0) = true := by simp [h0]
      clear h0 h1
      go_enter Tryd.func8, Tryd.ntmps8
      go_wp2_with (go_at_call 21; (with_reducible refine (hR.out _).mono ?_); rintro x w0 ⟨rfl, hb0⟩)
      go_ret
      exact ⟨rfl, hb0⟩
    · rw [decide_eq_false (fun q => h0 q.2)]
      have b0 : (c == 0) = false := by simp [h0]
      clear h0 h1
      go_enter Tryd.func8, Tryd.ntmps8
      go_wp2_with (go_at_call 21; (with_reducible refine (hR.out _).mono ?_); rintro x w0 ⟨rfl, hb0⟩)
      go_ret
      exact ⟨rfl, hb0⟩
  · rw [decide_eq_false (fun q => h1 q.1)]
    have b1 := beq_str h1
    clear h1
    go_enter Tryd.func8, Tryd.ntmps8
    go_wp2_with (go_at_call 21; (with_reducible refine (hR.out _).mono ?_); rintro x w0 ⟨rfl, hb0⟩)
    go_ret
    exact ⟨rfl, hb0⟩

set_option maxHeartbeats 1000000 in
theorem fails_v (s : ByteArray) (k : Int) (hs : s.size ≤ 549755813888) (b : Bool) (h : decide (readD s.data.toList = ([], k)) = b) (w : World) :
    Calls Tryd.prog 7 #[.string s, .int .i64 k] w fun x w' => x = .returned (.bool b) ∧ Below w.heap.size w w' := by
  obtain ⟨r, hr⟩ := str_ex (readD s.data.toList).1
  obtain ⟨c, hc⟩ : ∃ c, (readD s.data.toList).2 = c := ⟨_, rfl⟩
  have hR := Lib.hid (fun w => iread_at s r c hs (by rw [hr, ← hc]) w)
  have hE : decide (readD s.data.toList = ([], k)) = decide (r.data.toList = [] ∧ c = k) := by
    have e : readD s.data.toList = (r.data.toList, c) := by rw [hr, ← hc]
    rw [e]; simp
  rw [← h, hE]
  clear h hE hr hc
  by_cases h1 : r.data.toList = []
  · obtain rfl := str_nil h1
    by_cases h0 : c = k
    · rw [decide_eq_true ⟨h1, h0⟩]
      have b0 : (c == k) = true := by simp [h0]
      clear h0 h1
      go_enter Tryd.func7, Tryd.ntmps7
      go_wp2_with (go_at_call 21; (with_reducible refine (hR.out _).mono ?_); rintro x w0 ⟨rfl, hb0⟩)
      go_ret
      exact ⟨rfl, hb0⟩
    · rw [decide_eq_false (fun q => h0 q.2)]
      have b0 : (c == k) = false := by simp [h0]
      clear h0 h1
      go_enter Tryd.func7, Tryd.ntmps7
      go_wp2_with (go_at_call 21; (with_reducible refine (hR.out _).mono ?_); rintro x w0 ⟨rfl, hb0⟩)
      go_ret
      exact ⟨rfl, hb0⟩
  · rw [decide_eq_false (fun q => h1 q.1)]
    obtain ⟨n1, n2⟩ := full_of h1
    clear h1
    go_enter Tryd.func7, Tryd.ntmps7
    go_wp2_with (go_at_call 21; (with_reducible refine (hR.out _).mono ?_); rintro x w0 ⟨rfl, hb0⟩)
    go_ret
    exact ⟨rfl, hb0⟩

set_option maxHeartbeats 1000000 in
theorem lives_any (w : World) : Calls Tryd.prog 10 #[] w fun e w' => e = .returned (.bool true) ∧ Below w.heap.size w w' := by
  go_enter Tryd.func10, Tryd.ntmps10
  go_wp2_with fail
  refine (is_v _ _ (by decide) true (decide_eq_true ex1) _).mono ?_
  rintro e w1 ⟨rfl, hb1⟩
  go_wp2_with fail
  refine (is_v _ _ (by decide) true (decide_eq_true ex2) _).mono ?_
  rintro e w2 ⟨rfl, hb2⟩
  have hb12 := hb1.trans (hb2.mono hb1.size)
  go_wp2_with fail
  refine (fails_v _ 9 (by decide) true (decide_eq_true ex3) _).mono ?_
  rintro e w3 ⟨rfl, hb3⟩
  have hb13 := hb12.trans (hb3.mono hb12.size)
  go_wp2_with fail
  refine (fails_v _ 9 (by decide) true (decide_eq_true ex4) _).mono ?_
  rintro e w4 ⟨rfl, hb4⟩
  have hb14 := hb13.trans (hb4.mono hb13.size)
  go_wp2_with fail
  refine (fails_v _ 3 (by decide) true (decide_eq_true ex5) _).mono ?_
  rintro e w5 ⟨rfl, hb5⟩
  have hb15 := hb14.trans (hb5.mono hb14.size)
  go_wp2_with fail
  refine (iof_at _ (by decide) 2 ex6 _).mono ?_
  rintro e w6 ⟨rfl, hb6⟩
  have hb16 := hb15.trans (hb6.mono hb15.size)
  go_wp2_with fail
  refine (ilong_at _ (by decide) 10 ex7 _).mono ?_
  rintro e w7 ⟨rfl, hb7⟩
  go_wp2
  go_ret
  exact ⟨rfl, hb16.trans (hb7.mono hb16.size)⟩

end Go.Proofs.YtgchhogdbigafaaDoor
