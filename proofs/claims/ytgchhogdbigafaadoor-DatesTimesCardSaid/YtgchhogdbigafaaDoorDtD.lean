/- Walks over package dates: within, days; no statement of the seat is proved here. -/
import Derived.Test.YtgchhogdbigafaaDoorDtC2
import Derived.Test.YtgchhogdbigafaaDoorLat
namespace Go.Proofs.YtgchhogdbigafaaDoor
open Go.RowKit

theorem bytes_below (w : World) (e : TypeId) (t : ByteArray) : Below w.heap.size w (Lib.bytesWorld w e t) := by
  refine ⟨?_, ?_, ?_, ?_, ?_⟩
  · simp [Lib.bytesWorld, World.freeze, World.alloc, World.drew, -World.alloc_eq, -World.drew_eq]
  · simp [Lib.bytesWorld, World.freeze, World.alloc, World.drew, -World.alloc_eq, -World.drew_eq]
  · simp [Lib.bytesWorld, World.freeze, World.alloc, World.drew, -World.alloc_eq, -World.drew_eq]
  · rw [Lib.bytesWorld_size]; omega
  · intro k hk; exact Lib.bytesWorld_at_old w e t k hk
theorem dig_val {c : UInt8} (h : dgN c.toNat = true) : Lib.digitVal c = some (c.toNat - 48) := by
  have := dgN_t.1 h
  unfold Lib.digitVal; rw [if_pos this]
theorem dig_ne {c : UInt8} (h : dgN c.toNat = true) : (c == 45) = false ∧ (c == 43) = false := by
  have := dgN_t.1 h
  constructor
  · rw [beq_eq_false_iff_ne]; rintro rfl; exact absurd this (by decide)
  · rw [beq_eq_false_iff_ne]; rintro rfl; exact absurd this (by decide)
theorem atoi2 {l : List UInt8} {i : Nat} (h : tw l i = true) : Lib.atoi ((l.drop i).take 2) = some ((twN l i : Nat) : Int) := by
  have hl := tw_len h
  unfold tw at h; rw [Bool.and_eq_true] at h
  have h0 : dgN l[i].toNat = true := by have := h.1; rwa [dg, bt_lt (by omega)] at this
  have h1 : dgN l[i + 1].toNat = true := by have := h.2; rwa [dg, bt_lt (by omega)] at this
  rw [List.drop_eq_getElem_cons (by omega), List.drop_eq_getElem_cons (by omega)]
  simp only [List.take_succ_cons, List.take_zero, Lib.atoi, (dig_ne h0).1, (dig_ne h0).2, Lib.decNat, List.isEmpty_cons, Lib.decFrom, dig_val h0, dig_val h1, Bool.false_eq_true, if_false]
  simp only [Option.map_some, twN, bt_lt (show i < l.length by omega), bt_lt (show i + 1 < l.length by omega)]
  congr 2; omega
theorem atoi4 {l : List UInt8} {i : Nat} (h : tw l i = true) (h' : tw l (i + 2) = true) : Lib.atoi ((l.drop i).take 4) = some ((100 * twN l i + twN l (i + 2) : Nat) : Int) := by
  have hl := tw_len h'
  unfold tw at h h'; rw [Bool.and_eq_true] at h h'
  have h0 : dgN l[i].toNat = true := by have := h.1; rwa [dg, bt_lt (by omega)] at this
  have h1 : dgN l[i + 1].toNat = true := by have := h.2; rwa [dg, bt_lt (by omega)] at this
  have h2 : dgN l[i + 1 + 1].toNat = true := by have := h'.1; rwa [dg, bt_lt (by omega)] at this
  have h3 : dgN l[i + 1 + 1 + 1].toNat = true := by have := h'.2; rwa [dg, bt_lt (by omega)] at this
  rw [List.drop_eq_getElem_cons (by omega), List.drop_eq_getElem_cons (by omega), List.drop_eq_getElem_cons (by omega), List.drop_eq_getElem_cons (by omega)]
  simp only [List.take_succ_cons, List.take_zero, Lib.atoi, (dig_ne h0).1, (dig_ne h0).2, Lib.decNat, List.isEmpty_cons, Lib.decFrom, dig_val h0, dig_val h1, dig_val h2, dig_val h3, Bool.false_eq_true, if_false]
  simp only [Option.map_some, twN, bt_lt (show i < l.length by omega), bt_lt (show i + 1 < l.length by omega), bt_lt (show i + 2 < l.length by omega), bt_lt (show i + 2 + 1 < l.length by omega)]
  congr 2
  simp only [show i + 1 + 1 = i + 2 from rfl, show i + 2 + 1 = i + 3 from rfl]
  omega
theorem atoi_is (s : ByteArray) (n : Int) (hl : s.size ≤ 18) (h : Lib.atoi s.data.toList = some n) (w : World) :
    Calls Tryd.prog 44 #[.string s] w fun e w' => e = .returned (.tuple #[.int .i64 n, .nilIface]) ∧ Below w.heap.size w w' :=
  (Tryd.strconv_Atoi s n hl h w).mono fun e w' ⟨h1, t, h2⟩ => ⟨h1, by rw [h2]; exact bytes_below _ _ _⟩

set_option maxHeartbeats 1000000 in
theorem within_is (u : ByteArray) (n : Nat) (hs : u.size ≤ 1099511627776) (h : tw u.data.toList 0 = true) (hn : twN u.data.toList 0 = n) (lo hi : Int) (w : World) :
    Calls Tryd.prog 45 #[.string u, .int .i64 lo, .int .i64 hi] w fun e w' => e = .returned (.bool (decide (lo ≤ (n : Int) ∧ (n : Int) ≤ hi))) ∧ Below w.heap.size w w' := by
  have h2 : 2 ≤ u.size := by have := tw_len h; rw [size_list] at this; omega
  have hA := Lib.hid (fun w => atoi_is (u.extract 0 2) n (by rw [ByteArray.size_extract]; omega) (by rw [ext_list, atoi2 h, hn]) w)
  clear h hn
  go_enter Tryd.func45, Tryd.ntmps45
  go_wp2_with (go_at_call 44; (with_reducible refine (hA.out _).mono ?_); rintro e w1 ⟨rfl, hb1⟩)
  all_goals (
    go_ret
    refine ⟨ret_bool ?_, hb1⟩
    rw [Bool.eq_iff_iff]
    simp
    try omega)

set_option maxHeartbeats 1000000 in
theorem days_is (y m : Nat) (hy : y ≤ 1000000) (hm : m ≤ 1000000) (w : World) :
    Calls Tryd.prog 46 #[.int .i64 (y : Int), .int .i64 (m : Int)] w fun e w' => e = .returned (.int .i64 (daysN y m : Nat)) ∧ w = w' := by
  go_enter Tryd.func46, Tryd.ntmps46
  go_wp2
  all_goals (
    go_ret
    refine ⟨ret_int ?_, rfl⟩
    try simp at *
    unfold daysN
    repeat' split
    all_goals omega)

end Go.Proofs.YtgchhogdbigafaaDoor
