/- Walks over chapter 07's reference: days, may; no statement of the seat is proved here. -/
import Derived.Test.YtnoghelkcbjfiaaGreatDoorDtT2
import Derived.Test.YtnoghelkcbjfiaaGreatDoorDtN
namespace Go.Proofs.YtnoghelkcbjfiaaGreatDoor
open Go.RowKit

set_option maxHeartbeats 1000000 in
theorem rdays_is (y m : Nat) (hy : y ≤ 1000000) (hm : m ≤ 1000000) (w : World) :
    Calls Tryz.prog 33 #[.int .i64 (y : Int), .int .i64 (m : Int)] w fun e w' => e = .returned (.int .i64 (daysN y m : Nat)) ∧ w = w' := by
  go_enter Tryz.func33, Tryz.ntmps33
  go_wp2
  all_goals (
    go_ret
    refine ⟨ret_int ?_, rfl⟩
    simp at *
    unfold daysN
    repeat' split
    all_goals omega)

/-- 'two' at a place that is told, its number told. -/
theorem two_k (s : ByteArray) (hs : s.size ≤ 1099511627776) (i : Int) (k : Nat) (hi : i = (k : Int)) (hk : k ≤ 1099511627776) (v : Nat) (h : Hid (twoZ s.data.toList k = (v : Int))) (w : World) :
    Calls Tryz.prog 32 #[.string s, .int .i64 i] w fun e w' => e = .returned (.int .i64 (v : Int)) ∧ ∃ n, w' = w.drewN n := by
  subst hi
  have := two_D s hs k (by omega) (by omega) w
  rwa [Int.toNat_natCast, h.out] at this
theorem rdays_k (y m : Int) (Y M d : Nat) (hy : y = (Y : Int)) (hm : m = (M : Int)) (h1 : Y ≤ 1000000) (h2 : M ≤ 1000000) (h : Hid (daysN Y M = d)) (w : World) :
    Calls Tryz.prog 33 #[.int .i64 y, .int .i64 m] w fun e w' => e = .returned (.int .i64 (d : Int)) ∧ w = w' := by
  subst hy hm
  have := rdays_is Y M h1 h2 w
  rwa [h.out] at this
theorem tw_val {l : List UInt8} {k : Nat} (h : tw l k = true) : ∃ v : Nat, v ≤ 99 ∧ Hid (twoZ l k = (v : Int)) ∧ Hid (twN l k = v) := ⟨twN l k, twN_le h, twoZ_t h, rfl⟩

set_option maxHeartbeats 2000000 in
theorem rmay_day (s : ByteArray) (hs : s.size ≤ 549755813888) (hD : isD s.data.toList 0 = true) (hS : spl s.data.toList = ⟨true, false, 0, 0, 0⟩) (w : World) :
    Calls Tryz.prog 17 #[.string s, .agg #[.int .i64 1, .int .i64 (-1), .int .i64 (-1), .int .i64 10]] w fun e w' => e = .returned (.bool (mayL s.data.toList)) ∧ Below w.heap.size w w' := by
  have hs : s.size ≤ 1099511627776 := by omega
  obtain ⟨t0, t2, t5, t8⟩ := isD_tw hD
  obtain ⟨a0, l0, z0, n0⟩ := tw_val t0
  obtain ⟨a2, l2, z2, n2⟩ := tw_val t2
  obtain ⟨a5, l5, z5, n5⟩ := tw_val t5
  obtain ⟨a8, l8, z8, n8⟩ := tw_val t8
  obtain ⟨d, hd⟩ : ∃ d, Hid (daysN (100 * a0 + a2) a5 = d) := ⟨daysN (100 * a0 + a2) a5, rfl⟩
  have hM : Hid (mayL s.data.toList = decide (1 ≤ a5 ∧ a5 ≤ 12 ∧ 1 ≤ a8 ∧ a8 ≤ d)) := by
    show _ = _
    rw [may_day hS, show twN s.data.toList 0 = a0 from n0.out, show twN s.data.toList 2 = a2 from n2.out, show twN s.data.toList 5 = a5 from n5.out, show twN s.data.toList 8 = a8 from n8.out, dateN, hd.out]
  clear hD hS t0 t2 t5 t8 n0 n2 n5 n8
  go_enter Tryz.func17, Tryz.ntmps17
  go_wp2_with (first
    | (go_at_call 32; (first | (with_reducible refine (two_k s hs _ 0 (by omega) (by omega) _ z0 _).mono ?_) | (with_reducible refine (two_k s hs _ 2 (by omega) (by omega) _ z2 _).mono ?_) | (with_reducible refine (two_k s hs _ 5 (by omega) (by omega) _ z5 _).mono ?_) | (with_reducible refine (two_k s hs _ 8 (by omega) (by omega) _ z8 _).mono ?_)); rintro e w' ⟨rfl, n, rfl⟩)
    | (go_at_call 33; (with_reducible refine (rdays_k _ _ (100 * a0 + a2) a5 d (by omega) (by omega) (by omega) (by omega) hd _).mono ?_); rintro e w' ⟨rfl, rfl⟩))
  all_goals (
    go_ret
    refine ⟨ret_bool ?_, by repeat (first | exact below_new1 _ _ | apply below_drewN)⟩
    rw [hM.out]; symm
    try simp only [beq_iff_eq, bne_iff_ne, beq_eq_false_iff_ne, bne_eq_false_iff_eq, ne_eq] at *
    first | exact decide_eq_true (by omega) | exact decide_eq_false (by omega))


set_option maxHeartbeats 2000000 in
theorem rmay_time (s : ByteArray) (hs : s.size ≤ 549755813888) (hC : isC s.data.toList 0 = true) (n : Nat) (hS : spl s.data.toList = ⟨false, true, 0, n, 0⟩) (E : Int) (w : World) :
    Calls Tryz.prog 17 #[.string s, .agg #[.int .i64 2, .int .i64 0, .int .i64 (-1), .int .i64 E]] w fun e w' => e = .returned (.bool (mayL s.data.toList)) ∧ Below w.heap.size w w' := by
  have hs : s.size ≤ 1099511627776 := by omega
  obtain ⟨u0, u3, u6⟩ := isC_tw hC
  obtain ⟨b0, lb0, zb0, nb0⟩ := tw_val u0
  obtain ⟨b3, lb3, zb3, nb3⟩ := tw_val u3
  obtain ⟨b6, lb6, zb6, nb6⟩ := tw_val u6
  have hM : Hid (mayL s.data.toList = decide (b0 ≤ 23 ∧ b3 ≤ 59 ∧ (b6 ≤ 59 ∨ (b6 = 60 ∧ b3 = 59)))) := by
    show _ = _
    rw [may_time hS, show twN s.data.toList 0 = b0 from nb0.out, show twN s.data.toList 3 = b3 from nb3.out, show twN s.data.toList 6 = b6 from nb6.out, timeN]
  clear hC hS u0 u3 u6 nb0 nb3 nb6
  go_enter Tryz.func17, Tryz.ntmps17
  go_wp2_with (first
    | (go_at_call 32; (first | (with_reducible refine (two_k s hs _ 0 (by omega) (by omega) _ zb0 _).mono ?_) | (with_reducible refine (two_k s hs _ 3 (by omega) (by omega) _ zb3 _).mono ?_) | (with_reducible refine (two_k s hs _ 6 (by omega) (by omega) _ zb6 _).mono ?_)); rintro e w' ⟨rfl, n', rfl⟩))
  all_goals (
    go_ret
    refine ⟨ret_bool ?_, by repeat (first | exact below_new1 _ _ | apply below_drewN)⟩
    rw [hM.out]; symm
    try simp only [bne_iff_ne, bne_eq_false_iff_eq, ne_eq] at *
    first | exact decide_eq_true (by omega) | exact decide_eq_false (by omega))

set_option maxHeartbeats 2000000 in
theorem rmay_both (s : ByteArray) (hs : s.size ≤ 549755813888) (hD : isD s.data.toList 0 = true) (hC : isC s.data.toList 11 = true) (n z : Nat) (_hn : n ≤ 549755813888) (hS : spl s.data.toList = ⟨true, true, 11, n, z⟩) (hz : z = 0) (E : Int) (w : World) :
    Calls Tryz.prog 17 #[.string s, .agg #[.int .i64 3, .int .i64 11, .int .i64 (-1), .int .i64 E]] w fun e w' => e = .returned (.bool (mayL s.data.toList)) ∧ Below w.heap.size w w' := by
  have hs : s.size ≤ 1099511627776 := by omega
  obtain ⟨t0, t2, t5, t8⟩ := isD_tw hD
  obtain ⟨u0, u3, u6⟩ := isC_tw hC
  obtain ⟨a0, la0, za0, na0⟩ := tw_val t0
  obtain ⟨a2, la2, za2, na2⟩ := tw_val t2
  obtain ⟨a5, la5, za5, na5⟩ := tw_val t5
  obtain ⟨a8, la8, za8, na8⟩ := tw_val t8
  obtain ⟨b0, lb0, zb0, nb0⟩ := tw_val u0
  obtain ⟨b3, lb3, zb3, nb3⟩ := tw_val u3
  obtain ⟨b6, lb6, zb6, nb6⟩ := tw_val u6
  obtain ⟨d, hd⟩ : ∃ d, Hid (daysN (100 * a0 + a2) a5 = d) := ⟨daysN (100 * a0 + a2) a5, rfl⟩
  have hM : Hid (mayL s.data.toList = decide ((1 ≤ a5 ∧ a5 ≤ 12 ∧ 1 ≤ a8 ∧ a8 ≤ d) ∧ (b0 ≤ 23 ∧ b3 ≤ 59 ∧ (b6 ≤ 59 ∨ (b6 = 60 ∧ b3 = 59))))) := by
    show _ = _
    rw [may_both hS (by omega), show twN s.data.toList 0 = a0 from na0.out, show twN s.data.toList 2 = a2 from na2.out, show twN s.data.toList 5 = a5 from na5.out, show twN s.data.toList 8 = a8 from na8.out, show twN s.data.toList 11 = b0 from nb0.out, show twN s.data.toList 14 = b3 from nb3.out, show twN s.data.toList 17 = b6 from nb6.out, dateN, timeN, hd.out, ← Bool.decide_and]
  clear hD hC hS t0 t2 t5 t8 u0 u3 u6 na0 na2 na5 na8 nb0 nb3 nb6
  go_enter Tryz.func17, Tryz.ntmps17
  go_wp2_with (first
    | (go_at_call 32; (first | (with_reducible refine (two_k s hs _ 0 (by omega) (by omega) _ za0 _).mono ?_) | (with_reducible refine (two_k s hs _ 2 (by omega) (by omega) _ za2 _).mono ?_) | (with_reducible refine (two_k s hs _ 5 (by omega) (by omega) _ za5 _).mono ?_) | (with_reducible refine (two_k s hs _ 8 (by omega) (by omega) _ za8 _).mono ?_) | (with_reducible refine (two_k s hs _ 11 (by omega) (by omega) _ zb0 _).mono ?_) | (with_reducible refine (two_k s hs _ 14 (by omega) (by omega) _ zb3 _).mono ?_) | (with_reducible refine (two_k s hs _ 17 (by omega) (by omega) _ zb6 _).mono ?_)); rintro e w' ⟨rfl, n', rfl⟩)
    | (go_at_call 33; (with_reducible refine (rdays_k _ _ (100 * a0 + a2) a5 d (by omega) (by omega) (by omega) (by omega) hd _).mono ?_); rintro e w' ⟨rfl, rfl⟩))
  all_goals (
    go_ret
    refine ⟨ret_bool ?_, by repeat (first | exact below_new1 _ _ | apply below_drewN)⟩
    rw [hM.out]; symm
    try simp only [bne_iff_ne, bne_eq_false_iff_eq, ne_eq] at *
    first | exact decide_eq_true (by omega) | exact decide_eq_false (by omega))

set_option maxHeartbeats 2000000 in
theorem rmay_z (s : ByteArray) (hs : s.size ≤ 549755813888) (hD : isD s.data.toList 0 = true) (hC : isC s.data.toList 11 = true) (n z : Nat) (_hn : n ≤ 549755813888) (hS : spl s.data.toList = ⟨true, true, 11, n, z⟩) (hz : z = 1) (Z E : Int) (hZ : 0 ≤ Z) (hE : E = Z + 1) (hZ1 : Z ≤ 1099511627776) (w : World) :
    Calls Tryz.prog 17 #[.string s, .agg #[.int .i64 4, .int .i64 11, .int .i64 Z, .int .i64 E]] w fun e w' => e = .returned (.bool (mayL s.data.toList)) ∧ Below w.heap.size w w' := by
  have hs : s.size ≤ 1099511627776 := by omega
  obtain ⟨t0, t2, t5, t8⟩ := isD_tw hD
  obtain ⟨u0, u3, u6⟩ := isC_tw hC
  obtain ⟨a0, la0, za0, na0⟩ := tw_val t0
  obtain ⟨a2, la2, za2, na2⟩ := tw_val t2
  obtain ⟨a5, la5, za5, na5⟩ := tw_val t5
  obtain ⟨a8, la8, za8, na8⟩ := tw_val t8
  obtain ⟨b0, lb0, zb0, nb0⟩ := tw_val u0
  obtain ⟨b3, lb3, zb3, nb3⟩ := tw_val u3
  obtain ⟨b6, lb6, zb6, nb6⟩ := tw_val u6
  obtain ⟨d, hd⟩ : ∃ d, Hid (daysN (100 * a0 + a2) a5 = d) := ⟨daysN (100 * a0 + a2) a5, rfl⟩
  have hM : Hid (mayL s.data.toList = decide ((1 ≤ a5 ∧ a5 ≤ 12 ∧ 1 ≤ a8 ∧ a8 ≤ d) ∧ (b0 ≤ 23 ∧ b3 ≤ 59 ∧ (b6 ≤ 59 ∨ (b6 = 60 ∧ b3 = 59))))) := by
    show _ = _
    rw [may_both hS (by omega), show twN s.data.toList 0 = a0 from na0.out, show twN s.data.toList 2 = a2 from na2.out, show twN s.data.toList 5 = a5 from na5.out, show twN s.data.toList 8 = a8 from na8.out, show twN s.data.toList 11 = b0 from nb0.out, show twN s.data.toList 14 = b3 from nb3.out, show twN s.data.toList 17 = b6 from nb6.out, dateN, timeN, hd.out, ← Bool.decide_and]
  clear hD hC hS t0 t2 t5 t8 u0 u3 u6 na0 na2 na5 na8 nb0 nb3 nb6
  have b6e : ((E - Z : Int) == 6) = false := by rw [hE]; simp; omega
  have hE1 : 0 ≤ E ∧ E ≤ 1099511627777 := by omega
  obtain ⟨hE1, hE2⟩ := hE1
  have HE := Lib.hid hE; clear hE
  go_enter Tryz.func17, Tryz.ntmps17
  go_wp2_with (first
    | (go_at_call 32; (first | (with_reducible refine (two_k s hs _ 0 (by omega) (by omega) _ za0 _).mono ?_) | (with_reducible refine (two_k s hs _ 2 (by omega) (by omega) _ za2 _).mono ?_) | (with_reducible refine (two_k s hs _ 5 (by omega) (by omega) _ za5 _).mono ?_) | (with_reducible refine (two_k s hs _ 8 (by omega) (by omega) _ za8 _).mono ?_) | (with_reducible refine (two_k s hs _ 11 (by omega) (by omega) _ zb0 _).mono ?_) | (with_reducible refine (two_k s hs _ 14 (by omega) (by omega) _ zb3 _).mono ?_) | (with_reducible refine (two_k s hs _ 17 (by omega) (by omega) _ zb6 _).mono ?_)); rintro e w' ⟨rfl, n', rfl⟩)
    | (go_at_call 33; (with_reducible refine (rdays_k _ _ (100 * a0 + a2) a5 d (by omega) (by omega) (by omega) (by omega) hd _).mono ?_); rintro e w' ⟨rfl, rfl⟩))
  all_goals (
    go_ret
    refine ⟨ret_bool ?_, by repeat (first | exact below_new1 _ _ | apply below_drewN)⟩
    rw [hM.out]; symm
    try simp only [bne_iff_ne, beq_eq_false_iff_ne, bne_eq_false_iff_eq, ne_eq] at *
    first | exact decide_eq_true (by omega) | exact decide_eq_false (by omega))

set_option maxHeartbeats 2000000 in
theorem rmay_zone (s : ByteArray) (hs : s.size ≤ 549755813888) (hD : isD s.data.toList 0 = true) (hC : isC s.data.toList 11 = true) (n z : Nat) (hn : n ≤ 549755813888) (hS : spl s.data.toList = ⟨true, true, 11, n, z⟩) (hz : z = 6) (hZZ : isZ s.data.toList (19 + pN n + 1) = true) (Z E : Int) (hZ : Z = (19 + pN n : Nat)) (hE : E = Z + 6) (w : World) :
    Calls Tryz.prog 17 #[.string s, .agg #[.int .i64 4, .int .i64 11, .int .i64 Z, .int .i64 E]] w fun e w' => e = .returned (.bool (mayL s.data.toList)) ∧ Below w.heap.size w w' := by
  have hs : s.size ≤ 1099511627776 := by omega
  obtain ⟨N, hN⟩ : ∃ N, pN n = N := ⟨_, rfl⟩
  have hN1 : N ≤ 549755813889 := by rw [← hN]; unfold pN; split <;> omega
  obtain ⟨t0, t2, t5, t8⟩ := isD_tw hD
  obtain ⟨u0, u3, u6⟩ := isC_tw hC
  obtain ⟨a0, la0, za0, na0⟩ := tw_val t0
  obtain ⟨a2, la2, za2, na2⟩ := tw_val t2
  obtain ⟨a5, la5, za5, na5⟩ := tw_val t5
  obtain ⟨a8, la8, za8, na8⟩ := tw_val t8
  obtain ⟨b0, lb0, zb0, nb0⟩ := tw_val u0
  obtain ⟨b3, lb3, zb3, nb3⟩ := tw_val u3
  obtain ⟨b6, lb6, zb6, nb6⟩ := tw_val u6
  obtain ⟨d, hd⟩ : ∃ d, Hid (daysN (100 * a0 + a2) a5 = d) := ⟨daysN (100 * a0 + a2) a5, rfl⟩
  obtain ⟨x1, x4⟩ := isZ_tw hZZ
  obtain ⟨c1, lc1, zc1, nc1⟩ := tw_val x1
  obtain ⟨c4, lc4, zc4, nc4⟩ := tw_val x4
  have hM : Hid (mayL s.data.toList = decide ((1 ≤ a5 ∧ a5 ≤ 12 ∧ 1 ≤ a8 ∧ a8 ≤ d) ∧ (b0 ≤ 23 ∧ b3 ≤ 59 ∧ (b6 ≤ 59 ∨ (b6 = 60 ∧ b3 = 59))) ∧ (c1 ≤ 23 ∧ c4 ≤ 59))) := by
    show _ = _
    rw [may_zone hS (by omega), show twN s.data.toList 0 = a0 from na0.out, show twN s.data.toList 2 = a2 from na2.out, show twN s.data.toList 5 = a5 from na5.out, show twN s.data.toList 8 = a8 from na8.out, show twN s.data.toList 11 = b0 from nb0.out, show twN s.data.toList 14 = b3 from nb3.out, show twN s.data.toList 17 = b6 from nb6.out, show twN s.data.toList (19 + pN n + 1) = c1 from nc1.out, show twN s.data.toList (19 + pN n + 4) = c4 from nc4.out, dateN, timeN, zonN, hd.out, ← Bool.decide_and, ← Bool.decide_and]
  rw [hN] at hZ zc1 zc4
  clear hD hC hS t0 t2 t5 t8 u0 u3 u6 na0 na2 na5 na8 nb0 nb3 nb6 x1 x4 nc1 nc4 hN hZZ; obtain rfl := hE; obtain rfl := hZ
  go_enter Tryz.func17, Tryz.ntmps17
  go_wp2_with (first
    | (go_at_call 32; (first | (with_reducible refine (two_k s hs _ 0 (by omega) (by omega) _ za0 _).mono ?_) | (with_reducible refine (two_k s hs _ 2 (by omega) (by omega) _ za2 _).mono ?_) | (with_reducible refine (two_k s hs _ 5 (by omega) (by omega) _ za5 _).mono ?_) | (with_reducible refine (two_k s hs _ 8 (by omega) (by omega) _ za8 _).mono ?_) | (with_reducible refine (two_k s hs _ 11 (by omega) (by omega) _ zb0 _).mono ?_) | (with_reducible refine (two_k s hs _ 14 (by omega) (by omega) _ zb3 _).mono ?_) | (with_reducible refine (two_k s hs _ 17 (by omega) (by omega) _ zb6 _).mono ?_) | (with_reducible refine (two_k s hs _ (19 + N + 1) (by omega) (by omega) _ zc1 _).mono ?_) | (with_reducible refine (two_k s hs _ (19 + N + 1 + 3) (by omega) (by omega) _ zc4 _).mono ?_)); rintro e w' ⟨rfl, n', rfl⟩)
    | (go_at_call 33; (with_reducible refine (rdays_k _ _ (100 * a0 + a2) a5 d (by omega) (by omega) (by omega) (by omega) hd _).mono ?_); rintro e w' ⟨rfl, rfl⟩))
  all_goals (
    go_ret
    refine ⟨ret_bool ?_, by repeat (first | exact below_new1 _ _ | apply below_drewN)⟩
    rw [hM.out]; symm
    try simp only [bne_iff_ne, bne_eq_false_iff_eq, ne_eq] at *
    first | exact decide_eq_true (by omega) | exact decide_eq_false (by omega))

end Go.Proofs.YtnoghelkcbjfiaaGreatDoor
