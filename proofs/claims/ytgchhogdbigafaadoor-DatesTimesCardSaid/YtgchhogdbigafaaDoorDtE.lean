/- Walks over package dates: may; no statement of the seat is proved here. -/
import Derived.Test.YtgchhogdbigafaaDoorDtD
namespace Go.Proofs.YtgchhogdbigafaaDoor
open Go.RowKit

theorem ext_cut (s : ByteArray) (i j : Nat) : (s.extract i j).data.toList = (s.data.toList.take j).drop i := by
  rw [ext_list, List.drop_take]
theorem tw_drop (l : List UInt8) (i j : Nat) : tw (l.drop i) j = tw l (i + j) := by simp [tw, dg, bt_drop, Nat.add_assoc]
theorem twN_drop (l : List UInt8) (i j : Nat) : twN (l.drop i) j = twN l (i + j) := by simp [twN, bt_drop, Nat.add_assoc]
theorem tw_take {l : List UInt8} {i j : Nat} (h : j + 2 ≤ i) : tw (l.take i) j = tw l j := by simp [tw, dg, bt_take l (show j < i by omega), bt_take l (show j + 1 < i by omega)]
theorem twN_take {l : List UInt8} {i j : Nat} (h : j + 2 ≤ i) : twN (l.take i) j = twN l j := by simp [twN, bt_take l (show j < i by omega), bt_take l (show j + 1 < i by omega)]
theorem later_call {P : Program} {f : FuncId} {args : Array Value} {v : Value} {w0 : World} (h : ∀ w, Calls P f args w fun e w' => e = .returned v ∧ Below w.heap.size w w') : ∀ n : Later w0, Calls P f args n.at_ fun e w'' => e = .returned v ∧ ∃ m : Later w0, w'' = m.at_ :=
  fun n => calls_later ((h n.at_).mono fun _ _ ⟨a, b⟩ => ⟨a, n.below.trans (b.mono n.below.size)⟩)
theorem days_k (y m : Int) (Y M d : Nat) (hy : y = (Y : Int)) (hm : m = (M : Int)) (h1 : Y ≤ 1000000) (h2 : M ≤ 1000000) (h : Hid (daysN Y M = d)) (w : World) :
    Calls Tryd.prog 46 #[.int .i64 y, .int .i64 m] w fun e w' => e = .returned (.int .i64 (d : Int)) ∧ w = w' := by
  subst hy hm
  have := days_is Y M h1 h2 w
  rwa [h.out] at this
theorem tw_nat {l : List UInt8} {k : Nat} (h : tw l k = true) : ∃ v : Nat, v ≤ 99 ∧ twN l k = v := ⟨twN l k, twN_le h, rfl⟩
theorem is59 {l : List UInt8} {i : Nat} (h : tw l i = true) : decide (twN l i = 59) = ((l.drop i).take 2 == [53, 57]) := by
  have hl := tw_len h
  unfold tw at h; rw [Bool.and_eq_true] at h
  have h0 : dgN l[i].toNat = true := by have := h.1; rwa [dg, bt_lt (by omega)] at this
  have h1 : dgN l[i + 1].toNat = true := by have := h.2; rwa [dg, bt_lt (by omega)] at this
  have q0 := dgN_t.1 h0; have q1 := dgN_t.1 h1
  rw [List.drop_eq_getElem_cons (by omega), List.drop_eq_getElem_cons (by omega), twN, bt_lt (by omega), bt_lt (by omega), Bool.eq_iff_iff, decide_eq_true_iff, beq_iff_eq]
  constructor
  · intro h
    have e0 : l[i] = 53 := UInt8.toNat_inj.1 (by show _ = 53; omega)
    have e1 : l[i + 1] = 57 := UInt8.toNat_inj.1 (by show _ = 57; omega)
    rw [e0, e1]; rfl
  · intro h
    simp only [List.take_succ_cons, List.take_zero] at h
    injection h with h h'
    injection h' with h' _
    rw [h, h']; rfl

set_option maxRecDepth 100000 in
set_option maxHeartbeats 4000000 in
theorem imay_time (t p : ByteArray) (e : Int) (ht : t.size = 8) (hT : isC t.data.toList 0 = true) (w : World) :
    Calls Tryd.prog 32 #[.agg #[.string ⟨#[]⟩, .string t, .string p, .string ⟨#[]⟩, .int .i64 e]] w fun x w' => x = .returned (.bool (timeN (twN t.data.toList 0) (twN t.data.toList 3) (twN t.data.toList 6))) ∧ Below w.heap.size w w' := by
  obtain ⟨u0, u3, u6⟩ := isC_tw hT
  obtain ⟨b0, m0, r0⟩ := tw_nat u0
  obtain ⟨b3, m3, r3⟩ := tw_nat u3
  obtain ⟨b6, m6, r6⟩ := tw_nat u6
  have hw0 : Hid (∀ (lo hi : Int) (w : World), Calls Tryd.prog 45 #[.string (t), .int .i64 lo, .int .i64 hi] w fun e w' => e = .returned (.bool (decide (lo ≤ (b0 : Int) ∧ (b0 : Int) ≤ hi))) ∧ Below w.heap.size w w') := fun lo hi w => within_is t b0 (by omega) u0 r0 lo hi w
  have hw3 : Hid (∀ (lo hi : Int) (w : World), Calls Tryd.prog 45 #[.string (t.extract 3 8), .int .i64 lo, .int .i64 hi] w fun e w' => e = .returned (.bool (decide (lo ≤ (b3 : Int) ∧ (b3 : Int) ≤ hi))) ∧ Below w.heap.size w w') := fun lo hi w => within_is (t.extract 3 8) b3 (by rw [ByteArray.size_extract]; omega) (by rw [ext_cut, tw_drop, tw_take (by omega)]; exact u3) (by rw [ext_cut, twN_drop, twN_take (by omega)]; exact r3) lo hi w
  have hw6 : Hid (∀ (lo hi : Int) (w : World), Calls Tryd.prog 45 #[.string (t.extract 6 8), .int .i64 lo, .int .i64 hi] w fun e w' => e = .returned (.bool (decide (lo ≤ (b6 : Int) ∧ (b6 : Int) ≤ hi))) ∧ Below w.heap.size w w') := fun lo hi w => within_is (t.extract 6 8) b6 (by rw [ByteArray.size_extract]; omega) (by rw [ext_cut, tw_drop, tw_take (by omega)]; exact u6) (by rw [ext_cut, twN_drop, twN_take (by omega)]; exact r6) lo hi w
  obtain ⟨f1, f2⟩ := str_full (t := t) (by omega)
  have h59 : ((t.extract 3 5).toList == [53, 57]) = decide (b3 = 59) := by rw [ByteArray.toList_eq, ext_list]; rw [← is59 u3, show twN t.data.toList (0 + 3) = b3 from r3]
  have hM : Hid ((timeN (twN t.data.toList 0) (twN t.data.toList 3) (twN t.data.toList 6)) = decide (b0 ≤ 23 ∧ b3 ≤ 59 ∧ (b6 ≤ 59 ∨ (b6 = 60 ∧ b3 = 59)))) := by
    show _ = _
    rw [r0, show twN t.data.toList 3 = b3 from r3, show twN t.data.toList 6 = b6 from r6, timeN]
  clear hT u0 u3 u6 r0 r3 r6
  have HC : Hid (CB (w.alloc (.cells #[.string ⟨#[]⟩, .string t, .string p, .string ⟨#[]⟩, .int .i64 e] 59)) w.heap.size ⟨#[]⟩ t p ⟨#[]⟩ e) := heap_new1 w _
  have HB : Hid (Below w.heap.size w (w.alloc (.cells #[.string ⟨#[]⟩, .string t, .string p, .string ⟨#[]⟩, .int .i64 e] 59))) := below_new1 w _
  obtain ⟨d0, d1, d2, d3, d4, df, dz⟩ := HC.out.facts
  go_enter Tryd.func32, Tryd.ntmps32
  go_wp2_with ((go_at_call 45; (first | (with_reducible refine (hw0.out _ _ _).mono ?_) | (with_reducible refine (hw3.out _ _ _).mono ?_) | (with_reducible refine (hw6.out _ _ _).mono ?_)); rintro x w' ⟨rfl, hb'⟩; replace HC := Lib.hid (HC.out.later hb'); replace HB := Lib.hid (HB.out.trans (hb'.mono HB.out.size)); clear hb' d0 d1 d2 d3 d4 df dz; obtain ⟨d0, d1, d2, d3, d4, df, dz⟩ := HC.out.facts))
  all_goals (
    go_ret
    refine ⟨ret_bool ?_, HB.out⟩
    rw [hM.out]; symm
    try simp only [Bool.not_eq_true', Bool.not_eq_false', decide_eq_true_eq, decide_eq_false_iff_not] at *
    first | omega | exact decide_eq_true (by omega) | exact decide_eq_false (by omega) | (rw [Bool.eq_iff_iff]; simp; omega) | skip)

set_option maxRecDepth 100000 in
set_option maxHeartbeats 4000000 in
theorem imay_day (d p : ByteArray) (e : Int) (hd : d.size = 10) (hD : isD d.data.toList 0 = true) (w : World) :
    Calls Tryd.prog 32 #[.agg #[.string d, .string ⟨#[]⟩, .string p, .string ⟨#[]⟩, .int .i64 e]] w fun x w' => x = .returned (.bool (dateN (twN d.data.toList 0) (twN d.data.toList 2) (twN d.data.toList 5) (twN d.data.toList 8))) ∧ Below w.heap.size w w' := by
  obtain ⟨t0, t2, t5, t8⟩ := isD_tw hD
  obtain ⟨a0, l0, n0⟩ := tw_nat t0
  obtain ⟨a2, l2, n2⟩ := tw_nat t2
  obtain ⟨a5, l5, n5⟩ := tw_nat t5
  obtain ⟨a8, l8, n8⟩ := tw_nat t8
  obtain ⟨dd, hdd⟩ : ∃ dd, Hid (daysN (100 * a0 + a2) a5 = dd) := ⟨daysN (100 * a0 + a2) a5, rfl⟩
  have hw5 : Hid (∀ (lo hi : Int) (w : World), Calls Tryd.prog 45 #[.string (d.extract 5 10), .int .i64 lo, .int .i64 hi] w fun e w' => e = .returned (.bool (decide (lo ≤ (a5 : Int) ∧ (a5 : Int) ≤ hi))) ∧ Below w.heap.size w w') := fun lo hi w => within_is (d.extract 5 10) a5 (by rw [ByteArray.size_extract]; omega) (by rw [ext_cut, tw_drop, tw_take (by omega)]; exact t5) (by rw [ext_cut, twN_drop, twN_take (by omega)]; exact n5) lo hi w
  have hw8 : Hid (∀ (lo hi : Int) (w : World), Calls Tryd.prog 45 #[.string (d.extract 8 10), .int .i64 lo, .int .i64 hi] w fun e w' => e = .returned (.bool (decide (lo ≤ (a8 : Int) ∧ (a8 : Int) ≤ hi))) ∧ Below w.heap.size w w') := fun lo hi w => within_is (d.extract 8 10) a8 (by rw [ByteArray.size_extract]; omega) (by rw [ext_cut, tw_drop, tw_take (by omega)]; exact t8) (by rw [ext_cut, twN_drop, twN_take (by omega)]; exact n8) lo hi w
  have hY := Lib.hid (fun w => atoi_is (d.extract 0 4) ((100 * a0 + a2 : Nat) : Int) (by rw [ByteArray.size_extract]; omega) (by rw [ext_list, atoi4 t0 t2, show twN d.data.toList 0 = a0 from n0, show twN d.data.toList (0 + 2) = a2 from n2]) w)
  have hMo := Lib.hid (fun w => atoi_is (d.extract 5 7) a5 (by rw [ByteArray.size_extract]; omega) (by rw [ext_list, atoi2 t5, show twN d.data.toList (0 + 5) = a5 from n5]) w)
  obtain ⟨e1, e2⟩ := str_full (t := d) (by omega)
  have hM : Hid ((dateN (twN d.data.toList 0) (twN d.data.toList 2) (twN d.data.toList 5) (twN d.data.toList 8)) = decide (1 ≤ a5 ∧ a5 ≤ 12 ∧ 1 ≤ a8 ∧ a8 ≤ dd)) := by
    show _ = _
    rw [n0, show twN d.data.toList 2 = a2 from n2, show twN d.data.toList 5 = a5 from n5, show twN d.data.toList 8 = a8 from n8, dateN, hdd.out]
  clear hD t0 t2 t5 t8 n0 n2 n5 n8
  have HC : Hid (CB (w.alloc (.cells #[.string d, .string ⟨#[]⟩, .string p, .string ⟨#[]⟩, .int .i64 e] 59)) w.heap.size d ⟨#[]⟩ p ⟨#[]⟩ e) := heap_new1 w _
  have HB : Hid (Below w.heap.size w (w.alloc (.cells #[.string d, .string ⟨#[]⟩, .string p, .string ⟨#[]⟩, .int .i64 e] 59))) := below_new1 w _
  obtain ⟨d0, d1, d2, d3, d4, df, dz⟩ := HC.out.facts
  go_enter Tryd.func32, Tryd.ntmps32
  go_wp2_with ((go_at_call 44; (first | (with_reducible refine (hY.out _).mono ?_) | (with_reducible refine (hMo.out _).mono ?_)); rintro x w' ⟨rfl, hb'⟩; replace HC := Lib.hid (HC.out.later hb'); replace HB := Lib.hid (HB.out.trans (hb'.mono HB.out.size)); clear hb' d0 d1 d2 d3 d4 df dz; obtain ⟨d0, d1, d2, d3, d4, df, dz⟩ := HC.out.facts))
  have hD5 : Hid (∀ n : Later w', Calls Tryd.prog 46 #[.int .i64 (100 * (a0 : Int) + (a2 : Int)), .int .i64 (a5 : Int)] n.at_ fun x w'' => x = .returned (.int .i64 (dd : Int)) ∧ ∃ m : Later w', w'' = m.at_) := fun n => (days_k _ _ (100 * a0 + a2) a5 dd (by omega) (by omega) (by omega) (by omega) hdd n.at_).mono fun _ _ ⟨h1, h2⟩ => ⟨h1, n, h2.symm⟩
  have hq0 : ∀ n : Later w', n.at_.cell? ⟨w.heap.size, 0, none⟩ = some (.string d) := fun n => (HC.out.later n.below).facts.1
  by_cases h1 : 1 ≤ a5 ∧ a5 ≤ 12
  · have C1 := Lib.hid (later_call (w0 := w') (hw5.out 1 12))
    rw [show decide ((1 : Int) ≤ (a5 : Int) ∧ (a5 : Int) ≤ 12) = true from decide_eq_true (by omega)] at C1
    have C2 := Lib.hid (later_call (w0 := w') (hw8.out 1 (dd : Int)))
    by_cases h2 : 1 ≤ a8 ∧ a8 ≤ dd
    · rw [show decide ((1 : Int) ≤ (a8 : Int) ∧ (a8 : Int) ≤ (dd : Int)) = true from decide_eq_true (by omega)] at C2
      refine wp_region_later w' (by kernel_rfl) (by kernel_rfl) (Below.refl _ _) ?_
      repeat (go_big_quiet_step (first
        | (go_at_call 45; with_reducible exact C1.out _)
        | (go_at_call 46; with_reducible exact hD5.out _)
        | (go_at_call 45; with_reducible exact C2.out _)))
      refine wpQuiet_nil ?_
      rintro _ ⟨⟨w5, hb5⟩, rfl⟩
      replace HC := Lib.hid (HC.out.later hb5); replace HB := Lib.hid (HB.out.trans (hb5.mono HB.out.size)); clear hb5 hq0 C1 C2 hD5 d0 d1 d2 d3 d4 df dz; obtain ⟨d0, d1, d2, d3, d4, df, dz⟩ := HC.out.facts
      go_wp2
      all_goals (
        go_ret
        refine ⟨ret_bool ?_, HB.out⟩
        rw [hM.out]; symm
        try simp only [decide_eq_true_eq] at *
        first | omega | exact decide_eq_true (by omega) | exact decide_eq_false (by omega) | (rw [Bool.eq_iff_iff]; simp; omega) | skip)
    · rw [show decide ((1 : Int) ≤ (a8 : Int) ∧ (a8 : Int) ≤ (dd : Int)) = false from decide_eq_false (by omega)] at C2
      refine wp_region_later w' (by kernel_rfl) (by kernel_rfl) (Below.refl _ _) ?_
      repeat (go_big_quiet_step (first
        | (go_at_call 45; with_reducible exact C1.out _)
        | (go_at_call 46; with_reducible exact hD5.out _)
        | (go_at_call 45; with_reducible exact C2.out _)))
      refine wpQuiet_nil ?_
      rintro _ ⟨⟨w5, hb5⟩, rfl⟩
      replace HC := Lib.hid (HC.out.later hb5); replace HB := Lib.hid (HB.out.trans (hb5.mono HB.out.size)); clear hb5 hq0 C1 C2 hD5 d0 d1 d2 d3 d4 df dz; obtain ⟨d0, d1, d2, d3, d4, df, dz⟩ := HC.out.facts
      go_wp2
      all_goals (
        go_ret
        refine ⟨ret_bool ?_, HB.out⟩
        rw [hM.out]; symm
        try simp only [decide_eq_false_iff_not] at *
        first | omega | exact decide_eq_true (by omega) | exact decide_eq_false (by omega) | (rw [Bool.eq_iff_iff]; simp; omega) | skip)
  · have C1 := Lib.hid (later_call (w0 := w') (hw5.out 1 12))
    rw [show decide ((1 : Int) ≤ (a5 : Int) ∧ (a5 : Int) ≤ 12) = false from decide_eq_false (by omega)] at C1
    have C2 : Hid True := trivial
    refine wp_region_later w' (by kernel_rfl) (by kernel_rfl) (Below.refl _ _) ?_
    repeat (go_big_quiet_step (first
      | (go_at_call 45; with_reducible exact C1.out _)
      | (go_at_call 46; with_reducible exact hD5.out _)
      | (go_at_call 45; with_reducible exact C2.out _)))
    refine wpQuiet_nil ?_
    rintro _ ⟨⟨w5, hb5⟩, rfl⟩
    replace HC := Lib.hid (HC.out.later hb5); replace HB := Lib.hid (HB.out.trans (hb5.mono HB.out.size)); clear hb5 hq0 C1 C2 hD5 d0 d1 d2 d3 d4 df dz; obtain ⟨d0, d1, d2, d3, d4, df, dz⟩ := HC.out.facts
    go_wp2
    all_goals (
      go_ret
      refine ⟨ret_bool ?_, HB.out⟩
      rw [hM.out]; symm
      try simp only [decide_eq_false_iff_not] at *
      first | omega | exact decide_eq_true (by omega) | exact decide_eq_false (by omega) | (rw [Bool.eq_iff_iff]; simp; omega) | skip)
set_option maxRecDepth 100000 in
set_option maxHeartbeats 4000000 in
theorem imay_both (d t p z : ByteArray) (e : Int) (hd : d.size = 10) (hD : isD d.data.toList 0 = true) (ht : t.size = 8) (hT : isC t.data.toList 0 = true) (hz : z.size < 2) (w : World) :
    Calls Tryd.prog 32 #[.agg #[.string d, .string t, .string p, .string z, .int .i64 e]] w fun x w' => x = .returned (.bool (dateN (twN d.data.toList 0) (twN d.data.toList 2) (twN d.data.toList 5) (twN d.data.toList 8) && timeN (twN t.data.toList 0) (twN t.data.toList 3) (twN t.data.toList 6))) ∧ Below w.heap.size w w' := by
  obtain ⟨t0, t2, t5, t8⟩ := isD_tw hD
  obtain ⟨a0, l0, n0⟩ := tw_nat t0
  obtain ⟨a2, l2, n2⟩ := tw_nat t2
  obtain ⟨a5, l5, n5⟩ := tw_nat t5
  obtain ⟨a8, l8, n8⟩ := tw_nat t8
  obtain ⟨dd, hdd⟩ : ∃ dd, Hid (daysN (100 * a0 + a2) a5 = dd) := ⟨daysN (100 * a0 + a2) a5, rfl⟩
  have hw5 : Hid (∀ (lo hi : Int) (w : World), Calls Tryd.prog 45 #[.string (d.extract 5 10), .int .i64 lo, .int .i64 hi] w fun e w' => e = .returned (.bool (decide (lo ≤ (a5 : Int) ∧ (a5 : Int) ≤ hi))) ∧ Below w.heap.size w w') := fun lo hi w => within_is (d.extract 5 10) a5 (by rw [ByteArray.size_extract]; omega) (by rw [ext_cut, tw_drop, tw_take (by omega)]; exact t5) (by rw [ext_cut, twN_drop, twN_take (by omega)]; exact n5) lo hi w
  have hw8 : Hid (∀ (lo hi : Int) (w : World), Calls Tryd.prog 45 #[.string (d.extract 8 10), .int .i64 lo, .int .i64 hi] w fun e w' => e = .returned (.bool (decide (lo ≤ (a8 : Int) ∧ (a8 : Int) ≤ hi))) ∧ Below w.heap.size w w') := fun lo hi w => within_is (d.extract 8 10) a8 (by rw [ByteArray.size_extract]; omega) (by rw [ext_cut, tw_drop, tw_take (by omega)]; exact t8) (by rw [ext_cut, twN_drop, twN_take (by omega)]; exact n8) lo hi w
  have hY := Lib.hid (fun w => atoi_is (d.extract 0 4) ((100 * a0 + a2 : Nat) : Int) (by rw [ByteArray.size_extract]; omega) (by rw [ext_list, atoi4 t0 t2, show twN d.data.toList 0 = a0 from n0, show twN d.data.toList (0 + 2) = a2 from n2]) w)
  have hMo := Lib.hid (fun w => atoi_is (d.extract 5 7) a5 (by rw [ByteArray.size_extract]; omega) (by rw [ext_list, atoi2 t5, show twN d.data.toList (0 + 5) = a5 from n5]) w)
  obtain ⟨e1, e2⟩ := str_full (t := d) (by omega)
  obtain ⟨u0, u3, u6⟩ := isC_tw hT
  obtain ⟨b0, m0, r0⟩ := tw_nat u0
  obtain ⟨b3, m3, r3⟩ := tw_nat u3
  obtain ⟨b6, m6, r6⟩ := tw_nat u6
  have hw0 : Hid (∀ (lo hi : Int) (w : World), Calls Tryd.prog 45 #[.string (t), .int .i64 lo, .int .i64 hi] w fun e w' => e = .returned (.bool (decide (lo ≤ (b0 : Int) ∧ (b0 : Int) ≤ hi))) ∧ Below w.heap.size w w') := fun lo hi w => within_is t b0 (by omega) u0 r0 lo hi w
  have hw3 : Hid (∀ (lo hi : Int) (w : World), Calls Tryd.prog 45 #[.string (t.extract 3 8), .int .i64 lo, .int .i64 hi] w fun e w' => e = .returned (.bool (decide (lo ≤ (b3 : Int) ∧ (b3 : Int) ≤ hi))) ∧ Below w.heap.size w w') := fun lo hi w => within_is (t.extract 3 8) b3 (by rw [ByteArray.size_extract]; omega) (by rw [ext_cut, tw_drop, tw_take (by omega)]; exact u3) (by rw [ext_cut, twN_drop, twN_take (by omega)]; exact r3) lo hi w
  have hw6 : Hid (∀ (lo hi : Int) (w : World), Calls Tryd.prog 45 #[.string (t.extract 6 8), .int .i64 lo, .int .i64 hi] w fun e w' => e = .returned (.bool (decide (lo ≤ (b6 : Int) ∧ (b6 : Int) ≤ hi))) ∧ Below w.heap.size w w') := fun lo hi w => within_is (t.extract 6 8) b6 (by rw [ByteArray.size_extract]; omega) (by rw [ext_cut, tw_drop, tw_take (by omega)]; exact u6) (by rw [ext_cut, twN_drop, twN_take (by omega)]; exact r6) lo hi w
  obtain ⟨f1, f2⟩ := str_full (t := t) (by omega)
  have h59 : ((t.extract 3 5).toList == [53, 57]) = decide (b3 = 59) := by rw [ByteArray.toList_eq, ext_list]; rw [← is59 u3, show twN t.data.toList (0 + 3) = b3 from r3]
  have hM : Hid ((dateN (twN d.data.toList 0) (twN d.data.toList 2) (twN d.data.toList 5) (twN d.data.toList 8) && timeN (twN t.data.toList 0) (twN t.data.toList 3) (twN t.data.toList 6)) = decide ((1 ≤ a5 ∧ a5 ≤ 12 ∧ 1 ≤ a8 ∧ a8 ≤ dd) ∧ (b0 ≤ 23 ∧ b3 ≤ 59 ∧ (b6 ≤ 59 ∨ (b6 = 60 ∧ b3 = 59))))) := by
    show _ = _
    rw [n0, show twN d.data.toList 2 = a2 from n2, show twN d.data.toList 5 = a5 from n5, show twN d.data.toList 8 = a8 from n8, r0, show twN t.data.toList 3 = b3 from r3, show twN t.data.toList 6 = b6 from r6, dateN, hdd.out, timeN, ← Bool.decide_and]
  clear hD t0 t2 t5 t8 n0 n2 n5 n8 hT u0 u3 u6 r0 r3 r6
  have HC : Hid (CB (w.alloc (.cells #[.string d, .string t, .string p, .string z, .int .i64 e] 59)) w.heap.size d t p z e) := heap_new1 w _
  have HB : Hid (Below w.heap.size w (w.alloc (.cells #[.string d, .string t, .string p, .string z, .int .i64 e] 59))) := below_new1 w _
  obtain ⟨d0, d1, d2, d3, d4, df, dz⟩ := HC.out.facts
  go_enter Tryd.func32, Tryd.ntmps32
  go_wp2_with ((go_at_call 44; (first | (with_reducible refine (hY.out _).mono ?_) | (with_reducible refine (hMo.out _).mono ?_)); rintro x w' ⟨rfl, hb'⟩; replace HC := Lib.hid (HC.out.later hb'); replace HB := Lib.hid (HB.out.trans (hb'.mono HB.out.size)); clear hb' d0 d1 d2 d3 d4 df dz; obtain ⟨d0, d1, d2, d3, d4, df, dz⟩ := HC.out.facts))
  have hD5 : Hid (∀ n : Later w', Calls Tryd.prog 46 #[.int .i64 (100 * (a0 : Int) + (a2 : Int)), .int .i64 (a5 : Int)] n.at_ fun x w'' => x = .returned (.int .i64 (dd : Int)) ∧ ∃ m : Later w', w'' = m.at_) := fun n => (days_k _ _ (100 * a0 + a2) a5 dd (by omega) (by omega) (by omega) (by omega) hdd n.at_).mono fun _ _ ⟨h1, h2⟩ => ⟨h1, n, h2.symm⟩
  have hq0 : ∀ n : Later w', n.at_.cell? ⟨w.heap.size, 0, none⟩ = some (.string d) := fun n => (HC.out.later n.below).facts.1
  by_cases h1 : 1 ≤ a5 ∧ a5 ≤ 12
  · have C1 := Lib.hid (later_call (w0 := w') (hw5.out 1 12))
    rw [show decide ((1 : Int) ≤ (a5 : Int) ∧ (a5 : Int) ≤ 12) = true from decide_eq_true (by omega)] at C1
    have C2 := Lib.hid (later_call (w0 := w') (hw8.out 1 (dd : Int)))
    by_cases h2 : 1 ≤ a8 ∧ a8 ≤ dd
    · rw [show decide ((1 : Int) ≤ (a8 : Int) ∧ (a8 : Int) ≤ (dd : Int)) = true from decide_eq_true (by omega)] at C2
      refine wp_region_later w' (by kernel_rfl) (by kernel_rfl) (Below.refl _ _) ?_
      repeat (go_big_quiet_step (first
        | (go_at_call 45; with_reducible exact C1.out _)
        | (go_at_call 46; with_reducible exact hD5.out _)
        | (go_at_call 45; with_reducible exact C2.out _)))
      refine wpQuiet_nil ?_
      rintro _ ⟨⟨w5, hb5⟩, rfl⟩
      replace HC := Lib.hid (HC.out.later hb5); replace HB := Lib.hid (HB.out.trans (hb5.mono HB.out.size)); clear hb5 hq0 C1 C2 hD5 d0 d1 d2 d3 d4 df dz; obtain ⟨d0, d1, d2, d3, d4, df, dz⟩ := HC.out.facts
      go_wp2_with ((go_at_call 45; (first | (with_reducible refine (hw0.out _ _ _).mono ?_) | (with_reducible refine (hw3.out _ _ _).mono ?_) | (with_reducible refine (hw6.out _ _ _).mono ?_)); rintro x w' ⟨rfl, hb'⟩; replace HC := Lib.hid (HC.out.later hb'); replace HB := Lib.hid (HB.out.trans (hb'.mono HB.out.size)); clear hb' d0 d1 d2 d3 d4 df dz; obtain ⟨d0, d1, d2, d3, d4, df, dz⟩ := HC.out.facts))
      all_goals (
        go_ret
        refine ⟨ret_bool ?_, HB.out⟩
        rw [hM.out]; symm
        try simp only [Bool.not_eq_true', Bool.not_eq_false', decide_eq_true_eq, decide_eq_false_iff_not] at *
        first | omega | exact decide_eq_true (by omega) | exact decide_eq_false (by omega) | (rw [Bool.eq_iff_iff]; simp; omega) | skip)
    · rw [show decide ((1 : Int) ≤ (a8 : Int) ∧ (a8 : Int) ≤ (dd : Int)) = false from decide_eq_false (by omega)] at C2
      refine wp_region_later w' (by kernel_rfl) (by kernel_rfl) (Below.refl _ _) ?_
      repeat (go_big_quiet_step (first
        | (go_at_call 45; with_reducible exact C1.out _)
        | (go_at_call 46; with_reducible exact hD5.out _)
        | (go_at_call 45; with_reducible exact C2.out _)))
      refine wpQuiet_nil ?_
      rintro _ ⟨⟨w5, hb5⟩, rfl⟩
      replace HC := Lib.hid (HC.out.later hb5); replace HB := Lib.hid (HB.out.trans (hb5.mono HB.out.size)); clear hb5 hq0 C1 C2 hD5 d0 d1 d2 d3 d4 df dz; obtain ⟨d0, d1, d2, d3, d4, df, dz⟩ := HC.out.facts
      go_wp2
      all_goals (
        go_ret
        refine ⟨ret_bool ?_, HB.out⟩
        rw [hM.out]; symm
        try simp only [decide_eq_false_iff_not] at *
        first | omega | exact decide_eq_true (by omega) | exact decide_eq_false (by omega) | (rw [Bool.eq_iff_iff]; simp; omega) | skip)
  · have C1 := Lib.hid (later_call (w0 := w') (hw5.out 1 12))
    rw [show decide ((1 : Int) ≤ (a5 : Int) ∧ (a5 : Int) ≤ 12) = false from decide_eq_false (by omega)] at C1
    have C2 : Hid True := trivial
    refine wp_region_later w' (by kernel_rfl) (by kernel_rfl) (Below.refl _ _) ?_
    repeat (go_big_quiet_step (first
      | (go_at_call 45; with_reducible exact C1.out _)
      | (go_at_call 46; with_reducible exact hD5.out _)
      | (go_at_call 45; with_reducible exact C2.out _)))
    refine wpQuiet_nil ?_
    rintro _ ⟨⟨w5, hb5⟩, rfl⟩
    replace HC := Lib.hid (HC.out.later hb5); replace HB := Lib.hid (HB.out.trans (hb5.mono HB.out.size)); clear hb5 hq0 C1 C2 hD5 d0 d1 d2 d3 d4 df dz; obtain ⟨d0, d1, d2, d3, d4, df, dz⟩ := HC.out.facts
    go_wp2
    all_goals (
      go_ret
      refine ⟨ret_bool ?_, HB.out⟩
      rw [hM.out]; symm
      try simp only [decide_eq_false_iff_not] at *
      first | omega | exact decide_eq_true (by omega) | exact decide_eq_false (by omega) | (rw [Bool.eq_iff_iff]; simp; omega) | skip)
set_option maxRecDepth 100000 in
set_option maxHeartbeats 4000000 in
theorem imay_zone (d t p z : ByteArray) (e : Int) (hd : d.size = 10) (hD : isD d.data.toList 0 = true) (ht : t.size = 8) (hT : isC t.data.toList 0 = true) (hz : z.size = 6) (hZ : isZ z.data.toList 1 = true) (w : World) :
    Calls Tryd.prog 32 #[.agg #[.string d, .string t, .string p, .string z, .int .i64 e]] w fun x w' => x = .returned (.bool ((dateN (twN d.data.toList 0) (twN d.data.toList 2) (twN d.data.toList 5) (twN d.data.toList 8)) && (timeN (twN t.data.toList 0) (twN t.data.toList 3) (twN t.data.toList 6) && zonN (twN z.data.toList 1) (twN z.data.toList 4)))) ∧ Below w.heap.size w w' := by
  obtain ⟨t0, t2, t5, t8⟩ := isD_tw hD
  obtain ⟨a0, l0, n0⟩ := tw_nat t0
  obtain ⟨a2, l2, n2⟩ := tw_nat t2
  obtain ⟨a5, l5, n5⟩ := tw_nat t5
  obtain ⟨a8, l8, n8⟩ := tw_nat t8
  obtain ⟨dd, hdd⟩ : ∃ dd, Hid (daysN (100 * a0 + a2) a5 = dd) := ⟨daysN (100 * a0 + a2) a5, rfl⟩
  have hw5 : Hid (∀ (lo hi : Int) (w : World), Calls Tryd.prog 45 #[.string (d.extract 5 10), .int .i64 lo, .int .i64 hi] w fun e w' => e = .returned (.bool (decide (lo ≤ (a5 : Int) ∧ (a5 : Int) ≤ hi))) ∧ Below w.heap.size w w') := fun lo hi w => within_is (d.extract 5 10) a5 (by rw [ByteArray.size_extract]; omega) (by rw [ext_cut, tw_drop, tw_take (by omega)]; exact t5) (by rw [ext_cut, twN_drop, twN_take (by omega)]; exact n5) lo hi w
  have hw8 : Hid (∀ (lo hi : Int) (w : World), Calls Tryd.prog 45 #[.string (d.extract 8 10), .int .i64 lo, .int .i64 hi] w fun e w' => e = .returned (.bool (decide (lo ≤ (a8 : Int) ∧ (a8 : Int) ≤ hi))) ∧ Below w.heap.size w w') := fun lo hi w => within_is (d.extract 8 10) a8 (by rw [ByteArray.size_extract]; omega) (by rw [ext_cut, tw_drop, tw_take (by omega)]; exact t8) (by rw [ext_cut, twN_drop, twN_take (by omega)]; exact n8) lo hi w
  have hY := Lib.hid (fun w => atoi_is (d.extract 0 4) ((100 * a0 + a2 : Nat) : Int) (by rw [ByteArray.size_extract]; omega) (by rw [ext_list, atoi4 t0 t2, show twN d.data.toList 0 = a0 from n0, show twN d.data.toList (0 + 2) = a2 from n2]) w)
  have hMo := Lib.hid (fun w => atoi_is (d.extract 5 7) a5 (by rw [ByteArray.size_extract]; omega) (by rw [ext_list, atoi2 t5, show twN d.data.toList (0 + 5) = a5 from n5]) w)
  obtain ⟨e1, e2⟩ := str_full (t := d) (by omega)
  obtain ⟨u0, u3, u6⟩ := isC_tw hT
  obtain ⟨b0, m0, r0⟩ := tw_nat u0
  obtain ⟨b3, m3, r3⟩ := tw_nat u3
  obtain ⟨b6, m6, r6⟩ := tw_nat u6
  have hw0 : Hid (∀ (lo hi : Int) (w : World), Calls Tryd.prog 45 #[.string (t), .int .i64 lo, .int .i64 hi] w fun e w' => e = .returned (.bool (decide (lo ≤ (b0 : Int) ∧ (b0 : Int) ≤ hi))) ∧ Below w.heap.size w w') := fun lo hi w => within_is t b0 (by omega) u0 r0 lo hi w
  have hw3 : Hid (∀ (lo hi : Int) (w : World), Calls Tryd.prog 45 #[.string (t.extract 3 8), .int .i64 lo, .int .i64 hi] w fun e w' => e = .returned (.bool (decide (lo ≤ (b3 : Int) ∧ (b3 : Int) ≤ hi))) ∧ Below w.heap.size w w') := fun lo hi w => within_is (t.extract 3 8) b3 (by rw [ByteArray.size_extract]; omega) (by rw [ext_cut, tw_drop, tw_take (by omega)]; exact u3) (by rw [ext_cut, twN_drop, twN_take (by omega)]; exact r3) lo hi w
  have hw6 : Hid (∀ (lo hi : Int) (w : World), Calls Tryd.prog 45 #[.string (t.extract 6 8), .int .i64 lo, .int .i64 hi] w fun e w' => e = .returned (.bool (decide (lo ≤ (b6 : Int) ∧ (b6 : Int) ≤ hi))) ∧ Below w.heap.size w w') := fun lo hi w => within_is (t.extract 6 8) b6 (by rw [ByteArray.size_extract]; omega) (by rw [ext_cut, tw_drop, tw_take (by omega)]; exact u6) (by rw [ext_cut, twN_drop, twN_take (by omega)]; exact r6) lo hi w
  obtain ⟨f1, f2⟩ := str_full (t := t) (by omega)
  have h59 : ((t.extract 3 5).toList == [53, 57]) = decide (b3 = 59) := by rw [ByteArray.toList_eq, ext_list]; rw [← is59 u3, show twN t.data.toList (0 + 3) = b3 from r3]
  obtain ⟨x1, x4⟩ := isZ_tw hZ
  obtain ⟨c1, o1, s1⟩ := tw_nat x1
  obtain ⟨c4, o4, s4⟩ := tw_nat x4
  have hv1 : Hid (∀ (lo hi : Int) (w : World), Calls Tryd.prog 45 #[.string (z.extract 1 6), .int .i64 lo, .int .i64 hi] w fun e w' => e = .returned (.bool (decide (lo ≤ (c1 : Int) ∧ (c1 : Int) ≤ hi))) ∧ Below w.heap.size w w') := fun lo hi w => within_is (z.extract 1 6) c1 (by rw [ByteArray.size_extract]; omega) (by rw [ext_cut, tw_drop, tw_take (by omega)]; exact x1) (by rw [ext_cut, twN_drop, twN_take (by omega)]; exact s1) lo hi w
  have hv4 : Hid (∀ (lo hi : Int) (w : World), Calls Tryd.prog 45 #[.string (z.extract 4 6), .int .i64 lo, .int .i64 hi] w fun e w' => e = .returned (.bool (decide (lo ≤ (c4 : Int) ∧ (c4 : Int) ≤ hi))) ∧ Below w.heap.size w w') := fun lo hi w => within_is (z.extract 4 6) c4 (by rw [ByteArray.size_extract]; omega) (by rw [ext_cut, tw_drop, tw_take (by omega)]; exact x4) (by rw [ext_cut, twN_drop, twN_take (by omega)]; exact s4) lo hi w
  have hM : Hid (((dateN (twN d.data.toList 0) (twN d.data.toList 2) (twN d.data.toList 5) (twN d.data.toList 8)) && (timeN (twN t.data.toList 0) (twN t.data.toList 3) (twN t.data.toList 6) && zonN (twN z.data.toList 1) (twN z.data.toList 4))) = decide ((1 ≤ a5 ∧ a5 ≤ 12 ∧ 1 ≤ a8 ∧ a8 ≤ dd) ∧ (b0 ≤ 23 ∧ b3 ≤ 59 ∧ (b6 ≤ 59 ∨ (b6 = 60 ∧ b3 = 59))) ∧ (c1 ≤ 23 ∧ c4 ≤ 59))) := by
    show _ = _
    rw [n0, show twN d.data.toList 2 = a2 from n2, show twN d.data.toList 5 = a5 from n5, show twN d.data.toList 8 = a8 from n8, r0, show twN t.data.toList 3 = b3 from r3, show twN t.data.toList 6 = b6 from r6, dateN, hdd.out, timeN, s1, show twN z.data.toList 4 = c4 from s4, zonN, ← Bool.decide_and, ← Bool.decide_and]
  clear hD t0 t2 t5 t8 n0 n2 n5 n8 hT u0 u3 u6 r0 r3 r6 hZ x1 x4 s1 s4
  have HC : Hid (CB (w.alloc (.cells #[.string d, .string t, .string p, .string z, .int .i64 e] 59)) w.heap.size d t p z e) := heap_new1 w _
  have HB : Hid (Below w.heap.size w (w.alloc (.cells #[.string d, .string t, .string p, .string z, .int .i64 e] 59))) := below_new1 w _
  obtain ⟨d0, d1, d2, d3, d4, df, dz⟩ := HC.out.facts
  go_enter Tryd.func32, Tryd.ntmps32
  go_wp2_with ((go_at_call 44; (first | (with_reducible refine (hY.out _).mono ?_) | (with_reducible refine (hMo.out _).mono ?_)); rintro x w' ⟨rfl, hb'⟩; replace HC := Lib.hid (HC.out.later hb'); replace HB := Lib.hid (HB.out.trans (hb'.mono HB.out.size)); clear hb' d0 d1 d2 d3 d4 df dz; obtain ⟨d0, d1, d2, d3, d4, df, dz⟩ := HC.out.facts))
  have hD5 : Hid (∀ n : Later w', Calls Tryd.prog 46 #[.int .i64 (100 * (a0 : Int) + (a2 : Int)), .int .i64 (a5 : Int)] n.at_ fun x w'' => x = .returned (.int .i64 (dd : Int)) ∧ ∃ m : Later w', w'' = m.at_) := fun n => (days_k _ _ (100 * a0 + a2) a5 dd (by omega) (by omega) (by omega) (by omega) hdd n.at_).mono fun _ _ ⟨h1, h2⟩ => ⟨h1, n, h2.symm⟩
  have hq0 : ∀ n : Later w', n.at_.cell? ⟨w.heap.size, 0, none⟩ = some (.string d) := fun n => (HC.out.later n.below).facts.1
  by_cases h1 : 1 ≤ a5 ∧ a5 ≤ 12
  · have C1 := Lib.hid (later_call (w0 := w') (hw5.out 1 12))
    rw [show decide ((1 : Int) ≤ (a5 : Int) ∧ (a5 : Int) ≤ 12) = true from decide_eq_true (by omega)] at C1
    have C2 := Lib.hid (later_call (w0 := w') (hw8.out 1 (dd : Int)))
    by_cases h2 : 1 ≤ a8 ∧ a8 ≤ dd
    · rw [show decide ((1 : Int) ≤ (a8 : Int) ∧ (a8 : Int) ≤ (dd : Int)) = true from decide_eq_true (by omega)] at C2
      refine wp_region_later w' (by kernel_rfl) (by kernel_rfl) (Below.refl _ _) ?_
      repeat (go_big_quiet_step (first
        | (go_at_call 45; with_reducible exact C1.out _)
        | (go_at_call 46; with_reducible exact hD5.out _)
        | (go_at_call 45; with_reducible exact C2.out _)))
      refine wpQuiet_nil ?_
      rintro _ ⟨⟨w5, hb5⟩, rfl⟩
      replace HC := Lib.hid (HC.out.later hb5); replace HB := Lib.hid (HB.out.trans (hb5.mono HB.out.size)); clear hb5 hq0 C1 C2 hD5 d0 d1 d2 d3 d4 df dz; obtain ⟨d0, d1, d2, d3, d4, df, dz⟩ := HC.out.facts
      go_wp2_with ((go_at_call 45; (first | (with_reducible refine (hw0.out _ _ _).mono ?_) | (with_reducible refine (hw3.out _ _ _).mono ?_) | (with_reducible refine (hw6.out _ _ _).mono ?_) | (with_reducible refine (hv1.out _ _ _).mono ?_) | (with_reducible refine (hv4.out _ _ _).mono ?_)); rintro x w' ⟨rfl, hb'⟩; replace HC := Lib.hid (HC.out.later hb'); replace HB := Lib.hid (HB.out.trans (hb'.mono HB.out.size)); clear hb' d0 d1 d2 d3 d4 df dz; obtain ⟨d0, d1, d2, d3, d4, df, dz⟩ := HC.out.facts))
      all_goals (
        go_ret
        refine ⟨ret_bool ?_, HB.out⟩
        rw [hM.out]; symm
        try simp only [Bool.not_eq_true', Bool.not_eq_false', decide_eq_true_eq, decide_eq_false_iff_not] at *
        first | omega | exact decide_eq_true (by omega) | exact decide_eq_false (by omega) | (rw [Bool.eq_iff_iff]; simp; omega) | skip)
    · rw [show decide ((1 : Int) ≤ (a8 : Int) ∧ (a8 : Int) ≤ (dd : Int)) = false from decide_eq_false (by omega)] at C2
      refine wp_region_later w' (by kernel_rfl) (by kernel_rfl) (Below.refl _ _) ?_
      repeat (go_big_quiet_step (first
        | (go_at_call 45; with_reducible exact C1.out _)
        | (go_at_call 46; with_reducible exact hD5.out _)
        | (go_at_call 45; with_reducible exact C2.out _)))
      refine wpQuiet_nil ?_
      rintro _ ⟨⟨w5, hb5⟩, rfl⟩
      replace HC := Lib.hid (HC.out.later hb5); replace HB := Lib.hid (HB.out.trans (hb5.mono HB.out.size)); clear hb5 hq0 C1 C2 hD5 d0 d1 d2 d3 d4 df dz; obtain ⟨d0, d1, d2, d3, d4, df, dz⟩ := HC.out.facts
      go_wp2
      all_goals (
        go_ret
        refine ⟨ret_bool ?_, HB.out⟩
        rw [hM.out]; symm
        try simp only [decide_eq_false_iff_not] at *
        first | omega | exact decide_eq_true (by omega) | exact decide_eq_false (by omega) | (rw [Bool.eq_iff_iff]; simp; omega) | skip)
  · have C1 := Lib.hid (later_call (w0 := w') (hw5.out 1 12))
    rw [show decide ((1 : Int) ≤ (a5 : Int) ∧ (a5 : Int) ≤ 12) = false from decide_eq_false (by omega)] at C1
    have C2 : Hid True := trivial
    refine wp_region_later w' (by kernel_rfl) (by kernel_rfl) (Below.refl _ _) ?_
    repeat (go_big_quiet_step (first
      | (go_at_call 45; with_reducible exact C1.out _)
      | (go_at_call 46; with_reducible exact hD5.out _)
      | (go_at_call 45; with_reducible exact C2.out _)))
    refine wpQuiet_nil ?_
    rintro _ ⟨⟨w5, hb5⟩, rfl⟩
    replace HC := Lib.hid (HC.out.later hb5); replace HB := Lib.hid (HB.out.trans (hb5.mono HB.out.size)); clear hb5 hq0 C1 C2 hD5 d0 d1 d2 d3 d4 df dz; obtain ⟨d0, d1, d2, d3, d4, df, dz⟩ := HC.out.facts
    go_wp2
    all_goals (
      go_ret
      refine ⟨ret_bool ?_, HB.out⟩
      rw [hM.out]; symm
      try simp only [decide_eq_false_iff_not] at *
      first | omega | exact decide_eq_true (by omega) | exact decide_eq_false (by omega) | (rw [Bool.eq_iff_iff]; simp; omega) | skip)
end Go.Proofs.YtgchhogdbigafaaDoor
