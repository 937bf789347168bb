/- Walks over the reference of chapter 02: Less; no statement of the seat is proved here. -/
import Derived.Test.YtncldnghhpdolaaGreatDoorDcRS
namespace Go.Proofs.YtncldnghhpdolaaGreatDoor
open Go.RowKit

theorem cb_cons (a b : UInt8) (l k : List UInt8) : Lib.compareBytes (a :: l) (b :: k) = if a < b then -1 else if b < a then 1 else Lib.compareBytes l k := rfl
theorem cb_ne {d e : ByteArray} {k : Nat} (h1 : k < d.size) (h2 : k < e.size) (hne : d[k] ≠ e[k]) : decide (Lib.compareBytes (d.data.toList.drop k) (e.data.toList.drop k) < 0) = decide ((d[k].toNat : Int) < (e[k].toNat : Int)) := by
  rw [List.drop_eq_getElem_cons (show k < d.data.toList.length from h1), List.drop_eq_getElem_cons (show k < e.data.toList.length from h2)]
  show decide (Lib.compareBytes (d[k] :: _) (e[k] :: _) < 0) = _
  have e1 := @u8_lt d[k] e[k]
  have e2 := @u8_lt e[k] d[k]
  have hn : d[k].toNat ≠ e[k].toNat := fun q => hne (UInt8.toNat_inj.1 q)
  rw [cb_cons, Bool.eq_iff_iff, decide_eq_true_iff, decide_eq_true_iff]
  by_cases g : d[k] < e[k]
  · rw [if_pos g]; rw [e1] at g; omega
  · rw [if_neg g, if_pos (show e[k] < d[k] by rw [e2]; rw [e1] at g; omega)]
    rw [e1] at g; omega
theorem cb_eq {d e : ByteArray} {k : Nat} (h1 : k < d.size) (h2 : k < e.size) (heq : d[k] = e[k]) : Lib.compareBytes (d.data.toList.drop k) (e.data.toList.drop k) = Lib.compareBytes (d.data.toList.drop (k + 1)) (e.data.toList.drop (k + 1)) := by
  rw [List.drop_eq_getElem_cons (show k < d.data.toList.length from h1), List.drop_eq_getElem_cons (show k < e.data.toList.length from h2)]
  show Lib.compareBytes (d[k] :: _) (e[k] :: _) = _
  have e1 := @u8_lt e[k] e[k]
  rw [cb_cons, heq, if_neg (by rw [e1]; omega), if_neg (by rw [e1]; omega)]
theorem cb_end {d e : ByteArray} {k : Nat} (hk : k ≤ d.size) (hk' : k ≤ e.size) (h : ¬ k < d.size ∨ ¬ k < e.size) : decide (Lib.compareBytes (d.data.toList.drop k) (e.data.toList.drop k) < 0) = decide ((d.size : Int) < (e.size : Int)) := by
  by_cases h1 : k < d.size
  · have h2 : ¬ k < e.size := h.resolve_left (fun q => q h1)
    rw [List.drop_eq_nil_of_le (show e.data.toList.length ≤ k by rw [size_list]; omega), List.drop_eq_getElem_cons (show k < d.data.toList.length from h1)]
    rw [Bool.eq_iff_iff, decide_eq_true_iff, decide_eq_true_iff]
    simp [Lib.compareBytes]; omega
  · rw [List.drop_eq_nil_of_le (show d.data.toList.length ≤ k by rw [size_list]; omega)]
    by_cases h2 : k < e.size
    · rw [List.drop_eq_getElem_cons (show k < e.data.toList.length from h2), Bool.eq_iff_iff, decide_eq_true_iff, decide_eq_true_iff]
      simp [Lib.compareBytes]; omega
    · rw [List.drop_eq_nil_of_le (show e.data.toList.length ≤ k by rw [size_list]; omega), Bool.eq_iff_iff, decide_eq_true_iff, decide_eq_true_iff]
      simp [Lib.compareBytes]; omega

theorem size_lt (m m' : Bool) (d e : ByteArray) (x y : Int) : decide (sizeD ⟨m, d.data.toList, x⟩ ⟨m', e.data.toList, y⟩ < 0) = if x + d.size = y + e.size then decide (Lib.compareBytes d.data.toList e.data.toList < 0) else decide (x + d.size < y + e.size) := by
  rw [sz_eq]
  show decide ((if (d.data.toList.length : Int) + x < (e.data.toList.length : Int) + y then -1 else if (e.data.toList.length : Int) + y < (d.data.toList.length : Int) + x then 1 else Lib.compareBytes d.data.toList e.data.toList) < 0) = _
  rw [size_list, size_list]
  by_cases h : x + d.size = y + e.size
  · rw [if_pos h, if_neg (by omega), if_neg (by omega)]
  · rw [if_neg h]
    by_cases h1 : (d.size : Int) + x < (e.size : Int) + y
    · rw [if_pos h1]
      rw [decide_eq_true (show x + d.size < y + e.size by omega)]; rfl
    · rw [if_neg h1, if_pos (by omega), decide_eq_false (show ¬ x + d.size < y + e.size by omega)]; rfl
set_option maxRecDepth 100000 in
set_option maxHeartbeats 8000000 in
theorem rless_is (s t : ByteArray) (hs : s.size ≤ 549755813888) (ht : t.size ≤ 549755813888) (b : Bool) (hb : lessT s.data.toList t.data.toList = b) (w : World) :
    Calls Tryz.prog 26 #[.string s, .string t] w fun x w' => x = .returned (.bool b) ∧ Below w.heap.size w w' := by
  obtain ⟨m1, d1, e1, b1, h1⟩ := Told.ex s.data.toList
  obtain ⟨m2, d2, e2, b2, h2⟩ := Told.ex t.data.toList
  have P1 := Lib.hid (fun w => rparts_is s d1 m1 e1 b1 hs h1 w)
  have P2 := Lib.hid (fun w => rparts_is t d2 m2 e2 b2 ht h2 w)
  unfold Told at h1 h2
  unfold lessT at hb
  cases b1
  · rw [if_neg (by simp)] at h1
    rw [h1.1] at hb
    subst hb
    clear h1 h2
    go_enter Tryz.func26, Tryz.ntmps26
    go_wp2_with (first
      | (go_at_call 56; (with_reducible refine (P1.out _).mono ?_); rintro x w1 ⟨rfl, hb1⟩)
      | (go_at_call 56; (with_reducible refine (P2.out _).mono ?_); rintro x w2 ⟨rfl, hb2⟩))
    go_ret
    exact ⟨rfl, hb1.trans (hb2.mono hb1.size)⟩
  · rw [if_pos rfl] at h1
    rw [h1] at hb
    cases b2
    · rw [if_neg (by simp)] at h2
      rw [h2.1] at hb
      subst hb
      clear h1 h2
      go_enter Tryz.func26, Tryz.ntmps26
      go_wp2_with (first
        | (go_at_call 56; (with_reducible refine (P1.out _).mono ?_); rintro x w1 ⟨rfl, hb1⟩)
        | (go_at_call 56; (with_reducible refine (P2.out _).mono ?_); rintro x w2 ⟨rfl, hb2⟩))
      go_ret
      exact ⟨rfl, hb1.trans (hb2.mono hb1.size)⟩
    · rw [if_pos rfl] at h2
      rw [h2] at hb
      obtain ⟨n1, k1⟩ := parse_some h1
      obtain ⟨n2, k2⟩ := parse_some h2
      have hs1 : d1.size ≤ 1099511627776 := by
        have h3 := text_ge ⟨m1, d1.data.toList, e1⟩
        rw [← k1] at h3
        have h4 : d1.data.toList.length = d1.size := rfl
        have h5 : s.data.toList.length = s.size := rfl
        simp only at h3; omega
      have hs2 : d2.size ≤ 1099511627776 := by
        have h3 := text_ge ⟨m2, d2.data.toList, e2⟩
        rw [← k2] at h3
        have h4 : d2.data.toList.length = d2.size := rfl
        have h5 : t.data.toList.length = t.size := rfl
        simp only at h3; omega
      have i1 : -1000000000 ≤ e1 ∧ e1 ≤ 1000000000 := inB_t.1 n1.inb
      have i2 : -1000000000 ≤ e2 ∧ e2 ≤ 1000000000 := inB_t.1 n2.inb
      obtain ⟨i1, i1'⟩ := i1
      obtain ⟨i2, i2'⟩ := i2
      by_cases hst : s = t
      · subst hst
        have hbf : b = false := by
          rw [← hb]
          have : (⟨m1, d1.data.toList, e1⟩ : Dm) = ⟨m2, d2.data.toList, e2⟩ := Option.some.inj (h1.symm.trans h2)
          rw [this]; exact less_self _
        subst hbf
        have HB : Hid (Below w.heap.size w w) := Below.refl _ _
        clear h1 h2 hb n1 n2 k1 k2
        go_enter Tryz.func26, Tryz.ntmps26
        go_wp2_with (go_at_call 56; (first | (with_reducible refine (P1.out _).mono ?_) | (with_reducible refine (P2.out _).mono ?_)); rintro x w1 ⟨rfl, hb1⟩; replace HB := Lib.hid (HB.out.trans (hb1.mono HB.out.size)); clear hb1)
        go_ret
        exact ⟨rfl, HB.out⟩
      · have hst' : s.data.toList ≠ t.data.toList := fun q => hst (str_of q)
        have G1 := beq_str hst'
        have G2 : ¬ s.toList = t.toList := by rw [ByteArray.toList_eq, ByteArray.toList_eq]; exact hst'
        by_cases hz1 : d1.data.toList = [48]
        · have hd2 : d2.data.toList ≠ [48] := by
            intro q
            apply hst'
            rw [k1, k2, norm_zero n1 hz1, norm_zero n2 q]
          have hbb : b = !m2 := by
            rw [← hb]
            show lessD ⟨m1, d1.data.toList, e1⟩ ⟨m2, d2.data.toList, e2⟩ = _
            have q1 : (⟨m1, d1.data.toList, e1⟩ : Dm).sg = 0 := by rw [Dm.sg, if_pos hz1]
            have q2 : (⟨m2, d2.data.toList, e2⟩ : Dm).sg = if m2 then -1 else 1 := by rw [Dm.sg, if_neg hd2]
            unfold lessD
            rw [q1, q2]; cases m2 <;> simp
          obtain rfl := str_is hz1
          have HBB := Lib.hid hbb
          clear h1 h2 hb n1 n2 k1 k2 hst hst' hz1 hd2 hbb
          go_enter Tryz.func26, Tryz.ntmps26
          go_wp2_with (first
            | (go_at_call 56; (with_reducible refine (P1.out _).mono ?_); rintro x w1 ⟨rfl, hb1⟩)
            | (go_at_call 56; (with_reducible refine (P2.out _).mono ?_); rintro x w2 ⟨rfl, hb2⟩))
          go_ret
          exact ⟨ret_bool HBB.out.symm, hb1.trans (hb2.mono hb1.size)⟩
        · have F1 : (d1.toList == [48]) = false := by rw [ByteArray.toList_eq]; simpa using hz1
          have F2 : ¬ d1.toList = [48] := by rw [ByteArray.toList_eq]; exact hz1
          have q1 : (⟨m1, d1.data.toList, e1⟩ : Dm).sg = if m1 then -1 else 1 := by rw [Dm.sg, if_neg hz1]
          by_cases hz2 : d2.data.toList = [48]
          · have hbb : b = m1 := by
              rw [← hb]
              show lessD ⟨m1, d1.data.toList, e1⟩ ⟨m2, d2.data.toList, e2⟩ = _
              have q2 : (⟨m2, d2.data.toList, e2⟩ : Dm).sg = 0 := by rw [Dm.sg, if_pos hz2]
              unfold lessD
              rw [q1, q2]; cases m1 <;> simp
            obtain rfl := str_is hz2
            subst hbb
            clear h1 h2 hb n1 n2 k1 k2 hst hst' hz1 hz2 q1
            go_enter Tryz.func26, Tryz.ntmps26
            go_wp2_with (first
              | (go_at_call 56; (with_reducible refine (P1.out _).mono ?_); rintro x w1 ⟨rfl, hb1⟩)
              | (go_at_call 56; (with_reducible refine (P2.out _).mono ?_); rintro x w2 ⟨rfl, hb2⟩))
            go_ret
            exact ⟨rfl, hb1.trans (hb2.mono hb1.size)⟩
          · have F3 : (d2.toList == [48]) = false := by rw [ByteArray.toList_eq]; simpa using hz2
            have F4 : ¬ d2.toList = [48] := by rw [ByteArray.toList_eq]; exact hz2
            have q2 : (⟨m2, d2.data.toList, e2⟩ : Dm).sg = if m2 then -1 else 1 := by rw [Dm.sg, if_neg hz2]
            by_cases hmn : m1 = m2
            · subst hmn
              cases m1
              · skip
                have hbb : b = decide (sizeD ⟨false, d1.data.toList, e1⟩ ⟨false, d2.data.toList, e2⟩ < 0) := by
                  rw [← hb]
                  show lessD ⟨_, d1.data.toList, e1⟩ ⟨_, d2.data.toList, e2⟩ = _
                  unfold lessD
                  rw [q1, q2, if_pos rfl]
                  rw [Bool.eq_iff_iff, decide_eq_true_iff, decide_eq_true_iff]; simp
                rw [size_lt] at hbb
                by_cases htop : e1 + d1.size = e2 + d2.size
                · rw [if_pos htop] at hbb
                  have g0 : ((e1 + (d1.size : Int)) != (e2 + (d2.size : Int))) = false := by simp [htop]
                  have HBB := Lib.hid hbb
                  clear h1 h2 hb n1 n2 k1 k2 hst hst' hz1 hz2 q1 q2 hbb htop
                  go_enter Tryz.func26, Tryz.ntmps26
                  go_wp2_with (first
                    | (go_at_call 56; (with_reducible refine (P1.out _).mono ?_); rintro x w1 ⟨rfl, hb1⟩)
                    | (go_at_call 56; (with_reducible refine (P2.out _).mono ?_); rintro x w2 ⟨rfl, hb2⟩))
                  have HB : Hid (Below w.heap.size w w2) := hb1.trans (hb2.mono hb1.size)
                  go_loopw [13] (fun i w' => ∃ k : Nat, k ≤ d1.size ∧ k ≤ d2.size ∧ i = .int .i64 k ∧ Hid (b = decide (Lib.compareBytes (d1.data.toList.drop k) (d2.data.toList.drop k) < 0)) ∧ Hid (Below w.heap.size w w')) (fun i _ => d1.size - (intOf i).toNat)
                  case atStart => exact ⟨0, by omega, by omega, rfl, HBB, HB⟩
                  case round =>
                    obtain ⟨k, hk1, hk2, rfl, hr, HB⟩ := hrel
                    by_cases l1 : k < d1.size
                    · by_cases l2 : k < d2.size
                      · by_cases hne : d1[k] = d2[k]
                        · have HN : Hid (b = decide (Lib.compareBytes (d1.data.toList.drop (k + 1)) (d2.data.toList.drop (k + 1)) < 0)) := by
                            show _ = _
                            rw [hr.out, cb_eq l1 l2 hne]
                          have g3 : ((d1[k].toNat : Int) != (d2[k].toNat : Int)) = false := by rw [hne]; simp
                          have l2' : decide (k < d2.size) = true := by simpa using l2
                          clear hne hr
                          go_upto_region 19 with (fail)
                          go_quiet (fail)
                          go_wp2
                          go_roundw
                          case rel => exact ⟨k + 1, by omega, by omega, by go_num, HN, below_drewN HB.out _⟩
                          case measure => simp [intOf]; omega
                        · have HN : Hid (b = decide ((d1[k].toNat : Int) < (d2[k].toNat : Int))) := by
                            show _ = _
                            rw [hr.out, cb_ne l1 l2 hne]
                          have g3 : ((d1[k].toNat : Int) != (d2[k].toNat : Int)) = true := by
                            simp only [bne_iff_ne]
                            intro q
                            exact hne (UInt8.toNat_inj.1 (by omega))
                          have l2' : decide (k < d2.size) = true := by simpa using l2
                          clear hne hr
                          go_upto_region 19 with (fail)
                          go_quiet (fail)
                          obtain ⟨nq1, hq1⟩ : ∃ n, n = nq := ⟨_, rfl⟩
                          go_upto_region 20 with (fail)
                          go_quiet (fail)
                          go_wp2
                          go_ret
                          exact ⟨ret_bool (by rw [HN.out]; simp), below_drewN (below_drewN HB.out _) _⟩
                      · have HN : Hid (b = decide ((d1.size : Int) < (d2.size : Int))) := by
                          show _ = _
                          rw [hr.out, cb_end hk1 hk2 (.inr l2)]
                        have l2' : decide (k < d2.size) = false := by simpa using l2
                        clear hr
                        go_wp2
                        go_ret
                        exact ⟨ret_bool (by rw [HN.out]; simp), HB.out⟩
                    · have HN : Hid (b = decide ((d1.size : Int) < (d2.size : Int))) := by
                        show _ = _
                        rw [hr.out, cb_end hk1 hk2 (.inl l1)]
                      clear hr
                      go_wp2
                      go_ret
                      exact ⟨ret_bool (by rw [HN.out]; simp), HB.out⟩
                · rw [if_neg htop] at hbb
                  have g0 : ((e1 + (d1.size : Int)) != (e2 + (d2.size : Int))) = true := by simp [htop]
                  have HBB := Lib.hid hbb
                  clear h1 h2 hb n1 n2 k1 k2 hst hst' hz1 hz2 q1 q2 hbb htop
                  go_enter Tryz.func26, Tryz.ntmps26
                  go_wp2_with (first
                    | (go_at_call 56; (with_reducible refine (P1.out _).mono ?_); rintro x w1 ⟨rfl, hb1⟩)
                    | (go_at_call 56; (with_reducible refine (P2.out _).mono ?_); rintro x w2 ⟨rfl, hb2⟩))
                  go_ret
                  exact ⟨ret_bool HBB.out.symm, hb1.trans (hb2.mono hb1.size)⟩
              · skip
                have hbb : b = decide (sizeD ⟨false, d2.data.toList, e2⟩ ⟨false, d1.data.toList, e1⟩ < 0) := by
                  rw [← hb]
                  show lessD ⟨_, d1.data.toList, e1⟩ ⟨_, d2.data.toList, e2⟩ = _
                  unfold lessD
                  rw [q1, q2, if_pos rfl]
                  have hng := sz_neg ⟨true, d1.data.toList, e1⟩ ⟨true, d2.data.toList, e2⟩
                  have e3 : sizeD ⟨true, d2.data.toList, e2⟩ ⟨true, d1.data.toList, e1⟩ = sizeD ⟨false, d2.data.toList, e2⟩ ⟨false, d1.data.toList, e1⟩ := rfl
                  rw [e3] at hng
                  rw [Bool.eq_iff_iff, decide_eq_true_iff, decide_eq_true_iff, hng]; simp
                rw [size_lt] at hbb
                by_cases htop : e2 + d2.size = e1 + d1.size
                · rw [if_pos htop] at hbb
                  have g0 : ((e2 + (d2.size : Int)) != (e1 + (d1.size : Int))) = false := by simp [htop]
                  have HBB := Lib.hid hbb
                  clear h1 h2 hb n1 n2 k1 k2 hst hst' hz1 hz2 q1 q2 hbb htop
                  go_enter Tryz.func26, Tryz.ntmps26
                  go_wp2_with (first
                    | (go_at_call 56; (with_reducible refine (P1.out _).mono ?_); rintro x w1 ⟨rfl, hb1⟩)
                    | (go_at_call 56; (with_reducible refine (P2.out _).mono ?_); rintro x w2 ⟨rfl, hb2⟩))
                  have HB : Hid (Below w.heap.size w w2) := hb1.trans (hb2.mono hb1.size)
                  go_loopw [13] (fun i w' => ∃ k : Nat, k ≤ d2.size ∧ k ≤ d1.size ∧ i = .int .i64 k ∧ Hid (b = decide (Lib.compareBytes (d2.data.toList.drop k) (d1.data.toList.drop k) < 0)) ∧ Hid (Below w.heap.size w w')) (fun i _ => d2.size - (intOf i).toNat)
                  case atStart => exact ⟨0, by omega, by omega, rfl, HBB, HB⟩
                  case round =>
                    obtain ⟨k, hk1, hk2, rfl, hr, HB⟩ := hrel
                    by_cases l1 : k < d2.size
                    · by_cases l2 : k < d1.size
                      · by_cases hne : d2[k] = d1[k]
                        · have HN : Hid (b = decide (Lib.compareBytes (d2.data.toList.drop (k + 1)) (d1.data.toList.drop (k + 1)) < 0)) := by
                            show _ = _
                            rw [hr.out, cb_eq l1 l2 hne]
                          have g3 : ((d2[k].toNat : Int) != (d1[k].toNat : Int)) = false := by rw [hne]; simp
                          have l2' : decide (k < d1.size) = true := by simpa using l2
                          clear hne hr
                          go_upto_region 19 with (fail)
                          go_quiet (fail)
                          go_wp2
                          go_roundw
                          case rel => exact ⟨k + 1, by omega, by omega, by go_num, HN, below_drewN HB.out _⟩
                          case measure => simp [intOf]; omega
                        · have HN : Hid (b = decide ((d2[k].toNat : Int) < (d1[k].toNat : Int))) := by
                            show _ = _
                            rw [hr.out, cb_ne l1 l2 hne]
                          have g3 : ((d2[k].toNat : Int) != (d1[k].toNat : Int)) = true := by
                            simp only [bne_iff_ne]
                            intro q
                            exact hne (UInt8.toNat_inj.1 (by omega))
                          have l2' : decide (k < d1.size) = true := by simpa using l2
                          clear hne hr
                          go_upto_region 19 with (fail)
                          go_quiet (fail)
                          obtain ⟨nq1, hq1⟩ : ∃ n, n = nq := ⟨_, rfl⟩
                          go_upto_region 20 with (fail)
                          go_quiet (fail)
                          go_wp2
                          go_ret
                          exact ⟨ret_bool (by rw [HN.out]; simp), below_drewN (below_drewN HB.out _) _⟩
                      · have HN : Hid (b = decide ((d2.size : Int) < (d1.size : Int))) := by
                          show _ = _
                          rw [hr.out, cb_end hk1 hk2 (.inr l2)]
                        have l2' : decide (k < d1.size) = false := by simpa using l2
                        clear hr
                        go_wp2
                        go_ret
                        exact ⟨ret_bool (by rw [HN.out]; simp), HB.out⟩
                    · have HN : Hid (b = decide ((d2.size : Int) < (d1.size : Int))) := by
                        show _ = _
                        rw [hr.out, cb_end hk1 hk2 (.inl l1)]
                      clear hr
                      go_wp2
                      go_ret
                      exact ⟨ret_bool (by rw [HN.out]; simp), HB.out⟩
                · rw [if_neg htop] at hbb
                  have g0 : ((e2 + (d2.size : Int)) != (e1 + (d1.size : Int))) = true := by simp [htop]
                  have HBB := Lib.hid hbb
                  clear h1 h2 hb n1 n2 k1 k2 hst hst' hz1 hz2 q1 q2 hbb htop
                  go_enter Tryz.func26, Tryz.ntmps26
                  go_wp2_with (first
                    | (go_at_call 56; (with_reducible refine (P1.out _).mono ?_); rintro x w1 ⟨rfl, hb1⟩)
                    | (go_at_call 56; (with_reducible refine (P2.out _).mono ?_); rintro x w2 ⟨rfl, hb2⟩))
                  go_ret
                  exact ⟨ret_bool HBB.out.symm, hb1.trans (hb2.mono hb1.size)⟩
            · have hbb : b = m1 := by
                rw [← hb]
                show lessD ⟨m1, d1.data.toList, e1⟩ ⟨m2, d2.data.toList, e2⟩ = _
                unfold lessD
                rw [q1, q2]; cases m1 <;> cases m2 <;> first | rfl | exact absurd rfl hmn
              subst hbb
              clear h1 h2 hb n1 n2 k1 k2 hst hst' hz1 hz2 q1 q2
              cases b <;> cases m2 <;> first | exact absurd rfl hmn | skip
              all_goals (
                clear hmn
                go_enter Tryz.func26, Tryz.ntmps26
                go_wp2_with (first
                  | (go_at_call 56; (with_reducible refine (P1.out _).mono ?_); rintro x w1 ⟨rfl, hb1⟩)
                  | (go_at_call 56; (with_reducible refine (P2.out _).mono ?_); rintro x w2 ⟨rfl, hb2⟩))
                go_ret
                exact ⟨rfl, hb1.trans (hb2.mono hb1.size)⟩)

end Go.Proofs.YtncldnghhpdolaaGreatDoor
