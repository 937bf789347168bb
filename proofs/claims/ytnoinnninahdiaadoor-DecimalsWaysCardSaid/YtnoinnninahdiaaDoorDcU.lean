/- Walks over the law's helpers of chapter 02: small, raise; no statement of the seat is proved here. -/
import Derived.Test.YtnoinnninahdiaaDoorDcL
import Derived.Test.YtnoinnninahdiaaDoorDcW
import Derived.Test.YtnoinnninahdiaaDoorDcZ
namespace Go.Proofs.YtnoinnninahdiaaDoor
open Go.RowKit

theorem pow_bd {n : Int} (h0 : -2147483648 ≤ n) (h1 : n ≤ 2147483648) (i : Nat) (hi : i ≤ 8) : -214748364800000000 ≤ n * 10 ^ i ∧ n * 10 ^ i ≤ 214748364800000000 := by
  have h : i = 0 ∨ i = 1 ∨ i = 2 ∨ i = 3 ∨ i = 4 ∨ i = 5 ∨ i = 6 ∨ i = 7 ∨ i = 8 := by omega
  rcases h with rfl | rfl | rfl | rfl | rfl | rfl | rfl | rfl | rfl <;> simp <;> omega
set_option maxHeartbeats 1000000 in
theorem raise_is (n : Int) (k : Nat) (h0 : -2147483648 ≤ n) (h1 : n ≤ 2147483648) (hk : k ≤ 8) (v : Int) (hv : n * 10 ^ k = v) (w : World) :
    Calls Tryd.prog 18 #[.int .i64 n, .int .i64 (k : Int)] w fun e w' => e = .returned (.int .i64 v) ∧ w = w' := by
  have HV := Lib.hid hv; clear hv
  go_enter Tryd.func18, Tryd.ntmps18
  go_wp2
  go_loop [0, 5] (fun z i => ∃ (j : Nat) (x : Int), j ≤ k ∧ i = .int .i64 j ∧ z = .int .i64 x ∧ -214748364800000000 ≤ x ∧ x ≤ 214748364800000000 ∧ Hid (n * 10 ^ j = x)) (fun _ i => k - (intOf i).toNat)
  case atStart => exact ⟨0, n, by omega, rfl, rfl, by omega, by omega, by show _ = _; simp⟩
  case round =>
    obtain ⟨j, x, hj, rfl, rfl, hx0, hx1, hr⟩ := hrel
    by_cases hlt : j < k
    · have hn : n * 10 ^ (j + 1) = 10 * x := by rw [← hr.out, Int.pow_succ]; rw [← Int.mul_assoc, Int.mul_comm]
      have hb := pow_bd h0 h1 (j + 1) (by omega)
      rw [hn] at hb
      obtain ⟨hb0, hb1⟩ := hb
      have HN := Lib.hid hn
      clear hn hr
      go_wp2
      go_round
      case rel => exact ⟨j + 1, 10 * x, by omega, by go_num, rfl, hb0, hb1, HN⟩
      case measure => simp [intOf]; omega
    · obtain rfl : j = k := by omega
      go_wp2
      go_ret
      exact ⟨ret_int (by rw [← HV.out]; exact hr.out.symm), rfl⟩

theorem ifmt_is (n : Int) (h0 : -9223372036854775808 ≤ n) (h1 : n ≤ 9223372036854775807) (t : ByteArray) (ht : t.data.toList = Lib.itoa n) (w : World) (hT : TAB w) :
    Calls Tryd.prog 35 #[.int .i64 n, .int .i64 10] w fun e w' => e = .returned (.string t) ∧ Below w.heap.size w w' := by
  refine (Tryd.internal_strconv_FormatInt_10 n h0 h1 w (hT w (Below.refl _ _))).mono ?_
  rintro e w' ⟨rfl, k, os, rfl⟩
  exact ⟨ret_str (by rw [ht]), Lib.below_grow _ _ (Nat.le_refl _) _ _⟩
theorem fmt_is (n : Int) (h0 : -9223372036854775808 ≤ n) (h1 : n ≤ 9223372036854775807) (t : ByteArray) (ht : t.data.toList = Lib.itoa n) (w : World) (hT : TAB w) :
    Calls Tryd.prog 19 #[.int .i64 n, .int .i64 10] w fun e w' => e = .returned (.string t) ∧ Below w.heap.size w w' := by
  have HC := Lib.hid (fun w hT => ifmt_is n h0 h1 t ht w hT)
  have HT := Lib.hid hT
  clear ht hT
  go_enter Tryd.func19, Tryd.ntmps19
  go_wp2_with (go_at_call 35; (with_reducible refine (HC.out _ HT.out).mono ?_); rintro x w1 ⟨rfl, hb1⟩)
  go_ret
  exact ⟨rfl, hb1⟩
theorem hasp_is (s : ByteArray) (b : Bool) (hb : Lib.hasPrefix s.data.toList [45] = b) (w : World) :
    Calls Tryd.prog 33 #[.string s, .string ⟨#[45]⟩] w fun e w' => e = .returned (.bool b) ∧ w = w' :=
  (Tryd.strings_HasPrefix s ⟨#[45]⟩ w).mono fun _ _ ⟨h1, h2⟩ => ⟨h1.trans (ret_bool hb), h2.symm⟩
theorem itoa_minus (n : Int) : Lib.hasPrefix (Lib.itoa n) [45] = decide (n < 0) := by
  rcases itoa_cases n with ⟨q, e⟩ | ⟨q, e⟩
  · rw [e, decide_eq_true q]; simp [Lib.hasPrefix]
  · rw [e, decide_eq_false (by omega)]
    have h1 := dec_dg n.natAbs
    have h2 := dec_ne n.natAbs
    cases h : Lib.decDigits n.natAbs with
    | nil => exact absurd h h2
    | cons a t =>
      rw [h] at h1
      have ha := dgB_t.1 (h1 a (by simp))
      have : (45 == a) = false := by
        rw [beq_eq_false_iff_ne]; rintro rfl; simp at ha
      simp [Lib.hasPrefix, List.isPrefixOf, this]
def strSz : Value → Nat
  | .string s => s.size
  | _ => 0
theorem pad_step {d : List UInt8} {j k : Nat} (h : j + d.length ≤ k) : j + 1 ≤ k + 1 - d.length := by omega

theorem dec_pad0 (n : Nat) : 1 - (Lib.decDigits n).length = 0 := by
  have := List.length_pos_iff.2 (dec_ne n)
  omega
set_option maxRecDepth 100000 in
set_option maxHeartbeats 4000000 in
theorem small_is (n : Int) (sh k : Int) (K : Nat) (h0 : -2147483648 ≤ n) (h1 : n ≤ 2147483647) (hs0 : 0 ≤ sh) (hs1 : sh ≤ 255) (hk : sh % 9 = k) (hK : k = (K : Int)) (t : ByteArray) (ht : t.data.toList = smallL n K) (w : World) (hT : TAB w) :
    Calls Tryd.prog 16 #[.int .i32 n, .int .u8 sh] w fun e w' => e = .returned (.tuple #[.string t, .int .i64 n, .int .i64 k]) ∧ Below w.heap.size w w' := by
  obtain ⟨u, hu⟩ := str_ex (Lib.itoa n)
  have C1 := Lib.hid (fun w hT => fmt_is n (by omega) (by omega) u hu w hT)
  obtain ⟨d, hd⟩ := str_ex (Lib.decDigits n.natAbs)
  have hds : d.size ≤ 21 := by
    have := Lib.itoa_length_le (n.natAbs : Int) (by omega) (by omega)
    rw [Lib.itoa_nonneg, ← hd, size_list] at this; exact this
  have HT := Lib.hid hT
  have hk0 : 0 ≤ k ∧ k ≤ 8 := by omega
  obtain ⟨hk0, hk8⟩ := hk0
  have tk : sh.tmod 9 = k := by rw [Int.tmod_eq_emod_of_nonneg hs0]; exact hk
  have HK := Lib.hid hK
  have HTT := Lib.hid ht
  have HD := Lib.hid hd
  have C2 : Hid (∀ w, Calls Tryd.prog 33 #[.string u, .string ⟨#[45]⟩] w fun e w' => e = .returned (.bool (decide (n < 0))) ∧ w = w') := fun w => hasp_is u _ (by rw [hu]; exact itoa_minus n) w
  have hue : (n < 0 ∧ u.size = d.size + 1 ∧ u.extract 1 (d.size + 1) = d) ∨ (0 ≤ n ∧ d = u) := by
    rcases itoa_cases n with ⟨q, e⟩ | ⟨q, e⟩
    · refine .inl ⟨q, ?_, str_of ?_⟩
      · rw [← size_list, hu, e, List.length_cons, ← hd]; rfl
      · rw [ext_list, hu, e, hd, ← size_list d, hd]
        show (List.drop 0 _).take _ = _
        rw [List.drop_zero]
        exact List.take_of_length_le (by simp)
    · exact .inr ⟨q, str_of (by rw [hu, e, hd])⟩
  clear hu hd ht hK hT hk
  rcases hue with ⟨hn, hus, hux⟩ | ⟨hn, rfl⟩
  · rw [decide_eq_true hn] at C2
    go_enter Tryd.func16, Tryd.ntmps16
    go_wp2_with (first
      | (go_at_call 19; (with_reducible refine (C1.out _ HT.out).mono ?_); rintro x w1 ⟨rfl, hb1⟩)
      | (go_at_call 33; (with_reducible refine (C2.out _).mono ?_); rintro x w2 ⟨rfl, rfl⟩))
    go_loop [8] (fun v => ∃ (S : ByteArray) (j : Nat), v = .string S ∧ S.size ≤ 40 ∧ S.size = j + d.size ∧ (j = 0 ∨ j + d.size ≤ K + 1) ∧ Hid (S.data.toList = List.replicate j 48 ++ Lib.decDigits n.natAbs)) (fun v => K + 1 - strSz v)
    case atStart => exact ⟨d, 0, rfl, by omega, by omega, .inl rfl, by show _ = _; rw [HD.out]; rfl⟩
    case round =>
      obtain ⟨S, j, rfl, hS, hSj, hj, hr⟩ := hrel
      have hKe := HK.out
      by_cases hle : S.size ≤ K
      · have hle' : (S.size : Int) ≤ k := by omega
        have HN : Hid ((⟨#[48]⟩ ++ S : ByteArray).data.toList = List.replicate (j + 1) 48 ++ Lib.decDigits n.natAbs) := by
          show _ = _
          rw [app_list, hr.out, List.replicate_succ]; rfl
        have hsz : (⟨#[48]⟩ ++ S : ByteArray).size = S.size + 1 := by rw [ByteArray.size_append, Nat.add_comm]; rfl
        clear hr hKe
        go_wp2
        refine ⟨⟨⟨#[48]⟩ ++ S, j + 1, rfl, by omega, by omega, .inr (by omega), HN⟩, ?_⟩
        simp only [strSz]; omega
      · have hgt : ¬ (S.size : Int) ≤ k := by omega
        have hP : S.data.toList = padL (Lib.decDigits n.natAbs) K := by
          have hdl : d.data.toList.length = d.size := rfl
          rw [hr.out, padL, ← HD.out, hdl]
          congr 2; omega
        by_cases hk00 : k = 0
        · have hK0 : K = 0 := by omega
          have hT : Hid (t.data.toList = (⟨#[45]⟩ ++ S : ByteArray).data.toList) := by
            show _ = _
            rw [HTT.out, smallL, smallP, if_pos hK0, if_pos hn, app_list,  hP, hK0]
            simp [padL, dec_pad0]
          have hk0' : ¬ 0 < k := by omega
          clear hr hKe hP hk00 hK0
          go_wp2
          go_ret3
          obtain rfl := str_of hT.out
          exact ⟨rfl, hb1⟩
        · have hKn : K ≠ 0 := by omega
          obtain ⟨e, he⟩ : ∃ e, S.size = e + K := ⟨S.size - K, by omega⟩
          have hes : e ≤ S.size := by omega
          have hT : Hid (t.data.toList = (⟨#[45]⟩ ++ (S.extract 0 e ++ ⟨#[46]⟩ ++ S.extract e S.size) : ByteArray).data.toList) := by
            show _ = _
            have hl : (padL (Lib.decDigits n.natAbs) K).length - K = e := by rw [← hP, size_list]; omega
            rw [HTT.out, smallL, smallP, if_neg hKn, if_pos hn, app_list, app_list, app_list, ext_list, ext_end, hP, hl]
            simp
          have hk0' : 0 < k := by omega
          have W1 : IntKind.i64.wrap ((S.size : Int) - k) = (e : Int) := by rw [IntWalk.i64_in _ (by omega)]; omega
          have hez : S.size ≤ 40 := hS
          clear hr hKe hP hk00 hKn he hSj hj
          go_upto_region 9 with (fail)
          go_quiet (fail)
          clear W1
          go_wp2
          go_ret3
          obtain rfl := str_of hT.out
          exact ⟨rfl, below_drewN hb1 _⟩
  · rw [decide_eq_false (by omega)] at C2
    go_enter Tryd.func16, Tryd.ntmps16
    go_wp2_with (first
      | (go_at_call 19; (with_reducible refine (C1.out _ HT.out).mono ?_); rintro x w1 ⟨rfl, hb1⟩)
      | (go_at_call 33; (with_reducible refine (C2.out _).mono ?_); rintro x w2 ⟨rfl, rfl⟩))
    go_loop [8] (fun v => ∃ (S : ByteArray) (j : Nat), v = .string S ∧ S.size ≤ 40 ∧ S.size = j + d.size ∧ (j = 0 ∨ j + d.size ≤ K + 1) ∧ Hid (S.data.toList = List.replicate j 48 ++ Lib.decDigits n.natAbs)) (fun v => K + 1 - strSz v)
    case atStart => exact ⟨d, 0, rfl, by omega, by omega, .inl rfl, by show _ = _; rw [HD.out]; rfl⟩
    case round =>
      obtain ⟨S, j, rfl, hS, hSj, hj, hr⟩ := hrel
      have hKe := HK.out
      by_cases hle : S.size ≤ K
      · have hle' : (S.size : Int) ≤ k := by omega
        have HN : Hid ((⟨#[48]⟩ ++ S : ByteArray).data.toList = List.replicate (j + 1) 48 ++ Lib.decDigits n.natAbs) := by
          show _ = _
          rw [app_list, hr.out, List.replicate_succ]; rfl
        have hsz : (⟨#[48]⟩ ++ S : ByteArray).size = S.size + 1 := by rw [ByteArray.size_append, Nat.add_comm]; rfl
        clear hr hKe
        go_wp2
        refine ⟨⟨⟨#[48]⟩ ++ S, j + 1, rfl, by omega, by omega, .inr (by omega), HN⟩, ?_⟩
        simp only [strSz]; omega
      · have hgt : ¬ (S.size : Int) ≤ k := by omega
        have hP : S.data.toList = padL (Lib.decDigits n.natAbs) K := by
          have hdl : d.data.toList.length = d.size := rfl
          rw [hr.out, padL, ← HD.out, hdl]
          congr 2; omega
        by_cases hk00 : k = 0
        · have hK0 : K = 0 := by omega
          have hT : Hid (t.data.toList = (S : ByteArray).data.toList) := by
            show _ = _
            rw [HTT.out, smallL, smallP, if_pos hK0, if_neg (by omega),  hP, hK0]
            simp [padL, dec_pad0]
          have hk0' : ¬ 0 < k := by omega
          clear hr hKe hP hk00 hK0
          go_wp2
          go_ret3
          obtain rfl := str_of hT.out
          exact ⟨rfl, hb1⟩
        · have hKn : K ≠ 0 := by omega
          obtain ⟨e, he⟩ : ∃ e, S.size = e + K := ⟨S.size - K, by omega⟩
          have hes : e ≤ S.size := by omega
          have hT : Hid (t.data.toList = ((S.extract 0 e ++ ⟨#[46]⟩ ++ S.extract e S.size) : ByteArray).data.toList) := by
            show _ = _
            have hl : (padL (Lib.decDigits n.natAbs) K).length - K = e := by rw [← hP, size_list]; omega
            rw [HTT.out, smallL, smallP, if_neg hKn, if_neg (by omega), app_list, app_list, ext_list, ext_end, hP, hl]
            simp
          have hk0' : 0 < k := by omega
          have W1 : IntKind.i64.wrap ((S.size : Int) - k) = (e : Int) := by rw [IntWalk.i64_in _ (by omega)]; omega
          have hez : S.size ≤ 40 := hS
          clear hr hKe hP hk00 hKn he hSj hj
          go_upto_region 9 with (fail)
          go_quiet (fail)
          clear W1
          go_wp2
          go_ret3
          obtain rfl := str_of hT.out
          exact ⟨rfl, below_drewN hb1 _⟩

end Go.Proofs.YtnoinnninahdiaaDoor
