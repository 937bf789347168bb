/- The walk of the law DecimalsValue; no statement of the seat is proved here. -/
import Derived.Test.YtnoinnninahdiaaDoorDcU
namespace Go.Proofs.YtnoinnninahdiaaDoor
open Go.RowKit

theorem txt_ex {n e : Int} (hn : -1099511627776 ≤ n ∧ n ≤ 1099511627776) (he : -900000000 ≤ e ∧ e ≤ 900000000) : ∃ t : ByteArray, t.data.toList = (numD n e).text ∧ t.size ≤ 1000 := by
  obtain ⟨t, ht⟩ := str_ex (numD n e).text
  refine ⟨t, ht, ?_⟩
  have h1 := text_len (numD_norm hn he)
  have h2 : (numD n e).digits.length ≤ 21 := by
    unfold numD
    rcases Nat.eq_zero_or_pos n.natAbs with h | h
    · rw [h, nrm_zero]; simp [Dm.zero]
    · obtain ⟨z, d, p1, p2, p3, p4, p5, p6⟩ := nrm_pos h (decide (n < 0)) e
      rw [p6]
      have h1 := congrArg List.length p1
      rw [List.length_append, List.length_replicate] at h1
      have h2 := Lib.itoa_length_le (n.natAbs : Int) (by omega) (by omega)
      rw [Lib.itoa_nonneg] at h2
      simp only; omega
  rw [← ht, size_list] at h1; omega
theorem small_len (n : Int) (k : Nat) (hn : -1099511627776 ≤ n ∧ n ≤ 1099511627776) (hk : k ≤ 1000) : (smallL n k).length ≤ 3000 := by
  have h2 := Lib.itoa_length_le (n.natAbs : Int) (by omega) (by omega)
  rw [Lib.itoa_nonneg] at h2
  have h3 : (padL (Lib.decDigits n.natAbs) k).length ≤ 1100 := by unfold padL; rw [List.length_append, List.length_replicate]; omega
  unfold smallL smallP
  rw [List.length_append]
  have h4 : (if n < 0 then [45] else ([] : List UInt8)).length ≤ 1 := by split <;> simp
  by_cases hk0 : k = 0
  · rw [if_pos hk0]; omega
  · rw [if_neg hk0, List.length_append, List.length_cons, List.length_take, List.length_drop]; omega
theorem less_num {s t : ByteArray} {n1 n2 e1 e2 : Int} {a b : Nat} (h1 : -1099511627776 ≤ n1 ∧ n1 ≤ 1099511627776) (h2 : -1099511627776 ≤ n2 ∧ n2 ≤ 1099511627776) (g1 : -900000000 ≤ e1 ∧ e1 ≤ 900000000) (g2 : -900000000 ≤ e2 ∧ e2 ≤ 900000000)
    (hs : s.data.toList = (numD n1 e1).text) (ht : t.data.toList = (numD n2 e2).text) (he : e1 + b = e2 + a) : lessT s.data.toList t.data.toList = decide (n1 * 10 ^ a < n2 * 10 ^ b) := by
  rw [hs, ht, lessT_text (numD_norm h1 g1) (numD_norm h2 g2), val_less n1 n2 e1 e2 a b he]
theorem eq_num {s t : ByteArray} {n1 n2 e1 e2 : Int} {a b : Nat} (h1 : -1099511627776 ≤ n1 ∧ n1 ≤ 1099511627776) (h2 : -1099511627776 ≤ n2 ∧ n2 ≤ 1099511627776) (g1 : -900000000 ≤ e1 ∧ e1 ≤ 900000000) (g2 : -900000000 ≤ e2 ∧ e2 ≤ 900000000)
    (hs : s.data.toList = (numD n1 e1).text) (ht : t.data.toList = (numD n2 e2).text) (he : e1 + b = e2 + a) : s = t ↔ n1 * 10 ^ a = n2 * 10 ^ b := by
  have v1 := val_less n1 n2 e1 e2 a b he
  have v2 := val_less n2 n1 e2 e1 b a he.symm
  constructor
  · intro h
    have hd : numD n1 e1 = numD n2 e2 := text_inj (numD_norm h1 g1) (numD_norm h2 g2) (by rw [← hs, ← ht, h])
    rw [hd, less_self] at v1
    rw [hd, less_self] at v2
    have w1 := of_decide_eq_false v1.symm
    have w2 := of_decide_eq_false v2.symm
    omega
  · intro h
    rw [decide_eq_false (by omega)] at v1 v2
    exact str_of (by rw [hs, ht, less_total (numD_norm h1 g1) (numD_norm h2 g2) v1 v2])

theorem esz (c u : ByteArray) (hc : c.size ≤ 3000) (hu : u.size ≤ 21) : (c ++ (⟨#[101]⟩ ++ u) : ByteArray).size ≤ 549755813888 := by
  have h : (⟨#[101]⟩ : ByteArray).size = 1 := rfl
  rw [ByteArray.size_append, ByteArray.size_append, h]; omega
theorem elist (c u : ByteArray) : (c ++ (⟨#[101]⟩ ++ u) : ByteArray).data.toList = c.data.toList ++ 101 :: u.data.toList := by
  rw [app_list, app_list]; rfl
theorem rexp_is (c u R : ByteArray) (n q : Int) (K : Nat) (hcs : c.size ≤ 3000) (hus : u.size ≤ 21) (hc : c.data.toList = smallL n K) (hu : u.data.toList = Lib.itoa q) (hR : R.data.toList = (numD n (q - K)).text) (hn : -1099511627776 ≤ n ∧ n ≤ 1099511627776) (hK : K ≤ 8) (hq0 : -1000 ≤ q) (hq1 : q ≤ 1000) (w : World) (hT : TAB w) :
    Calls Tryd.prog 15 #[.string (c ++ (⟨#[101]⟩ ++ u)), .int .i64 0] w fun x w' => x = .returned (.string R) ∧ Below w.heap.size w w' := by
  have hl := elist c u
  have hz := esz c u hcs hus
  generalize c ++ (⟨#[101]⟩ ++ u) = x at hl hz ⊢
  have hr : readD x.data.toList = (R.data.toList, 0) := by
    rw [hl, hc, hu, hR]; exact small_read_exp n q K hn (by omega) (by omega)
  exact rd_ok x R 0 hz hr w hT
set_option maxRecDepth 100000 in
set_option maxHeartbeats 8000000 in
theorem valuelaw_walk (n0 n1 s0 s1 p : Int) (hn0 : -2147483648 ≤ n0) (hn0' : n0 ≤ 2147483647) (hn1 : -2147483648 ≤ n1) (hn1' : n1 ≤ 2147483647) (hs0 : 0 ≤ s0) (hs0' : s0 ≤ 255) (hs1 : 0 ≤ s1) (hs1' : s1 ≤ 255) (hp : -32768 ≤ p) (hp' : p ≤ 32767) (w : World) (hT : TAB w) :
    Calls Tryd.prog 6 #[.agg #[.int .i32 n0, .int .i32 n1], .agg #[.int .u8 s0, .int .u8 s1], .int .i16 p] w fun e w' => e = .returned (.bool true) ∧ Below w.heap.size w w' := by
  obtain ⟨k0, hk0⟩ : ∃ k, s0 % 9 = k := ⟨_, rfl⟩
  obtain ⟨k1, hk1⟩ : ∃ k, s1 % 9 = k := ⟨_, rfl⟩
  obtain ⟨K0, hK0⟩ : ∃ K : Nat, k0 = (K : Int) := ⟨k0.toNat, by omega⟩
  obtain ⟨K1, hK1⟩ : ∃ K : Nat, k1 = (K : Int) := ⟨k1.toNat, by omega⟩
  have hK08 : K0 ≤ 8 := by omega
  have hK18 : K1 ≤ 8 := by omega
  obtain ⟨q, hq⟩ : ∃ q, p.tmod 1001 = q := ⟨_, rfl⟩
  have hqb : -1000 ≤ q ∧ q ≤ 1000 := by
    have h1 := Int.tmod_lt_of_pos p (show (0 : Int) < 1001 by omega)
    have h2 := Int.lt_tmod_of_pos p (show (0 : Int) < 1001 by omega)
    omega
  obtain ⟨hq0, hq1⟩ := hqb
  have B0 : -1099511627776 ≤ n0 ∧ n0 ≤ 1099511627776 := by omega
  have B1 : -1099511627776 ≤ n1 ∧ n1 ≤ 1099511627776 := by omega
  obtain ⟨a, ha⟩ := str_ex (smallL n0 K0)
  obtain ⟨b, hb⟩ := str_ex (smallL n1 K1)
  have has : a.size ≤ 3000 := by rw [← size_list, ha]; exact small_len _ _ B0 (by omega)
  have hbs : b.size ≤ 3000 := by rw [← size_list, hb]; exact small_len _ _ B1 (by omega)
  obtain ⟨u, hu⟩ := str_ex (Lib.itoa q)
  have hus : u.size ≤ 21 := by rw [← size_list, hu]; exact Lib.itoa_length_le _ (by omega) (by omega)
  obtain ⟨S, hS, hSz⟩ := txt_ex (e := q - K0) B0 (by omega)
  obtain ⟨T, hT', hTz⟩ := txt_ex (e := q - K1) B1 (by omega)
  obtain ⟨U, hU, hUz⟩ := txt_ex (e := -(K0 : Int)) B0 (by omega)
  obtain ⟨V, hV, hVz⟩ := txt_ex (e := -(K1 : Int)) B1 (by omega)
  obtain ⟨X, hX⟩ : ∃ X, n0 * 10 ^ K1 = X := ⟨_, rfl⟩
  obtain ⟨Y, hY⟩ : ∃ X, n1 * 10 ^ K0 = X := ⟨_, rfl⟩
  have M0 := Lib.hid (fun w hT => small_is n0 s0 k0 K0 hn0 hn0' hs0 hs0' hk0 hK0 a ha w hT)
  have M1 := Lib.hid (fun w hT => small_is n1 s1 k1 K1 hn1 hn1' hs1 hs1' hk1 hK1 b hb w hT)
  have I1 := Lib.hid (fun w0 w hT hb => itoa_is q (by omega) (by omega) u hu w0 w hT hb)
  have R1 := Lib.hid (fun w hT => rexp_is a u S n0 q K0 has hus ha hu hS B0 hK08 hq0 hq1 w hT)
  have R2 := Lib.hid (fun w hT => rexp_is b u T n1 q K1 hbs hus hb hu hT' B1 hK18 hq0 hq1 w hT)
  have R3 := Lib.hid (fun w hT => rd_ok a U 0 (by omega) (by rw [ha, hU]; exact small_read n0 K0 B0 (by omega)) w hT)
  have R4 := Lib.hid (fun w hT => rd_ok b V 0 (by omega) (by rw [hb, hV]; exact small_read n1 K1 B1 (by omega)) w hT)
  have R5 := Lib.hid (fun w hT => rd_ok S S 0 (by omega) (by rw [hS]; exact text_read (numD_norm B0 (by omega))) w hT)
  have A0 := Lib.hid (fun w => raise_is n0 K1 hn0 (by omega) hK18 X hX w)
  have A1 := Lib.hid (fun w => raise_is n1 K0 hn1 (by omega) hK08 Y hY w)
  have L1 := Lib.hid (fun w hT => less_is S T (by omega) (by omega) (decide (X < Y)) (by rw [← hX, ← hY]; exact less_num B0 B1 (by omega) (by omega) hS hT' (by omega)) w hT)
  have L2 := Lib.hid (fun w hT => less_is U V (by omega) (by omega) (decide (X < Y)) (by rw [← hX, ← hY]; exact less_num B0 B1 (by omega) (by omega) hU hV (by omega)) w hT)
  have E1 : S = T ↔ X = Y := by rw [← hX, ← hY]; exact eq_num B0 B1 (by omega) (by omega) hS hT' (by omega)
  have E2 : U = V ↔ X = Y := by rw [← hX, ← hY]; exact eq_num B0 B1 (by omega) (by omega) hU hV (by omega)
  have HB : Hid (Below w.heap.size w w) := Below.refl _ _
  have HT := Lib.hid hT
  have HK0 := Lib.hid hK0
  have HK1 := Lib.hid hK1
  rw [← hK1] at A0
  rw [← hK0] at A1
  clear hX hY hS hT' hU hV ha hb hu hk0 hk1 hK0 hK1 hT B0 B1
  have cA : ∀ w' : World, Below ((w.alloc (.cells #[.int .i32 n0, .int .i32 n1] 33)).alloc (.cells #[.int .u8 s0, .int .u8 s1] 34)).heap.size ((w.alloc (.cells #[.int .i32 n0, .int .i32 n1] 33)).alloc (.cells #[.int .u8 s0, .int .u8 s1] 34)) w' →
      w'.cell? ⟨w.heap.size, 0, none⟩ = some (.int .i32 n0) ∧ w'.cell? ⟨w.heap.size, 1, none⟩ = some (.int .i32 n1) ∧ w'.cell? ⟨w.heap.size + 1, 0, none⟩ = some (.int .u8 s0) ∧ w'.cell? ⟨w.heap.size + 1, 1, none⟩ = some (.int .u8 s1) := fun w' hb => by
    obtain ⟨h1, h2⟩ := heap_new2 w (.cells #[.int .i32 n0, .int .i32 n1] 33) (.cells #[.int .u8 s0, .int .u8 s1] 34)
    have g1 := blk_later h1 hb (blk_lt h1)
    have g2 := blk_later h2 hb (blk_lt h2)
    exact ⟨blk_cell g1 0, blk_cell g1 1, blk_cell g2 0, blk_cell g2 1⟩
  have HCA := Lib.hid cA
  clear cA
  replace HB : Hid (Below w.heap.size w ((w.alloc (.cells #[.int .i32 n0, .int .i32 n1] 33)).alloc (.cells #[.int .u8 s0, .int .u8 s1] 34))) := below_new2 _ _ _
  by_cases hXY : X = Y
  · obtain rfl := E1.2 hXY
    obtain rfl := E2.2 hXY
    subst hXY
    clear E1 E2
    go_enter Tryd.func6, Tryd.ntmps6
    go_wp2_with fail
    refine (M0.out _ (HT.out.later HB.out)).mono ?_
    rintro x w1 ⟨rfl, hb'⟩
    obtain ⟨c0, c1, c2, c3⟩ := HCA.out _ hb'
    replace HB := Lib.hid (HB.out.trans (hb'.mono HB.out.size))
    clear hb'
    go_wp2_with (first
      | (go_at_call 16; (first | (with_reducible refine (M0.out _ (HT.out.later HB.out)).mono ?_) | (with_reducible refine (M1.out _ (HT.out.later HB.out)).mono ?_)); rintro x w' ⟨rfl, hb'⟩; replace HB := Lib.hid (HB.out.trans (hb'.mono HB.out.size)); clear hb')
      | (go_at_call 17; (with_reducible refine (I1.out w _ HT.out HB.out).mono ?_); rintro x w' ⟨rfl, hb'⟩; replace HB := Lib.hid (HB.out.trans (hb'.mono HB.out.size)); clear hb')
      | (go_at_call 15; (first | (with_reducible refine (R1.out _ (HT.out.later HB.out)).mono ?_) | (with_reducible refine (R2.out _ (HT.out.later HB.out)).mono ?_) | (with_reducible refine (R3.out _ (HT.out.later HB.out)).mono ?_) | (with_reducible refine (R4.out _ (HT.out.later HB.out)).mono ?_) | (with_reducible refine (R5.out _ (HT.out.later HB.out)).mono ?_)); rintro x w' ⟨rfl, hb'⟩; replace HB := Lib.hid (HB.out.trans (hb'.mono HB.out.size)); clear hb')
      | (go_at_call 18; (first | (with_reducible refine (A0.out _).mono ?_) | (with_reducible refine (A1.out _).mono ?_)); rintro x w' ⟨rfl, rfl⟩)
      | (go_at_call 13; (first | (with_reducible refine (L1.out _ (HT.out.later HB.out)).mono ?_) | (with_reducible refine (L2.out _ (HT.out.later HB.out)).mono ?_)); rintro x w' ⟨rfl, hb'⟩; replace HB := Lib.hid (HB.out.trans (hb'.mono HB.out.size)); clear hb')
      | (go_at_call 8; (with_reducible refine (lives_any _ (HT.out.later HB.out)).mono ?_); rintro x w' ⟨rfl, hb'⟩; replace HB := Lib.hid (HB.out.trans (hb'.mono HB.out.size)); clear hb'))
    go_ret
    exact ⟨rfl, HB.out⟩
  · have nS : S.data.toList ≠ T.data.toList := fun h => hXY (E1.1 (str_of h))
    have nU : U.data.toList ≠ V.data.toList := fun h => hXY (E2.1 (str_of h))
    have g1 := beq_str nS
    have g2 : ¬ S.toList = T.toList := by rw [ByteArray.toList_eq, ByteArray.toList_eq]; exact nS
    have g3 := beq_str nU
    have g4 : ¬ U.toList = V.toList := by rw [ByteArray.toList_eq, ByteArray.toList_eq]; exact nU
    have g5 : (X == Y) = false := by simp [hXY]
    clear nS nU E1 E2 hXY
    go_enter Tryd.func6, Tryd.ntmps6
    go_wp2_with fail
    refine (M0.out _ (HT.out.later HB.out)).mono ?_
    rintro x w1 ⟨rfl, hb'⟩
    obtain ⟨c0, c1, c2, c3⟩ := HCA.out _ hb'
    replace HB := Lib.hid (HB.out.trans (hb'.mono HB.out.size))
    clear hb'
    go_wp2_with (first
      | (go_at_call 16; (first | (with_reducible refine (M0.out _ (HT.out.later HB.out)).mono ?_) | (with_reducible refine (M1.out _ (HT.out.later HB.out)).mono ?_)); rintro x w' ⟨rfl, hb'⟩; replace HB := Lib.hid (HB.out.trans (hb'.mono HB.out.size)); clear hb')
      | (go_at_call 17; (with_reducible refine (I1.out w _ HT.out HB.out).mono ?_); rintro x w' ⟨rfl, hb'⟩; replace HB := Lib.hid (HB.out.trans (hb'.mono HB.out.size)); clear hb')
      | (go_at_call 15; (first | (with_reducible refine (R1.out _ (HT.out.later HB.out)).mono ?_) | (with_reducible refine (R2.out _ (HT.out.later HB.out)).mono ?_) | (with_reducible refine (R3.out _ (HT.out.later HB.out)).mono ?_) | (with_reducible refine (R4.out _ (HT.out.later HB.out)).mono ?_) | (with_reducible refine (R5.out _ (HT.out.later HB.out)).mono ?_)); rintro x w' ⟨rfl, hb'⟩; replace HB := Lib.hid (HB.out.trans (hb'.mono HB.out.size)); clear hb')
      | (go_at_call 18; (first | (with_reducible refine (A0.out _).mono ?_) | (with_reducible refine (A1.out _).mono ?_)); rintro x w' ⟨rfl, rfl⟩)
      | (go_at_call 13; (first | (with_reducible refine (L1.out _ (HT.out.later HB.out)).mono ?_) | (with_reducible refine (L2.out _ (HT.out.later HB.out)).mono ?_)); rintro x w' ⟨rfl, hb'⟩; replace HB := Lib.hid (HB.out.trans (hb'.mono HB.out.size)); clear hb')
      | (go_at_call 8; (with_reducible refine (lives_any _ (HT.out.later HB.out)).mono ?_); rintro x w' ⟨rfl, hb'⟩; replace HB := Lib.hid (HB.out.trans (hb'.mono HB.out.size)); clear hb'))
    go_ret
    exact ⟨rfl, HB.out⟩

end Go.Proofs.YtnoinnninahdiaaDoor
