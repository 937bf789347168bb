/- Walks over the reference of chapter 02: power, Itoa; no statement of the seat is proved here. -/
import Derived.Test.YtncldnghhpdolaaGreatDoorDcRI
namespace Go.Proofs.YtncldnghhpdolaaGreatDoor
open Go.RowKit

theorem take_snoc (s : ByteArray) (k : Nat) (h : k < s.size) (p : Nat) (hp : p ≤ k) : (s.data.toList.drop p).take (k + 1 - p) = (s.data.toList.drop p).take (k - p) ++ [s[k]] := by
  have h1 : k - p < (s.data.toList.drop p).length := by rw [List.length_drop, size_list]; omega
  rw [show k + 1 - p = k - p + 1 by omega, List.take_succ_eq_append_getElem h1]
  congr 2
  rw [List.getElem_drop]
  have : s.data.toList[p + (k - p)]'(by rw [size_list]; omega) = s.data.toList[k]'(by rw [size_list]; omega) := by congr 1; omega
  rw [this]; rfl
/-- A numeral's number. -/
theorem dg_sub (x : UInt8) (h : dgB x = true) : IntKind.u8.wrap ((x.toNat : Int) - 48) = ((x.toNat - 48 : Nat) : Int) := by
  have := dgB_t.1 h
  rw [IntKind.wrap_u8]; omega

/-- The row of places that power is told. -/
def pw (q0 q1 q2 q3 q5 q6 : Nat) : Value := .agg #[.int .i64 (q0 : Int), .int .i64 (q1 : Int), .int .i64 (q2 : Int), .int .i64 (q3 : Int), .int .i64 (q5 : Int), .int .i64 (q6 : Int)]

set_option maxHeartbeats 2000000 in
theorem power_is (s : ByteArray) (q0 q1 q2 q3 q5 q6 : Nat) (hs : s.size ≤ 549755813888) (h56 : q5 ≤ q6) (h6 : q6 ≤ s.size) (ds : List UInt8) (hds : (s.data.toList.drop q5).take (q6 - q5) = ds) (hdg : ∀ c ∈ ds, dgB c = true)
    (sg : Bool) (hsg : q5 < q6 → 0 < q5 ∧ ∀ h : q5 - 1 < s.size, (s[q5 - 1]'h == 45) = sg) (hn0 : ¬ q5 < q6 → sg = false) (k : Int) (b : Bool) (hb : decide (natV 0 ds ≤ 1000000000) = b) (hk : k = if b then (if sg then -((natV 0 ds : Nat) : Int) else ((natV 0 ds : Nat) : Int)) else 0) (w : World) :
    Calls Tryz.prog 50 #[.string s, .agg #[.int .i64 (q0 : Int), .int .i64 (q1 : Int), .int .i64 (q2 : Int), .int .i64 (q3 : Int), .int .i64 (q5 : Int), .int .i64 (q6 : Int)]] w fun e w' => e = .returned (.tuple #[.int .i64 k, .bool b]) ∧ Below w.heap.size w w' := by
  have HD := Lib.hid hds
  have HG := Lib.hid hdg
  have HS := Lib.hid hsg
  have HZ := Lib.hid hn0
  have HB := Lib.hid hb
  have HK := Lib.hid hk
  clear hds hdg hsg hn0 hb hk
  go_enter Tryz.func50, Tryz.ntmps50
  go_wp2
  go_loop [6, 7] (fun n i => ∃ j v : Nat, q5 ≤ j ∧ j ≤ q6 ∧ i = .int .i64 j ∧ n = .int .i64 v ∧ v ≤ 1000000000 ∧ Hid (natV 0 ((s.data.toList.drop q5).take (j - q5)) = v)) (fun _ i => s.size - (intOf i).toNat)
  case atStart => exact ⟨q5, 0, by omega, by omega, rfl, rfl, by omega, by show _ = _; rw [Nat.sub_self]; rfl⟩
  case round =>
    obtain ⟨j, v, hj5, hj6, rfl, rfl, hv, hr⟩ := hrel
    by_cases hlt : j < q6
    · have hjs : j < s.size := by omega
      have hdj : dgB s[j] = true := by
        refine HG.out _ ?_
        rw [← HD.out]
        have e := take_snoc s j hjs q5 hj5
        have h2 : (s.data.toList.drop q5).take (j + 1 - q5) <+: (s.data.toList.drop q5).take (q6 - q5) := List.take_prefix_take_left (by omega)
        exact h2.subset (by rw [e]; simp)
      have hc := dgB_t.1 hdj
      obtain ⟨d, hd⟩ : ∃ d, s[j].toNat - 48 = d := ⟨_, rfl⟩
      have hd9 : d ≤ 9 := by omega
      have W1 : IntKind.u8.wrap ((s[j].toNat : Int) - 48) = (d : Int) := by rw [dg_sub _ hdj, hd]
      have hrn : Hid (natV 0 ((s.data.toList.drop q5).take (j + 1 - q5)) = 10 * v + d) := by
        show _ = _
        rw [take_snoc s j hjs q5 hj5, natV_app, hr.out, natV_cons, natV_nil, hd]
      have hmono : natV 0 ((s.data.toList.drop q5).take (j + 1 - q5)) ≤ natV 0 ds := by
        rw [← HD.out]
        obtain ⟨m, hm⟩ : (s.data.toList.drop q5).take (j + 1 - q5) <+: (s.data.toList.drop q5).take (q6 - q5) := List.take_prefix_take_left (by omega)
        rw [← hm, natV_app]; exact natV_le _ _
      rw [hrn.out] at hmono
      by_cases hbig : 1000000000 < 10 * v + d
      · have hbf : b = false := by rw [← HB.out]; exact decide_eq_false (by omega)
        have hk0 : k = 0 := by rw [HK.out, hbf]; rfl
        subst hbf hk0
        clear hr hrn hmono hd hdj hc
        go_wp2
        go_ret2
        exact ⟨rfl, below_new1 _ _⟩
      · clear hr hmono hd hdj hc
        go_wp2
        go_round
        case rel => exact ⟨j + 1, 10 * v + d, by omega, by omega, by go_num, by go_num, by omega, hrn⟩
        case measure => simp [intOf]; omega
    · obtain rfl : j = q6 := by omega
      have hvn : natV 0 ds = v := by rw [← HD.out]; exact hr.out
      have hbt : b = true := by rw [← HB.out, hvn]; exact decide_eq_true hv
      have hkk : Hid (k = if sg then -(v : Int) else (v : Int)) := by
        show _ = _
        rw [HK.out, hbt, hvn]; rfl
      subst hbt
      clear hr hvn
      by_cases h5 : q5 < j
      · obtain ⟨h50, h51⟩ := HS.out h5
        have hq : q5 - 1 < s.size := by omega
        have hg := h51 hq
        obtain ⟨q, hqq⟩ : ∃ q, q5 = q + 1 := ⟨q5 - 1, by omega⟩
        subst hqq
        have g1 : (((s[q]'(by omega)).toNat : Int) == 45) = sg := (u8_beq _ 45).trans (by simpa using hg)
        clear h51 hg hq h50
        cases sg
        · go_wp2
          go_ret2
          rw [hkk.out]
          exact ⟨rfl, below_new1 _ _⟩
        · go_wp2
          go_ret2
          rw [hkk.out]
          exact ⟨rfl, below_new1 _ _⟩
      · have hsf := HZ.out h5
        subst hsf
        go_wp2
        go_ret2
        rw [hkk.out]
        exact ⟨rfl, below_new1 _ _⟩

theorem one_conv (w : World) (z : Int) (b : UInt8) (hz : z = (b.toNat : Int)) :
    (convert 101 9 (.slice (some ⟨w.heap.size, 0, none⟩) 1 1)).run Tryz.prog (w.alloc (.cells #[.int .u8 z] 5)) = .ok (.string ⟨#[b]⟩) (w.alloc (.cells #[.int .u8 z] 5)) := by
  have hB : BS (w.alloc (.cells #[.int .u8 z] 5)) (w.heap.size + 1) (some ⟨w.heap.size, 0, none⟩) [b] := BS.of_cells (by simp) fun k hk => by
    have : k = 0 := by simp at hk; omega
    subst this
    rw [add_plain, Nat.zero_add]
    have := blk_cell (heap_new1 w (.cells #[.int .u8 z] 5)) 0
    rw [this, hz]; rfl
  exact conv_bs (P := Tryz.prog) _ 101 9 5 Tryz.underlying101 Tryz.underlying5 Tryz.underlying9 hB 1
theorem dec_len {n : Nat} (h : n ≤ 1099511627776) : (Lib.decDigits n).length ≤ 21 := by
  have := Lib.itoa_length_le (n : Int) (by omega) (by omega)
  rw [Lib.itoa_nonneg] at this; exact this
theorem sz_dec {t : ByteArray} {n : Nat} (h : n ≤ 1099511627776) (ht : t.data.toList = Lib.decDigits n) : t.size ≤ 21 := by
  rw [← size_list, ht]; exact dec_len h
set_option maxRecDepth 100000 in
set_option maxHeartbeats 1000000 in
/-- The reference's Itoa, of what is not below nought. -/
theorem ritoa_pos (m : Nat) : ∀ (v : Int) (_ : 0 ≤ v) (_ : v ≤ 1099511627776) (_ : v.toNat ≤ m) (t : ByteArray) (_ : t.data.toList = Lib.decDigits v.toNat) (w : World),
    Calls Tryz.prog 51 #[.int .i64 v] w fun e w' => e = .returned (.string t) ∧ Below w.heap.size w w' := by
  induction m using Nat.strongRecOn with
  | _ m ih =>
    intro v h0 h1 hm t ht w
    by_cases h10 : v < 10
    · obtain ⟨b, hbb⟩ : ∃ b : UInt8, UInt8.ofNat (48 + v.toNat) = b := ⟨_, rfl⟩
      have hbn : ∀ k < 10, (UInt8.ofNat (48 + k)).toNat = 48 + k := by decide
      have hcv := one_conv w (48 + v) b (by rw [← hbb, hbn v.toNat (by omega)]; omega)
      have HT : Hid (t.data.toList = [b]) := by rw [ht, Lib.decDigits, dif_pos (by omega), hbb]; exact rfl
      clear hbb hbn ht ih hm
      go_enter Tryz.func51, Tryz.ntmps51
      go_wp2
      go_ret
      exact ⟨ret_str HT.out.symm, below_new1 _ _⟩
    · obtain ⟨t1, k1⟩ := str_ex (Lib.decDigits (v / 10).toNat)
      obtain ⟨t2, k2⟩ := str_ex (Lib.decDigits (v % 10).toNat)
      have C1 := Lib.hid (fun w => ih (v / 10).toNat (by omega) (v / 10) (by omega) (by omega) (Nat.le_refl _) t1 k1 w)
      have C2 := Lib.hid (fun w => ih (v % 10).toNat (by omega) (v % 10) (by omega) (by omega) (Nat.le_refl _) t2 k2 w)
      have HT : Hid (t.data.toList = (t1 ++ t2).data.toList) := by
        show _ = _
        rw [app_list, ht, k1, k2, Lib.decDigits, dif_neg (by omega)]
        rw [show (v / 10).toNat = v.toNat / 10 by omega, show (v % 10).toNat = v.toNat % 10 by omega]
        congr 1
        rw [Lib.decDigits, dif_pos (by omega)]
      have z1 := sz_dec (by omega) k1
      have z2 := sz_dec (by omega) k2
      clear k1 k2 ht ih hm
      go_enter Tryz.func51, Tryz.ntmps51
      go_wp2_with (go_at_call 51; first
        | ((with_reducible refine (C1.out _).mono ?_); rintro e w1 ⟨rfl, hb1⟩)
        | ((with_reducible refine (C2.out _).mono ?_); rintro e w2 ⟨rfl, hb2⟩))
      go_ret
      exact ⟨ret_str HT.out.symm, hb1.trans (hb2.mono hb1.size)⟩
theorem ritoa_is (v : Int) (h0 : -1099511627776 ≤ v) (h1 : v ≤ 1099511627776) (t : ByteArray) (ht : t.data.toList = Lib.itoa v) (w : World) :
    Calls Tryz.prog 51 #[.int .i64 v] w fun e w' => e = .returned (.string t) ∧ Below w.heap.size w w' := by
  rcases itoa_cases v with ⟨q, e⟩ | ⟨q, e⟩
  · obtain ⟨u, hu⟩ := str_ex (Lib.decDigits v.natAbs)
    have C1 := Lib.hid (fun w => ritoa_pos _ (-v) (by omega) (by omega) (Nat.le_refl _) u (by rw [hu, show (-v).toNat = v.natAbs by omega]) w)
    have z1 := sz_dec (by omega) hu
    have HT : Hid (t.data.toList = (⟨#[45]⟩ ++ u : ByteArray).data.toList) := by
      show _ = _
      rw [app_list, ht, e, hu]; rfl
    clear hu e ht
    go_enter Tryz.func51, Tryz.ntmps51
    go_wp2_with (go_at_call 51; (with_reducible refine (C1.out _).mono ?_); rintro e w1 ⟨rfl, hb1⟩)
    go_ret
    exact ⟨ret_str HT.out.symm, hb1⟩
  · exact ritoa_pos _ v q h1 (Nat.le_refl _) t (by rw [ht, e, show v.toNat = v.natAbs by omega]) w

end Go.Proofs.YtncldnghhpdolaaGreatDoor
