/- The walk of the law DatesDays; no statement of the seat is proved here. -/
import Derived.Test.YtnoghelkcbjfiaaDoorDtM
namespace Go.Proofs.YtnoghelkcbjfiaaDoor
open Go.RowKit

theorem day_str {a b c : ByteArray} {y m d : Nat} (ha : a.data.toList = numL y 4) (hb : b.data.toList = numL m 2) (hc : c.data.toList = numL d 2) : (a ++ ⟨#[45]⟩ ++ b ++ ⟨#[45]⟩ ++ c).data.toList = dayL y m d := by
  rw [app_list, app_list, app_list, app_list, ha, hb, hc]; simp [dayL]
theorem val_int {k : IntKind} {a b : Int} (h : a = b) : Value.int k a = .int k b := by rw [h]
theorem num_size {a : ByteArray} {n d : Nat} (h : a.data.toList = numL n d) : a.size = d := sz_of h (numL_len d n)

set_option maxRecDepth 100000 in
set_option maxHeartbeats 4000000 in
theorem days_walk (a0 a1 : Int) (h0 : 0 ≤ a0 ∧ a0 ≤ 65535) (h1 : 0 ≤ a1 ∧ a1 ≤ 255) (w : World) :
    Calls Tryd.prog 3 #[.int .u16 a0, .int .u8 a1] w fun e w' => e = .returned (.bool true) ∧ Below w.heap.size w w' := by
  obtain ⟨h0, h0'⟩ := h0
  obtain ⟨h1, h1'⟩ := h1
  obtain ⟨y, hy⟩ : ∃ y : Nat, Hid (a0 % 9600 = (y : Int)) ∧ y < 9600 := ⟨(a0 % 9600).toNat, by show _ = _; omega, by omega⟩
  obtain ⟨m, hm⟩ : ∃ m : Nat, Hid (a1 % 12 + 1 = (m : Int)) ∧ 1 ≤ m ∧ m ≤ 12 := ⟨(a1 % 12 + 1).toNat, by show _ = _; omega, by omega, by omega⟩
  obtain ⟨hy, hy1⟩ := hy
  obtain ⟨hm, hm1, hm2⟩ := hm
  obtain ⟨Y, hY⟩ := str_ex (numL y 4)
  obtain ⟨M, hM⟩ := str_ex (numL m 2)
  have hYs := num_size hY
  have hMs := num_size hM
  have HY := Lib.hid hY; clear hY
  have HM := Lib.hid hM; clear hM
  obtain ⟨N, hN⟩ : ∃ N, Hid (daysN y m = N) := ⟨daysN y m, rfl⟩
  have hN1 : 28 ≤ N ∧ N ≤ 31 := by rw [← hN.out]; exact daysN_bd y m
  obtain ⟨hN1, hN2⟩ := hN1
  have CY := Lib.hid (fun w => number_at (y : Int) 4 y 4 rfl rfl (by omega) (by omega) Y HY.out w)
  have CM := Lib.hid (fun w => number_at (m : Int) 2 m 2 rfl rfl (by omega) (by omega) M HM.out w)
  have ey' : a0 % 9600 = (y : Int) := hy.out
  have em' : a1 % 12 + 1 = (m : Int) := hm.out
  go_enter Tryd.func3, Tryd.ntmps3
  go_wp2
  rw [ey']
  clear ey' em' hy hm h0 h0' h1 h1'
  go_loopg [7, 8] 33 (fun g s7 s8 wr => ∃ d c : Nat, s8 = .int .i64 d ∧ d ≤ 33 ∧ s7 = .int .i64 c ∧ Hid (c = min (d - 1) N) ∧ Hid (g = 33 - d) ∧ Hid (Below w.heap.size w wr))
  case atStart => exact ⟨0, 0, rfl, by omega, rfl, by show _ = _; simp, rfl, Below.refl _ _⟩
  case round =>
    obtain ⟨d, c, rfl, hd, rfl, hc, hg, HB⟩ := hrel
    by_cases hlt : d ≤ 32
    · obtain ⟨E, hE⟩ := str_ex (numL d 2)
      have hEs := num_size hE
      have hS := day_str HY.out HM.out hE
      have hrd := read_day y m d (by omega) (by omega) (by omega)
      have CE := Lib.hid (fun (n : Int) (hn : n = (d : Int)) w => number_at n 2 d 2 hn rfl (by omega) (by omega) E hE w)
      have hsz : (Y ++ ⟨#[45]⟩ ++ M ++ ⟨#[45]⟩ ++ E).size ≤ 549755813888 := by
        rw [app_size, app_size, app_size, app_size, hYs, hMs, hEs]; decide
      rw [hN.out] at hrd
      by_cases hok : 1 ≤ d ∧ d ≤ N
      · obtain ⟨d', rfl⟩ : ∃ d', d = d' + 1 := ⟨d - 1, by omega⟩
        obtain rfl : c = d' := by have := hc.out; omega
        rw [if_pos ⟨hm1, hm2, hok.1, hok.2⟩] at hrd
        have CR := Lib.hid (fun w => iread_at (Y ++ ⟨#[45]⟩ ++ M ++ ⟨#[45]⟩ ++ E) (Y ++ ⟨#[45]⟩ ++ M ++ ⟨#[45]⟩ ++ E) 0 hsz (by rw [hS]; exact hrd) w)
        have b1 : (((c + 1 : Nat) : Int) == (c : Int) + 1) = true := by simp
        clear hS hrd hE hsz
        go_wp2_with (first
          | (go_at_call 6; (first | (with_reducible refine (CY.out _).mono ?_) | (with_reducible refine (CM.out _).mono ?_) | (with_reducible refine (CE.out _ (by omega) _).mono ?_)); rintro x w' ⟨rfl, hb'⟩; replace HB := Lib.hid (HB.out.trans (hb'.mono HB.out.size)); clear hb')
          | (go_at_call 7; (with_reducible refine (CR.out _).mono ?_); rintro x w' ⟨rfl, hb'⟩; replace HB := Lib.hid (HB.out.trans (hb'.mono HB.out.size)); clear hb'))
        go_roundg (33 - (c + 1 + 1))
        case measure => have := hg.out; omega
        case rel => exact ⟨c + 1 + 1, c + 1, by go_num, by omega, by go_num, by show _ = _; omega, by show _ = _; omega, HB.out⟩
      · rw [if_neg (fun q => hok ⟨q.2.2.1, q.2.2.2⟩)] at hrd
        have CR := Lib.hid (fun w => iread_at (Y ++ ⟨#[45]⟩ ++ M ++ ⟨#[45]⟩ ++ E) ⟨#[]⟩ 9 hsz (by rw [hS]; exact hrd) w)
        clear hS hrd hE hsz
        by_cases hd0 : d = 0
        · subst hd0
          go_wp2_with (first
            | (go_at_call 6; (first | (with_reducible refine (CY.out _).mono ?_) | (with_reducible refine (CM.out _).mono ?_) | (with_reducible refine (CE.out _ (by omega) _).mono ?_)); rintro x w' ⟨rfl, hb'⟩; replace HB := Lib.hid (HB.out.trans (hb'.mono HB.out.size)); clear hb')
            | (go_at_call 7; (with_reducible refine (CR.out _).mono ?_); rintro x w' ⟨rfl, hb'⟩; replace HB := Lib.hid (HB.out.trans (hb'.mono HB.out.size)); clear hb'))
          go_roundg (33 - (0 + 1))
          case measure => have := hg.out; omega
          case rel => exact ⟨0 + 1, c, by go_num, by omega, rfl, by have := hc.out; show _ = _; omega, by show _ = _; omega, HB.out⟩
        · have hdN : N < d := by omega
          have hd28 : 28 < d := by omega
          clear hok
          go_wp2_with (first
            | (go_at_call 6; (first | (with_reducible refine (CY.out _).mono ?_) | (with_reducible refine (CM.out _).mono ?_) | (with_reducible refine (CE.out _ (by omega) _).mono ?_)); rintro x w' ⟨rfl, hb'⟩; replace HB := Lib.hid (HB.out.trans (hb'.mono HB.out.size)); clear hb')
            | (go_at_call 7; (with_reducible refine (CR.out _).mono ?_); rintro x w' ⟨rfl, hb'⟩; replace HB := Lib.hid (HB.out.trans (hb'.mono HB.out.size)); clear hb'))
          go_roundg (33 - (d + 1))
          case measure => have := hg.out; omega
          case rel => exact ⟨d + 1, c, by go_num, by omega, rfl, by have := hc.out; show _ = _; omega, by show _ = _; omega, HB.out⟩
    · obtain rfl : d = 33 := by omega
      obtain rfl : c = N := by have := hc.out; omega
      clear hlt hd
      obtain ⟨A, hA⟩ : ∃ A : Int, Hid (farI y m = A) := ⟨farI y m, rfl⟩
      obtain ⟨B, hBB⟩ : ∃ B : Int, Hid (farI ((y : Int) + (m : Int) / 12) ((m : Int) % 12 + 1) - A = B) := ⟨farI ((y : Int) + (m : Int) / 12) ((m : Int) % 12 + 1) - A, rfl⟩
      have hA1 : 0 ≤ A ∧ A ≤ 4000000 := by rw [← hA.out]; simp only [farI]; omega
      obtain ⟨hA1, hA2⟩ := hA1
      have hBc : ((c : Int) == B) = true := by
        have := far_diff y m hm1 hm2
        rw [hN.out, hA.out, hBB.out] at this
        rw [this]; simp
      have HBC := Lib.hid hBc; clear hBc
      obtain ⟨w2, hw2⟩ : ∃ w2, w2 = wr := ⟨wr, rfl⟩
      subst hw2
      go_wp2
      go_loopg [12, 91] 2 (fun g s12 s91 wr => ((s91 = .int .i64 0 ∧ s12 = .int .i64 0 ∧ g = 2) ∨ (s91 = .int .i64 1 ∧ s12 = .int .i64 A ∧ g = 1) ∨ (s91 = .int .i64 2 ∧ s12 = .int .i64 B ∧ g = 0)) ∧ Hid (wr.heap[w2.heap.size]? = some (.cells #[.int .i64 (y : Int), .int .i64 (m : Int), .int .i64 ((y : Int) + (m : Int) / 12), .int .i64 ((m : Int) % 12 + 1)] 27 (0, 0))) ∧ Hid (Below w.heap.size w wr))
      case atStart => exact ⟨.inl ⟨rfl, rfl, rfl⟩, heap_new1 w2 _, HB.out.alloc HB.out.size _⟩
      case round =>
        obtain ⟨hk, HC, HB2⟩ := hrel
        have q0 : wr.cell? ⟨w2.heap.size, 0, none⟩ = some (.int .i64 (y : Int)) := blk_cell HC.out 0
        have q1 : wr.cell? ⟨w2.heap.size, 1, none⟩ = some (.int .i64 (m : Int)) := blk_cell HC.out 1
        have q2 : wr.cell? ⟨w2.heap.size, 2, none⟩ = some (.int .i64 ((y : Int) + (m : Int) / 12)) := blk_cell HC.out 2
        have q3 : wr.cell? ⟨w2.heap.size, 3, none⟩ = some (.int .i64 ((m : Int) % 12 + 1)) := blk_cell HC.out 3
        have hlt := blk_lt HC.out
        rcases hk with ⟨rfl, rfl, rfl⟩ | ⟨rfl, rfl, rfl⟩ | ⟨rfl, rfl, rfl⟩
        · go_wp2
          go_roundg 1
          case measure => omega
          case rel => exact ⟨.inr (.inl ⟨rfl, val_int (by rw [← hA.out]; simp only [farI]), rfl⟩), blk_later HC.out (below_new1 wr _) hlt, HB2.out.alloc HB2.out.size _⟩
        · go_wp2
          go_roundg 0
          case measure => omega
          case rel => exact ⟨.inr (.inr ⟨rfl, val_int (by rw [← hBB.out]; simp only [farI]), rfl⟩), blk_later HC.out (below_new1 wr _) hlt, HB2.out.alloc HB2.out.size _⟩
        · have b := HBC.out
          have F0 := Lib.hid (fun w => fails_v (Y ++ ⟨#[45, 48, 48, 45, 48, 49]⟩) 9 (by rw [app_size, hYs]; decide) true (decide_eq_true (by
            have h := read_day y 0 1 (by omega) (by omega) (by omega)
            rw [if_neg (by omega)] at h
            rw [app_list, HY.out]; exact h)) w)
          have F1 := Lib.hid (fun w => fails_v (Y ++ ⟨#[45, 49, 51, 45, 48, 49]⟩) 9 (by rw [app_size, hYs]; decide) true (decide_eq_true (by
            have h := read_day y 13 1 (by omega) (by omega) (by omega)
            rw [if_neg (by omega)] at h
            rw [app_list, HY.out]; exact h)) w)
          clear q0 q1 q2 q3
          go_wp2_with (first
            | (go_at_call 6; (with_reducible refine (CY.out _).mono ?_); rintro x w' ⟨rfl, hb'⟩; replace HB2 := Lib.hid (HB2.out.trans (hb'.mono HB2.out.size)); clear hb')
            | (go_at_call 8; (first | (with_reducible refine (F0.out _).mono ?_) | (with_reducible refine (F1.out _).mono ?_)); rintro x w' ⟨rfl, hb'⟩; replace HB2 := Lib.hid (HB2.out.trans (hb'.mono HB2.out.size)); clear hb')
            | (go_at_call 9; (with_reducible refine (lives_any _).mono ?_); rintro x w' ⟨rfl, hb'⟩; replace HB2 := Lib.hid (HB2.out.trans (hb'.mono HB2.out.size)); clear hb'))
          go_ret
          exact ⟨rfl, HB2.out⟩

end Go.Proofs.YtnoghelkcbjfiaaDoor
