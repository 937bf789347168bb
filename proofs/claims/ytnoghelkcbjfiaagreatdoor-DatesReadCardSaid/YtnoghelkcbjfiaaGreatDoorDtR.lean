/- Walks over chapter 07's reference: two, is, date, clock, zone; no statement of the seat is proved here. -/
import Derived.Test.YtnoghelkcbjfiaaGreatDoorDtA
namespace Go.Proofs.YtnoghelkcbjfiaaGreatDoor
open Go.RowKit

def twoZ (l : List UInt8) (i : Nat) : Int := if tw l i then (twN l i : Int) else -1
theorem twoZ_t {l : List UInt8} {i : Nat} (h : tw l i = true) : twoZ l i = (twN l i : Int) := if_pos h
theorem twoZ_f {l : List UInt8} {i : Nat} (h : tw l i = false) : twoZ l i = -1 := if_neg (by simp [h])
theorem twoZ_lt {l : List UInt8} {i : Nat} : decide (twoZ l i < 0) = !tw l i := by
  cases h : tw l i
  · rw [twoZ_f h]; rfl
  · rw [twoZ_t h]; simp

set_option maxHeartbeats 400000 in
theorem numeral_is (c : UInt8) (w : World) : Calls Tryz.prog 49 #[.int .u8 ((c.toNat : Nat) : Int)] w fun e w' => e = .returned (.bool (dgN c.toNat)) ∧ w = w' := by
  by_cases h1 : 48 ≤ c.toNat
  · by_cases h2 : c.toNat ≤ 57
    · have hd : dgN c.toNat = true := dgN_t.2 ⟨h1, h2⟩
      rw [hd]; clear hd
      go_enter Tryz.func49, Tryz.ntmps49
      go_wp2
      go_ret
      exact ⟨ret_bool (by simp <;> omega), rfl⟩
    · have hd : dgN c.toNat = false := by cases h : dgN c.toNat with | false => rfl | true => exact absurd (dgN_t.1 h).2 h2
      rw [hd]; clear hd
      go_enter Tryz.func49, Tryz.ntmps49
      go_wp2
      go_ret
      exact ⟨ret_bool (by simp <;> omega), rfl⟩
  · have hd : dgN c.toNat = false := by cases h : dgN c.toNat with | false => rfl | true => exact absurd (dgN_t.1 h).1 h1
    rw [hd]; clear hd
    go_enter Tryz.func49, Tryz.ntmps49
    go_wp2
    go_ret
    exact ⟨ret_bool (by simp <;> omega), rfl⟩
theorem numeral_at (c : UInt8) (b : Bool) (h : dgN c.toNat = b) (w : World) : Calls Tryz.prog 49 #[.int .u8 ((c.toNat : Nat) : Int)] w fun e w' => e = .returned (.bool b) ∧ w = w' := by subst h; exact numeral_is c w

set_option maxHeartbeats 400000 in
theorem ris_is (s : ByteArray) (_hs : s.size ≤ 1099511627776) (i : Int) (h0 : 0 ≤ i) (c : UInt8) (w : World) :
    Calls Tryz.prog 30 #[.string s, .int .i64 i, .int .u8 ((c.toNat : Nat) : Int)] w fun e w' => e = .returned (.bool (decide (bt s.data.toList i.toNat = c.toNat))) ∧ w = w' := by
  obtain ⟨k, rfl⟩ : ∃ k : Nat, i = k := ⟨i.toNat, by omega⟩
  rw [Int.toNat_natCast]
  by_cases hk : k < s.size
  · have hb : Hid (decide (bt s.data.toList k = c.toNat) = ((s[k].toNat : Int) == (c.toNat : Int))) := by
      show _ = _
      rw [bt_lt (show k < s.data.toList.length from hk), run_idx, Bool.eq_iff_iff]; simp; omega
    go_enter Tryz.func30, Tryz.ntmps30
    go_wp2
    go_ret
    exact ⟨ret_bool hb.out.symm, rfl⟩
  · have hb : decide (bt s.data.toList k = c.toNat) = false := by
      rw [bt_ge (show s.data.toList.length ≤ k from by rw [size_list]; omega)]
      have := c.toNat_lt
      simp; omega
    rw [hb]; clear hb
    go_enter Tryz.func30, Tryz.ntmps30
    go_wp2
    go_ret
    exact ⟨rfl, rfl⟩

set_option maxHeartbeats 1000000 in
theorem two_D (s : ByteArray) (_hs : s.size ≤ 1099511627776) (i : Int) (h0 : 0 ≤ i) (h1 : i ≤ 2199023255552) (w : World) :
    Calls Tryz.prog 32 #[.string s, .int .i64 i] w fun e w' => e = .returned (.int .i64 (twoZ s.data.toList i.toNat)) ∧ ∃ n, w' = w.drewN n := by
  obtain ⟨k, rfl⟩ : ∃ k : Nat, i = k := ⟨i.toNat, by omega⟩
  rw [Int.toNat_natCast]
  by_cases hk : k + 2 ≤ s.size
  · have hk0 : k < s.size := by omega
    have hk1 : k + 1 < s.size := by omega
    obtain ⟨a, ha⟩ : ∃ a, Hid (dgN s[k].toNat = a) := ⟨dgN s[k].toNat, rfl⟩
    obtain ⟨b, hb⟩ : ∃ b, Hid (dgN s[k + 1].toNat = b) := ⟨dgN s[k + 1].toNat, rfl⟩
    have htw : Hid (tw s.data.toList k = (a && b)) := by
      show _ = _
      rw [tw, dg, dg, bt_lt (show k < s.data.toList.length from hk0), bt_lt (show k + 1 < s.data.toList.length from hk1), run_idx, run_idx, ha.out, hb.out]
    cases a
    · have hz : twoZ s.data.toList k = -1 := twoZ_f (by rw [htw.out]; rfl)
      rw [hz]; clear hz
      go_enter Tryz.func32, Tryz.ntmps32
      go_wp2_with (go_at_call 49; (with_reducible refine (numeral_at _ _ ha.out _).mono ?_); rintro e w1 ⟨rfl, rfl⟩)
      go_ret
      exact ⟨rfl, 0, rfl⟩
    · cases b
      · have hz : twoZ s.data.toList k = -1 := twoZ_f (by rw [htw.out]; rfl)
        rw [hz]; clear hz
        go_enter Tryz.func32, Tryz.ntmps32
        go_wp2_with (go_at_call 49; (first | (with_reducible refine (numeral_at _ _ ha.out _).mono ?_) | (with_reducible refine (numeral_at _ _ hb.out _).mono ?_)); rintro e w1 ⟨rfl, rfl⟩)
        go_ret
        exact ⟨rfl, 0, rfl⟩
      · have hz : Hid (twoZ s.data.toList k = 10 * ((s[k].toNat : Int) - 48) + ((s[k + 1].toNat : Int) - 48)) := by
          have h3 := dgN_t.1 ha.out
          have h4 := dgN_t.1 hb.out
          show _ = _
          rw [twoZ_t (by rw [htw.out]; rfl), twN, bt_lt (show k < s.data.toList.length from hk0), bt_lt (show k + 1 < s.data.toList.length from hk1), run_idx, run_idx]
          omega
        have h3 := dgN_t.1 ha.out
        have h4 := dgN_t.1 hb.out
        go_enter Tryz.func32, Tryz.ntmps32
        go_wp2_with (go_at_call 49; (first | (with_reducible refine (numeral_at _ _ ha.out _).mono ?_) | (with_reducible refine (numeral_at _ _ hb.out _).mono ?_)); rintro e w1 ⟨rfl, rfl⟩)
        go_quiet (fail)
        go_wp2
        go_ret
        exact ⟨ret_int hz.out.symm, _, rfl⟩
  · have hz : twoZ s.data.toList k = -1 := by
      refine twoZ_f ?_
      cases h : tw s.data.toList k with
      | false => rfl
      | true => exact absurd (tw_len h) (by rw [size_list]; omega)
    rw [hz]; clear hz
    go_enter Tryz.func32, Tryz.ntmps32
    go_wp2
    go_ret
    exact ⟨rfl, 0, rfl⟩

theorem two_is (s : ByteArray) (hs : s.size ≤ 1099511627776) (i : Int) (h0 : 0 ≤ i) (h1 : i ≤ 2199023255552) (w : World) :
    Calls Tryz.prog 32 #[.string s, .int .i64 i] w fun e w' => e = .returned (.int .i64 (twoZ s.data.toList i.toNat)) ∧ Below w.heap.size w w' :=
  (two_D s hs i h0 h1 w).mono fun _ _ ⟨h, n, hn⟩ => ⟨h, by rw [hn]; exact below_drewN (Below.refl _ _) n⟩

def dateZ (l : List UInt8) (i : Nat) : Int := if isD l i then (i : Int) + 10 else -1
def clockZ (l : List UInt8) (i : Nat) : Int := if isC l i then (i : Int) + 8 + pN (partN l (i + 8)) else -1
def zoneZ (l : List UInt8) (i : Nat) : Int := if zoneN l i = 0 then -1 else (i : Int) + zoneN l i
theorem is_at (s : ByteArray) (hs : s.size ≤ 1099511627776) (i : Int) (h0 : 0 ≤ i) (c : UInt8) (b : Bool) (h : decide (bt s.data.toList i.toNat = c.toNat) = b) (w : World) :
    Calls Tryz.prog 30 #[.string s, .int .i64 i, .int .u8 ((c.toNat : Nat) : Int)] w fun e w' => e = .returned (.bool b) ∧ w = w' := by subst h; exact ris_is s hs i h0 c w

end Go.Proofs.YtnoghelkcbjfiaaGreatDoor
