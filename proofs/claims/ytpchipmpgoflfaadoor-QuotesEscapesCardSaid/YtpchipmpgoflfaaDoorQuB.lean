/- Walks over package quotes: unit, runeAt; no statement of the seat is proved here. -/
import Derived.Test.YtpchipmpgoflfaaDoorQuA
import Derived.Laws.BitsAllLaws
import Derived.Laws.BitsLemmas
namespace Go.Proofs.YtpchipmpgoflfaaDoor
open Go.RowKit

/-- The byte at a place; 256 behind all. -/
def bt (l : List UInt8) (i : Nat) : Nat := if h : i < l.length then l[i].toNat else 256
theorem bt_lt {l : List UInt8} {i : Nat} (h : i < l.length) : bt l i = l[i].toNat := by rw [bt, dif_pos h]
theorem bt_ge {l : List UInt8} {i : Nat} (h : l.length ≤ i) : bt l i = 256 := by rw [bt, dif_neg (by omega)]
theorem bt_str {s : ByteArray} {i : Nat} (h : i < s.size) : bt s.data.toList i = s[i].toNat := by rw [bt_lt (by simpa using h)]; rfl
theorem bt_str_ge {s : ByteArray} {i : Nat} (h : s.size ≤ i) : bt s.data.toList i = 256 := bt_ge (by simpa using h)
/-- The digit at a place; below 0: none. -/
def hx (l : List UInt8) (i : Nat) : Int := if h : i < l.length then hexD l[i] else -1
theorem hx_str {s : ByteArray} {i : Nat} (h : i < s.size) : hx s.data.toList i = hexD s[i] := by rw [hx, dif_pos (by simpa using h)]; rfl
theorem hx_str_ge {s : ByteArray} {i : Nat} (h : s.size ≤ i) : hx s.data.toList i = -1 := by rw [hx, dif_neg (by simpa using h)]

/-- So many digits more, from a place on: the number, and below 0; or 0, and where the first byte is that is none. -/
def dgs (l : List UInt8) : Nat → Nat → Int → Int × Int
  | 0, _, n => (n, -1)
  | k + 1, i, n => if hx l i < 0 then (0, (i : Int)) else dgs l k (i + 1) (16 * n + hx l i)
/-- The unit of an escape at a place. -/
def uRest (l : List UInt8) (at_ : Nat) : Nat → Int → Int × Int
  | 0, n => if bt l at_ ≠ 92 then (0, (at_ : Int)) else if bt l (at_ + 1) ≠ 117 then (0, (at_ : Int) + 1) else dgs l 4 (at_ + 2) n
  | 1, n => if bt l (at_ + 1) ≠ 117 then (0, (at_ : Int) + 1) else dgs l 4 (at_ + 2) n
  | j + 2, n => dgs l (4 - j) (at_ + (j + 2)) n
def unitL (l : List UInt8) (at_ : Nat) : Int × Int := uRest l at_ 0 0

theorem ret2_int {a b c d : Int} (h : a = b) (h' : c = d) : Ending.returned (.tuple #[.int .i64 a, .int .i64 c]) = .returned (.tuple #[.int .i64 b, .int .i64 d]) := by rw [h, h']
theorem one_byte (s : ByteArray) (k : Nat) (h : k < s.size) : s.extract k (k + 1) = oneB s[k] := by
  apply ByteArray.ext
  rw [ByteArray.data_extract]
  apply Array.ext
  · simp [oneB]; omega
  · intro i h1 h2
    simp [oneB] at h2
    subst h2
    simp [oneB]; rfl

theorem u_out {l : List UInt8} {a j : Nat} {n : Int} (hj : j < 6) (h : l.length ≤ a + j) : uRest l a j n = (0, ((a + j : Nat) : Int)) := by
  match j with
  | 0 => rw [uRest, bt_ge (by omega), if_pos (by omega)]; rfl
  | 1 => rw [uRest, bt_ge h, if_pos (by omega)]; rfl
  | j + 2 =>
    obtain ⟨k, hk⟩ : ∃ k, 4 - j = k + 1 := ⟨3 - j, by omega⟩
    rw [uRest, hk, dgs, hx, dif_neg (by omega), if_pos (by omega)]
theorem u_0_bad {l : List UInt8} {a : Nat} {n : Int} (h : bt l a ≠ 92) : uRest l a 0 n = (0, (a : Int)) := by rw [uRest, if_pos h]
theorem u_0 {l : List UInt8} {a : Nat} {n : Int} (h : bt l a = 92) : uRest l a 0 n = uRest l a 1 n := by rw [uRest, if_neg (by omega)]; rfl
theorem u_1_bad {l : List UInt8} {a : Nat} {n : Int} (h : bt l (a + 1) ≠ 117) : uRest l a 1 n = (0, (a : Int) + 1) := by rw [uRest, if_pos h]
theorem u_1 {l : List UInt8} {a : Nat} {n : Int} (h : bt l (a + 1) = 117) : uRest l a 1 n = uRest l a 2 n := by rw [uRest, if_neg (by omega)]; rfl
theorem u_d_bad {l : List UInt8} {a j : Nat} {n : Int} (h2 : 2 ≤ j) (hj : j < 6) (h : hx l (a + j) < 0) : uRest l a j n = (0, ((a + j : Nat) : Int)) := by
  obtain ⟨i, rfl⟩ : ∃ i, j = i + 2 := ⟨j - 2, by omega⟩
  obtain ⟨k, hk⟩ : ∃ k, 4 - i = k + 1 := ⟨3 - i, by omega⟩
  rw [uRest, hk, dgs, if_pos h]
theorem u_d {l : List UInt8} {a j : Nat} {n : Int} (h2 : 2 ≤ j) (hj : j < 6) (h : 0 ≤ hx l (a + j)) : uRest l a j n = uRest l a (j + 1) (16 * n + hx l (a + j)) := by
  obtain ⟨i, rfl⟩ : ∃ i, j = i + 2 := ⟨j - 2, by omega⟩
  obtain ⟨k, hk⟩ : ∃ k, 4 - i = k + 1 := ⟨3 - i, by omega⟩
  rw [uRest, hk, dgs, if_neg (by omega), uRest, show 4 - (i + 1) = k by omega]
  rfl
theorem hx_lt (l : List UInt8) (i : Nat) : hx l i < 16 := by
  unfold hx; split
  · exact (hexD_lt _).1
  · omega

theorem pu_ok_at (s : ByteArray) (k : Nat) (h : k < s.size) (d : Int) (hd : hexD s[k] = d) (h0 : 0 ≤ d) (w : World) :
    Calls Tryd.prog 36 #[.string (s.extract k (k + 1)), .int .i64 16, .int .i64 8] w fun e w' => e = .returned (.tuple #[.int .u64 d, .nilIface]) ∧ Below w.heap.size w w' := by
  rw [one_byte s k h]; exact pu_ok _ d hd h0 w
theorem pu_syn_at (s : ByteArray) (k : Nat) (h : k < s.size) (hd : hexD s[k] < 0) (w : World) (hG : Glob w) :
    Calls Tryd.prog 36 #[.string (s.extract k (k + 1)), .int .i64 16, .int .i64 8] w fun e w' => ∃ t p, e = .returned (.tuple #[.int .u64 0, .iface t p]) ∧ Below w.heap.size w w' := by
  rw [one_byte s k h]; exact pu_syn _ hd w hG
theorem ofInt_i64 (a : Nat) (ha : a < 9223372036854775808) : (BitVec.ofInt 64 (a : Int)).toNat = a := by
  rw [BitVec.ofInt_natCast, BitVec.toNat_ofNat]; exact Nat.mod_eq_of_lt (by omega)
theorem i64_or_nat (a b : Nat) (ha : a < 9223372036854775808) (hb : b < 9223372036854775808) : bits .or .i64 (a : Int) (b : Int) = ((a ||| b : Nat) : Int) := by
  have hx : a ||| b < 2 ^ 63 := Nat.or_lt_two_pow (by omega) (by omega)
  show IntKind.i64.wrap ((BitVec.ofInt 64 (a : Int) ||| BitVec.ofInt 64 (b : Int)).toNat : Int) = _
  rw [BitVec.toNat_or, ofInt_i64 a ha, ofInt_i64 b hb, IntKind.wrap_i64]
  omega
theorem or16 (n d : Int) (h0 : 0 ≤ n) (h1 : n < 65536) (h2 : 0 ≤ d) (h3 : d < 16) : bits .or .i64 (16 * n) d = 16 * n + d := by
  obtain ⟨a, rfl⟩ := Int.eq_ofNat_of_zero_le h0
  obtain ⟨b, rfl⟩ := Int.eq_ofNat_of_zero_le h2
  have := i64_or_nat (16 * a) b (by omega) (by omega)
  have e : 16 * a ||| b = 16 * a + b := by
    rw [show 16 * a = 2 ^ 4 * a by omega, Nat.two_pow_add_eq_or_of_lt (by omega)]
  rw [e] at this
  simpa using this

set_option maxRecDepth 100000 in
set_option maxHeartbeats 1000000 in
theorem unit_any (s : ByteArray) (hs : s.size ≤ 1073741824) (at_ : Nat) (hat : at_ ≤ 1073741824) (w : World) (hG : Glob w) :
    Calls Tryd.prog 35 #[.string s, .int .i64 at_] w fun e w' => e = .returned (.tuple #[.int .i64 (unitL s.data.toList at_).1, .int .i64 (unitL s.data.toList at_).2]) ∧ Below w.heap.size w w' := by
  have HG := Lib.hid hG; clear hG
  have hsl : s.data.toList.length = s.size := by simp
  have HSL := Lib.hid hsl; clear hsl
  go_enter Tryd.func35, Tryd.ntmps35
  go_wp2
  go_loopg [4, 5, 6, 7, 8] 6 (fun g s4 s5 s6 s7 s8 wr => ∃ i : Nat, ∃ n : Int, at_ ≤ i ∧ i ≤ at_ + 6 ∧ 0 ≤ n ∧ n < 65536 ∧ s4 = .int .i64 n ∧ s5 = .int .i64 0 ∧ s6 = .int .i64 i ∧ Hid (g = at_ + 6 - i) ∧ Hid (uRest s.data.toList at_ (i - at_) n = unitL s.data.toList at_) ∧ Hid (n < 16 ^ (i - at_ - 2)) ∧ Below w.heap.size w wr)
  case atStart => exact ⟨at_, 0, by omega, by omega, by omega, by omega, rfl, rfl, rfl, (by show _ = _; omega), by rw [Nat.sub_self]; rfl, by simp [Hid], Below.refl _ _⟩
  case round =>
    obtain ⟨i, n, hi0, hi6, hn0, hn1, rfl, rfl, rfl, hg, hr, hb16, hbw⟩ := hrel
    by_cases hlt : i < at_ + 6
    · by_cases hin : i < s.size
      · by_cases h0 : i = at_
        · subst h0
          by_cases hc : s[i].toNat = 92
          · have b1 : ((s[i].toNat : Int) != 92) = false := by simp; omega
            have hr' : Hid (uRest s.data.toList i (i + 1 - i) n = unitL s.data.toList i) := by
              show _ = _
              rw [← hr.out, Nat.sub_self, Nat.add_sub_cancel_left, u_0 (by rw [bt_str hin]; exact hc)]
            have hn16 : n = 0 := by have := hb16.out; simp at this; omega
            clear hc
            have HN := Lib.hid hn16; clear hn16
            go_wp2
            go_roundg (i + 6 - (i + 1))
            case measure => have := hg.out; omega
            case rel => exact ⟨i + 1, n, by omega, by omega, hn0, hn1, rfl, rfl, by go_num, rfl, hr', by rw [HN.out]; show (0 : Int) < _; exact Int.pow_pos (by omega), hbw⟩
          · have b1 : ((s[i].toNat : Int) != 92) = true := by simp; omega
            have hr' : Hid (unitL s.data.toList i = (0, (i : Int))) := by
              show _ = _
              rw [← hr.out, Nat.sub_self, u_0_bad (by rw [bt_str hin]; exact hc)]
            clear hc
            go_wp2
            go_ret2
            exact ⟨ret2_int (by rw [hr'.out]) (by rw [hr'.out]), hbw⟩
        · by_cases h1 : i = at_ + 1
          · subst h1
            by_cases hc : s[at_ + 1].toNat = 117
            · have b1 : ((s[at_ + 1].toNat : Int) != 117) = false := by simp; omega
              have hr' : Hid (uRest s.data.toList at_ (at_ + 1 + 1 - at_) n = unitL s.data.toList at_) := by
                show _ = _
                rw [← hr.out, show at_ + 1 - at_ = 1 by omega, show at_ + 1 + 1 - at_ = 2 by omega, u_1 (by rw [bt_str hin]; exact hc)]
              have hn16 : n = 0 := by have := hb16.out; rw [show at_ + 1 - at_ - 2 = 0 by omega] at this; simp at this; omega
              clear hc
              have HN := Lib.hid hn16; clear hn16
              go_wp2
              go_roundg (at_ + 6 - (at_ + 1 + 1))
              case measure => have := hg.out; omega
              case rel => exact ⟨at_ + 1 + 1, n, by omega, by omega, hn0, hn1, rfl, rfl, by go_num, rfl, hr', by rw [HN.out]; show (0 : Int) < _; exact Int.pow_pos (by omega), hbw⟩
            · have b1 : ((s[at_ + 1].toNat : Int) != 117) = true := by simp; omega
              have hr' : Hid (unitL s.data.toList at_ = (0, (at_ : Int) + 1)) := by
                show _ = _
                rw [← hr.out, show at_ + 1 - at_ = 1 by omega, u_1_bad (by rw [bt_str hin]; exact hc)]
              clear hc
              go_wp2
              go_ret2
              exact ⟨ret2_int (by rw [hr'.out]) (by rw [hr'.out]), hbw⟩
          · have hge : at_ + 2 ≤ i := by omega
            clear h0 h1
            by_cases hd : hexD s[i] < 0
            · have hr' : Hid (unitL s.data.toList at_ = (0, (i : Int))) := by
                show _ = _
                rw [← hr.out, u_d_bad (by omega) (by omega) (by rw [show at_ + (i - at_) = i by omega, hx_str hin]; exact hd), show at_ + (i - at_) = i by omega]
              go_wp2_with (go_at_call 36; refine (pu_syn_at s i hin hd _ (HG.out.keep hbw (Nat.le_refl _))).mono ?_; rintro e w1 ⟨te, pe, rfl, hb1⟩)
              go_ret2
              exact ⟨ret2_int (by rw [hr'.out]) (by rw [hr'.out]), hbw.trans (hb1.mono hbw.size)⟩
            · obtain ⟨d, hdd⟩ : ∃ d, Hid (hexD s[i] = d) := ⟨hexD s[i], rfl⟩
              have hd0 : 0 ≤ d := by rw [← hdd.out]; omega
              have hd16 : d < 16 := by rw [← hdd.out]; exact (hexD_lt _).1
              have hxd : hx s.data.toList i = d := by rw [hx_str hin]; exact hdd.out
              have hr' : Hid (uRest s.data.toList at_ (i + 1 - at_) (16 * n + d) = unitL s.data.toList at_) := by
                show _ = _
                have e1 : at_ + (i - at_) = i := by omega
                have hu := u_d (l := s.data.toList) (a := at_) (j := i - at_) (n := n) (by omega) (by omega) (by rw [e1, hxd]; exact hd0)
                rw [e1, hxd, hr.out] at hu
                rw [show i + 1 - at_ = i - at_ + 1 by omega]
                exact hu.symm
              have h16 : Hid (16 * n + d < 16 ^ (i + 1 - at_ - 2)) := by
                show _ < _
                have h := hb16.out
                rw [show i + 1 - at_ - 2 = (i - at_ - 2) + 1 by omega, Int.pow_succ]
                omega
              have hn4 : n < 4096 := by
                have h := hb16.out
                have : (16 : Int) ^ (i - at_ - 2) ≤ 16 ^ 3 := by
                  have h3 : i - at_ - 2 ≤ 3 := by omega
                  exact_mod_cast Nat.pow_le_pow_right (n := 16) (by omega) h3
                omega
              have hor := or16 n d hn0 (by omega) hd0 hd16
              clear hd hxd
              go_wp2_with (go_at_call 36; refine (pu_ok_at s i hin d hdd.out hd0 _).mono ?_; rintro e w1 ⟨rfl, hb1⟩)
              go_roundg (at_ + 6 - (i + 1))
              case measure => have := hg.out; omega
              case rel =>
                refine ⟨i + 1, 16 * n + d, by omega, by omega, by omega, by omega, ?_, rfl, by go_num, rfl, hr', h16, hbw.trans (hb1.mono hbw.size)⟩
                rw [Int.mul_comm n 16, hor]
      · go_wp2
        go_ret2
        have hr' := hr.out
        rw [u_out (by omega) (by rw [HSL.out]; omega)] at hr'
        rw [← hr']
        exact ⟨ret2_int rfl (by simp; omega), hbw⟩
    · go_wp2
      go_ret2
      obtain rfl : i = at_ + 6 := by omega
      have hr' := hr.out
      rw [Nat.add_sub_cancel_left] at hr'
      rw [← hr']
      exact ⟨ret2_int rfl rfl, hbw⟩

end Go.Proofs.YtpchipmpgoflfaaDoor
