/- strconv.ParseUint at up to eight digits of base 16, 32 bits; no statement of the seat is proved here. -/
import Derived.Test.YtflfedfghnnaeaaDoorHx
namespace Go.Proofs.YtflfedfghnnaeaaDoor
open Go.RowKit

theorem pow16_le {k : Nat} (h : k ≤ 7) : (16 : Int) ^ k ≤ 268435456 := by
  have hk : k = 0 ∨ k = 1 ∨ k = 2 ∨ k = 3 ∨ k = 4 ∨ k = 5 ∨ k = 6 ∨ k = 7 := by omega
  rcases hk with rfl | rfl | rfl | rfl | rfl | rfl | rfl | rfl <;> decide
theorem dgs_step {l : List UInt8} {m k : Nat} {n V : Int} (h : dgs l (m - k) k n = (V, -1)) (hk : k < m) : 0 ≤ hx l k ∧ dgs l (m - (k + 1)) (k + 1) (16 * n + hx l k) = (V, -1) := by
  obtain ⟨f, hf⟩ : ∃ f, m - k = f + 1 := ⟨m - k - 1, by omega⟩
  rw [hf, dgs] at h
  by_cases hd : hx l k < 0
  · rw [if_pos hd] at h
    injection h with _ h; omega
  · rw [if_neg hd] at h
    exact ⟨by omega, by rw [show m - (k + 1) = f by omega]; exact h⟩
theorem digit_ways (c : UInt8) (h : 0 ≤ hexD c) : (48 ≤ c.toNat ∧ c.toNat ≤ 57 ∧ hexD c = (c.toNat : Int) - 48) ∨ (c.toNat < 48 ∧ 97 ≤ (lowC c).toNat ∧ (lowC c).toNat ≤ 102 ∧ hexD c = ((lowC c).toNat : Int) - 87) ∨ (57 < c.toNat ∧ c.toNat ≠ 95 ∧ 97 ≤ (lowC c).toNat ∧ (lowC c).toNat ≤ 102 ∧ hexD c = ((lowC c).toNat : Int) - 87) := by
  have hc : ∀ c : UInt8, (c.toNat < 48 ∨ 57 < c.toNat) → (lowC c).toNat ≤ 102 → c.toNat ≠ 95 := u8_all (by decide +kernel)
  rcases hex_ways c with a | ⟨a1, a2, a3, a4⟩ | ⟨_, _, _, a4⟩ | ⟨_, _, a4⟩
  · exact .inl a
  · rcases a1 with a1 | a1
    · exact .inr (.inl ⟨a1, a2, a3, a4⟩)
    · exact .inr (.inr ⟨a1, hc c (.inr a1) a3, a2, a3, a4⟩)
  · omega
  · omega
theorem ret_u64n {a b : Int} (h : a = b) : Ending.returned (.tuple #[.int .u64 a, .nilIface]) = .returned (.tuple #[.int .u64 b, .nilIface]) := by rw [h]

set_option maxRecDepth 100000 in
set_option maxHeartbeats 2000000 in
theorem ipu16 (s : ByteArray) (h1 : 1 ≤ s.size) (h8 : s.size ≤ 8) (V : Int) (hV : dgs s.data.toList s.size 0 0 = (V, -1)) (w : World) :
    Calls Tryd.prog 84 #[.string s, .int .i64 16, .int .i64 32] w fun e w' => e = .returned (.tuple #[.int .u64 V, .nilIface]) ∧ Below w.heap.size w w' := by
  obtain ⟨cap, w1, hrun, hb1, hs1, hS⟩ := conv_sb (P := Tryd.prog) w 9 40 5 s Tryd.underlying9 Tryd.underlying40 Tryd.underlying5
  have HS := Lib.hid hS; clear hS
  have hne : s.toList.isEmpty = false := by
    rw [ByteArray.toList_eq]
    rcases s with ⟨⟨l⟩⟩
    cases l
    · simp [ByteArray.size] at h1
    · rfl
  have HV := Lib.hid hV; clear hV
  go_enter Tryd.func84, Tryd.ntmps84
  go_wp2_with fail
  clear hrun
  go_loopg [12, 13, 101] 9 (fun g s12 s13 s101 wr => s12 = .bool false ∧ wr = w1 ∧ ∃ (k : Nat) (n : Int), s101 = .int .i64 k ∧ s13 = .int .u64 n ∧ k ≤ s.size ∧ 0 ≤ n ∧ Hid (n < 16 ^ k) ∧ Hid (g = 9 - k) ∧ Hid (dgs s.data.toList (s.size - k) k n = (V, -1)))
  case atStart => exact ⟨rfl, rfl, 0, 0, rfl, rfl, by omega, by omega, (by show (0 : Int) < 1; decide), rfl, HV.out⟩
  case round =>
    obtain ⟨rfl, rfl, k, n, rfl, rfl, hk, hn0, hn1, hg, hd⟩ := hrel
    by_cases hlt : k < s.size
    · obtain ⟨hx0, hd'⟩ := dgs_step hd.out hlt
      rw [hx_str hlt] at hx0 hd'
      have HD' := Lib.hid hd'; clear hd'
      have hnb : n ≤ 268435455 := by have := pow16_le (k := k) (by omega); have := hn1.out; omega
      have hdl := (hexD_lt s[k]).1
      obtain ⟨_, ea, hab, hc0⟩ := HS.out k (by simpa using hlt)
      cases ea
      have hc1 : wr.cell? ⟨w.heap.size, k, none⟩ = some (.int .u8 (s[k].toNat : Int)) := by rw [add_plain, Nat.zero_add] at hc0; exact hc0
      clear hc0 hab
      have hl := low_le s[k]
      have hx255 := s[k].toNat_lt
      have hpw : Hid (16 * n + hexD s[k] < 16 ^ (k + 1)) := by
        have := hn1.out
        show _ < (16 : Int) ^ (k + 1)
        rw [Int.pow_succ]
        omega
      have bc : decide ((1152921504606846976 : Int) ≤ n) = false := decide_eq_false (by omega)
      rcases digit_ways s[k] hx0 with ⟨a1, a2, a3⟩ | ⟨a1, a2, a4, a3⟩ | ⟨a1, a5, a2, a4, a3⟩
      · have A3 := Lib.hid a3; clear a3
        have b1 : decide ((48 : Int) ≤ (s[k].toNat : Int)) = true := decide_eq_true (by omega)
        have b2 : decide ((s[k].toNat : Int) ≤ 57) = true := decide_eq_true (by omega)
        have b3 : ((s[k].toNat : Int) == 95) = false := by simp; omega
        clear hx0 hdl
        go_wp2
        go_roundg (9 - (k + 1))
        case measure => have := hg.out; omega
        case rel =>
          have := A3.out
          exact ⟨rfl, rfl, k + 1, 16 * n + hexD s[k], by go_num, by congr 1; omega, by omega, by omega, hpw.out, rfl, HD'.out⟩
      · have A3 := Lib.hid a3; clear a3
        have b1 : decide ((48 : Int) ≤ (s[k].toNat : Int)) = false := decide_eq_false (by omega)
        have b3 : ((s[k].toNat : Int) == 95) = false := by simp; omega
        have b5 : decide ((97 : Int) ≤ ((lowC s[k]).toNat : Int)) = true := decide_eq_true (by omega)
        have b6 : decide (((lowC s[k]).toNat : Int) ≤ 122) = true := decide_eq_true (by omega)
        clear hx0 hdl
        go_wp2_with (go_at_call 88; refine (lower_any s[k] _).mono ?_; rintro e w' ⟨rfl, rfl⟩)
        go_roundg (9 - (k + 1))
        case measure => have := hg.out; omega
        case rel =>
          have := A3.out
          exact ⟨rfl, rfl, k + 1, 16 * n + hexD s[k], by go_num, by congr 1; omega, by omega, by omega, hpw.out, rfl, HD'.out⟩
      · have A3 := Lib.hid a3; clear a3
        have b1 : decide ((48 : Int) ≤ (s[k].toNat : Int)) = true := decide_eq_true (by omega)
        have b2 : decide ((s[k].toNat : Int) ≤ 57) = false := decide_eq_false (by omega)
        have b3 : ((s[k].toNat : Int) == 95) = false := by simp; omega
        have b5 : decide ((97 : Int) ≤ ((lowC s[k]).toNat : Int)) = true := decide_eq_true (by omega)
        have b6 : decide (((lowC s[k]).toNat : Int) ≤ 122) = true := decide_eq_true (by omega)
        clear hx0 hdl
        go_wp2_with (go_at_call 88; refine (lower_any s[k] _).mono ?_; rintro e w' ⟨rfl, rfl⟩)
        go_roundg (9 - (k + 1))
        case measure => have := hg.out; omega
        case rel =>
          have := A3.out
          exact ⟨rfl, rfl, k + 1, 16 * n + hexD s[k], by go_num, by congr 1; omega, by omega, by omega, hpw.out, rfl, HD'.out⟩
    · have hkm : k = s.size := by omega
      have hn : n = V := by
        have := hd.out
        rw [hkm, Nat.sub_self, dgs] at this
        injection this
      have HN := Lib.hid hn
      clear hd hn1 hn hkm
      go_wp2
      go_ret2
      exact ⟨ret_u64n HN.out, hb1⟩
set_option maxHeartbeats 1000000 in
set_option maxRecDepth 100000 in
theorem pu16 (s : ByteArray) (h1 : 1 ≤ s.size) (h8 : s.size ≤ 8) (V : Int) (hV : dgs s.data.toList s.size 0 0 = (V, -1)) (w : World) :
    Calls Tryd.prog 82 #[.string s, .int .i64 16, .int .i64 32] w fun e w' => e = .returned (.tuple #[.int .u64 V, .nilIface]) ∧ Below w.heap.size w w' := by
  have HC := Lib.hid (ipu16 s h1 h8 V hV w); clear hV
  go_enter Tryd.func82, Tryd.ntmps82
  go_wp2_with (go_at_call 84; refine HC.out.mono ?_; rintro e w1 ⟨rfl, hb1⟩)
  go_ret2
  exact ⟨rfl, hb1⟩

end Go.Proofs.YtflfedfghnnaeaaDoor
