/- internal/strconv.ParseUint, 64 bits, a text of whatever bytes; no statement of the seat is proved here. -/
import Derived.Test.YtncldnghhpdolaaGreatDoorInS
import Derived.LoopN
import Derived.Outline
namespace Go.Proofs.YtncldnghhpdolaaGreatDoor
open Go.RowKit

theorem u8_all {p : UInt8 → Prop} (h : ∀ n : Fin 256, p (UInt8.ofNat n.val)) (c : UInt8) : p c := by
  have := h ⟨c.toNat, c.toNat_lt⟩
  simpa using this
def lowC (c : UInt8) : UInt8 := c ||| 32
theorem low_bits : ∀ c : UInt8, bits .or .u8 (c.toNat : Int) 32 = ((lowC c).toNat : Int) := u8_all (by decide +kernel)
theorem low_le (c : UInt8) : (lowC c).toNat ≤ 255 := by have := (lowC c).toNat_lt; omega
theorem lower_any (c : UInt8) (w : World) : Calls Tryz.prog 125 #[.int .u8 ((c.toNat : Nat) : Int)] w fun e w' => e = .returned (.int .u8 (((lowC c).toNat : Nat) : Int)) ∧ w = w' := by
  have := Tryz.internal_strconv_lower (c.toNat : Int) w
  rw [low_bits] at this
  exact this.mono fun _ _ ⟨a, b⟩ => ⟨a, b.symm⟩
/-- A byte as a digit; 255: none. -/
def digV (c : UInt8) : Nat := if 48 ≤ c.toNat ∧ c.toNat ≤ 57 then c.toNat - 48 else if 97 ≤ (lowC c).toNat ∧ (lowC c).toNat ≤ 122 then (lowC c).toNat - 87 else 255
theorem dig_ways (c : UInt8) : (48 ≤ c.toNat ∧ c.toNat ≤ 57 ∧ digV c = c.toNat - 48) ∨ ((c.toNat < 48 ∨ 57 < c.toNat) ∧ c.toNat ≠ 95 ∧ 97 ≤ (lowC c).toNat ∧ (lowC c).toNat ≤ 122 ∧ digV c = (lowC c).toNat - 87) ∨
    ((c.toNat < 48 ∨ 57 < c.toNat) ∧ ((lowC c).toNat < 97 ∨ 122 < (lowC c).toNat) ∧ digV c = 255) := by
  have h : ∀ c : UInt8, (48 ≤ c.toNat ∧ c.toNat ≤ 57 ∧ digV c = c.toNat - 48) ∨ ((c.toNat < 48 ∨ 57 < c.toNat) ∧ c.toNat ≠ 95 ∧ 97 ≤ (lowC c).toNat ∧ (lowC c).toNat ≤ 122 ∧ digV c = (lowC c).toNat - 87) ∨
    ((c.toNat < 48 ∨ 57 < c.toNat) ∧ ((lowC c).toNat < 97 ∨ 122 < (lowC c).toNat) ∧ digV c = 255) := u8_all (by decide +kernel)
  exact h c
inductive PR
  | ok (n : Nat)
  | syn
  | rng
/-- A text's number in a base, 64 bits. -/
def puL (q : Nat) : List UInt8 → Nat → PR
  | [], n => .ok n
  | c :: l, n => if q ≤ digV c then .syn else if 18446744073709551616 ≤ n * q + digV c then .rng else puL q l (n * q + digV c)
def puE : PR → Ending
  | .ok n => .returned (.tuple #[.int .u64 (n : Int), .nilIface])
  | .syn => .returned (.tuple #[.int .u64 0, .iface 116 (.int .i64 2)])
  | .rng => .returned (.tuple #[.int .u64 18446744073709551615, .iface 116 (.int .i64 1)])
theorem puL_step {q : Nat} {l : List UInt8} {k n : Nat} {R : PR} (h : puL q (l.drop k) n = R) (hk : k < l.length) :
    (q ≤ digV l[k] ∧ R = .syn) ∨ (digV l[k] < q ∧ 18446744073709551616 ≤ n * q + digV l[k] ∧ R = .rng) ∨ (digV l[k] < q ∧ n * q + digV l[k] < 18446744073709551616 ∧ puL q (l.drop (k + 1)) (n * q + digV l[k]) = R) := by
  rw [List.drop_eq_getElem_cons hk, puL] at h
  by_cases h1 : q ≤ digV l[k]
  · rw [if_pos h1] at h; exact .inl ⟨h1, h.symm⟩
  · rw [if_neg h1] at h
    by_cases h2 : 18446744073709551616 ≤ n * q + digV l[k]
    · rw [if_pos h2] at h; exact .inr (.inl ⟨by omega, h2, h.symm⟩)
    · rw [if_neg h2] at h; exact .inr (.inr ⟨by omega, by omega, h⟩)
theorem ret_u64n {a b : Int} (h : a = b) : Ending.returned (.tuple #[.int .u64 a, .nilIface]) = .returned (.tuple #[.int .u64 b, .nilIface]) := by rw [h]
theorem puL_end {q : Nat} {l : List UInt8} {k n : Nat} {R : PR} (h : puL q (l.drop k) n = R) (hk : l.length ≤ k) : R = .ok n := by
  rw [List.drop_of_length_le hk] at h; exact h.symm


set_option maxRecDepth 100000 in
set_option maxHeartbeats 4000000 in
theorem ipu_16 (s : ByteArray) (h1 : 1 ≤ s.size) (h8 : s.size ≤ 100000) (R : PR) (hV : puL 16 s.data.toList 0 = R) (w : World) :
    Calls Tryz.prog 104 #[.string s, .int .i64 16, .int .i64 64] w fun e w' => e = puE R ∧ Below w.heap.size w w' := by
  obtain ⟨cap, w1, hrun, hb1, hs1, hS⟩ := conv_sb (P := Tryz.prog) w 9 101 5 s Tryz.underlying9 Tryz.underlying101 Tryz.underlying5
  have HS := Lib.hid hS; clear hS
  have hne : s.toList.isEmpty = false := by
    rw [ByteArray.toList_eq]
    rcases s with ⟨⟨l⟩⟩
    cases l
    · simp [ByteArray.size] at h1
    · rfl
  have HV := Lib.hid hV; clear hV
  go_enter Tryz.func104, Tryz.ntmps104
  go_wp2_with fail
  clear hrun
  rw [show IntKind.u64.wrap (IntKind.u64.wrap 18446744073709551616 - 1) = 18446744073709551615 from by decide]
  go_loopg [12, 13, 101] (s.size + 1) (fun g s12 s13 s101 wr => s12 = .bool false ∧ wr = w1 ∧ ∃ k n : Nat, s101 = .int .i64 k ∧ s13 = .int .u64 n ∧ k ≤ s.size ∧ n < 18446744073709551616 ∧ Hid (g = s.size + 1 - k) ∧ Hid (puL 16 (s.data.toList.drop k) n = R))
  case atStart => exact ⟨rfl, rfl, 0, 0, rfl, rfl, by omega, by omega, rfl, HV.out⟩
  case round =>
    obtain ⟨rfl, rfl, k, n, rfl, rfl, hk, hn, hg, hd⟩ := hrel
    by_cases hlt : k < s.size
    · have hst := puL_step hd.out hlt
      have he : s.data.toList[k] = s[k] := rfl
      rw [he] at hst
      obtain ⟨_, ea, hab, hc0⟩ := HS.out k (by simpa using hlt)
      cases ea
      have hc1 : wr.cell? ⟨w.heap.size, k, none⟩ = some (.int .u8 (s[k].toNat : Int)) := by rw [add_plain, Nat.zero_add] at hc0; exact hc0
      clear hc0 hab he
      have hl := low_le s[k]
      have hx255 := s[k].toNat_lt
      rcases dig_ways s[k] with ⟨a1, a2, a3⟩ | ⟨a1, a5, a2, a4, a3⟩ | ⟨a1, a2, a3⟩
      · have b1 : decide ((48 : Int) ≤ (s[k].toNat : Int)) = true := decide_eq_true (by omega)
        have b2 : decide ((s[k].toNat : Int) ≤ 57) = true := decide_eq_true (by omega)
        have b3 : ((s[k].toNat : Int) == 95) = false := by simp; omega
        rcases hst with ⟨e1, e2⟩ | ⟨e1, e2, e3⟩ | ⟨e1, e2, e3⟩
        · omega
        · have HR := Lib.hid e3; clear e3
          have b4 : s[k].toNat < 16 + 48 := by omega
          rw [a3] at e2
          clear a3 e1
          by_cases hcut : 1152921504606846976 ≤ n
          · have bc : decide ((1152921504606846976 : Int) ≤ (n : Int)) = true := decide_eq_true (by omega)
            go_wp2
            go_ret2
            exact ⟨by rw [HR.out]; rfl, hb1⟩
          · omega
        · have HD' := Lib.hid e3; have A3 := Lib.hid a3; clear e3
          have b4 : s[k].toNat < 16 + 48 := by omega
          rw [a3] at e2
          clear a3 e1
          have bc : decide ((1152921504606846976 : Int) ≤ (n : Int)) = false := decide_eq_false (by omega)
          go_wp2
          go_roundg (s.size + 1 - (k + 1))
          case measure => have := hg.out; omega
          case rel => exact ⟨rfl, rfl, k + 1, n * 16 + digV s[k], by go_num, by congr 1; have := A3.out; omega, by omega, by have := A3.out; omega, rfl, HD'.out⟩
      · have b3 : ((s[k].toNat : Int) == 95) = false := by simp; omega
        have b5 : decide ((97 : Int) ≤ ((lowC s[k]).toNat : Int)) = true := decide_eq_true (by omega)
        have b6 : decide (((lowC s[k]).toNat : Int) ≤ 122) = true := decide_eq_true (by omega)

        rcases hst with ⟨e1, e2⟩ | ⟨e1, e2, e3⟩ | ⟨e1, e2, e3⟩
        · have HR := Lib.hid e2; clear e2
          have b4 : 16 + 87 ≤ (lowC s[k]).toNat := by omega
          clear a3 e1
          rcases a1 with a1 | a1
          · have b1 : decide ((48 : Int) ≤ (s[k].toNat : Int)) = false := decide_eq_false (by omega)
            go_wp2_with (go_at_call 125; refine (lower_any s[k] _).mono ?_; rintro e w' ⟨rfl, rfl⟩)
            go_ret2
            exact ⟨by rw [HR.out]; rfl, hb1⟩
          · have b2 : decide ((s[k].toNat : Int) ≤ 57) = false := decide_eq_false (by omega)
            have b1 : decide ((48 : Int) ≤ (s[k].toNat : Int)) = true := decide_eq_true (by omega)
            go_wp2_with (go_at_call 125; refine (lower_any s[k] _).mono ?_; rintro e w' ⟨rfl, rfl⟩)
            go_ret2
            exact ⟨by rw [HR.out]; rfl, hb1⟩
        · have HR := Lib.hid e3; clear e3
          have b4 : (lowC s[k]).toNat < 16 + 87 := by omega
          rw [a3] at e2
          clear a3 e1
          rcases a1 with a1 | a1
          · have b1 : decide ((48 : Int) ≤ (s[k].toNat : Int)) = false := decide_eq_false (by omega)
            by_cases hcut : 1152921504606846976 ≤ n
            · have bc : decide ((1152921504606846976 : Int) ≤ (n : Int)) = true := decide_eq_true (by omega)
              go_wp2_with (go_at_call 125; refine (lower_any s[k] _).mono ?_; rintro e w' ⟨rfl, rfl⟩)
              go_ret2
              exact ⟨by rw [HR.out]; rfl, hb1⟩
            · omega
          · have b2 : decide ((s[k].toNat : Int) ≤ 57) = false := decide_eq_false (by omega)
            have b1 : decide ((48 : Int) ≤ (s[k].toNat : Int)) = true := decide_eq_true (by omega)
            by_cases hcut : 1152921504606846976 ≤ n
            · have bc : decide ((1152921504606846976 : Int) ≤ (n : Int)) = true := decide_eq_true (by omega)
              go_wp2_with (go_at_call 125; refine (lower_any s[k] _).mono ?_; rintro e w' ⟨rfl, rfl⟩)
              go_ret2
              exact ⟨by rw [HR.out]; rfl, hb1⟩
            · omega
        · have HD' := Lib.hid e3; have A3 := Lib.hid a3; clear e3
          have b4 : (lowC s[k]).toNat < 16 + 87 := by omega
          rw [a3] at e2
          clear a3 e1
          rcases a1 with a1 | a1
          · have b1 : decide ((48 : Int) ≤ (s[k].toNat : Int)) = false := decide_eq_false (by omega)
            have bc : decide ((1152921504606846976 : Int) ≤ (n : Int)) = false := decide_eq_false (by omega)
            go_wp2_with (go_at_call 125; refine (lower_any s[k] _).mono ?_; rintro e w' ⟨rfl, rfl⟩)
            go_roundg (s.size + 1 - (k + 1))
            case measure => have := hg.out; omega
            case rel => exact ⟨rfl, rfl, k + 1, n * 16 + digV s[k], by go_num, by congr 1; have := A3.out; omega, by omega, by have := A3.out; omega, rfl, HD'.out⟩
          · have b2 : decide ((s[k].toNat : Int) ≤ 57) = false := decide_eq_false (by omega)
            have b1 : decide ((48 : Int) ≤ (s[k].toNat : Int)) = true := decide_eq_true (by omega)
            have bc : decide ((1152921504606846976 : Int) ≤ (n : Int)) = false := decide_eq_false (by omega)
            go_wp2_with (go_at_call 125; refine (lower_any s[k] _).mono ?_; rintro e w' ⟨rfl, rfl⟩)
            go_roundg (s.size + 1 - (k + 1))
            case measure => have := hg.out; omega
            case rel => exact ⟨rfl, rfl, k + 1, n * 16 + digV s[k], by go_num, by congr 1; have := A3.out; omega, by omega, by have := A3.out; omega, rfl, HD'.out⟩
      · have HR : Hid (R = .syn) := by
          rcases hst with ⟨_, e⟩ | ⟨e, _⟩ | ⟨e, _⟩
          · exact e
          · exact absurd e (by omega)
          · exact absurd e (by omega)
        clear hst a3
        by_cases h95 : s[k].toNat = 95
        · have b3 : ((s[k].toNat : Int) == 95) = true := by simp; omega
          have b1 : decide ((48 : Int) ≤ (s[k].toNat : Int)) = true := decide_eq_true (by omega)
          have b2 : decide ((s[k].toNat : Int) ≤ 57) = false := decide_eq_false (by omega)
          have hlw : (lowC s[k]).toNat = 127 := by have : s[k] = 95 := UInt8.toNat_inj.1 h95; rw [this]; rfl
          have b5 : decide ((97 : Int) ≤ ((lowC s[k]).toNat : Int)) = true := decide_eq_true (by omega)
          have b6 : decide (((lowC s[k]).toNat : Int) ≤ 122) = false := decide_eq_false (by omega)
          clear a1 a2 h95 hlw
          go_wp2_with (go_at_call 125; refine (lower_any s[k] _).mono ?_; rintro e w' ⟨rfl, rfl⟩)
          go_ret2
          exact ⟨by rw [HR.out]; rfl, hb1⟩
        · have b3 : ((s[k].toNat : Int) == 95) = false := by simp; omega
          rcases a1 with a1 | a1
          · have b1 : decide ((48 : Int) ≤ (s[k].toNat : Int)) = false := decide_eq_false (by omega)
            rcases a2 with a2 | a2
            · have b5 : decide ((97 : Int) ≤ ((lowC s[k]).toNat : Int)) = false := decide_eq_false (by omega)
              go_wp2_with (go_at_call 125; refine (lower_any s[k] _).mono ?_; rintro e w' ⟨rfl, rfl⟩)
              go_ret2
              exact ⟨by rw [HR.out]; rfl, hb1⟩
            · have b6 : decide (((lowC s[k]).toNat : Int) ≤ 122) = false := decide_eq_false (by omega)
              have b5 : decide ((97 : Int) ≤ ((lowC s[k]).toNat : Int)) = true := decide_eq_true (by omega)
              go_wp2_with (go_at_call 125; refine (lower_any s[k] _).mono ?_; rintro e w' ⟨rfl, rfl⟩)
              go_ret2
              exact ⟨by rw [HR.out]; rfl, hb1⟩
          · have b2 : decide ((s[k].toNat : Int) ≤ 57) = false := decide_eq_false (by omega)
            have b1 : decide ((48 : Int) ≤ (s[k].toNat : Int)) = true := decide_eq_true (by omega)
            rcases a2 with a2 | a2
            · have b5 : decide ((97 : Int) ≤ ((lowC s[k]).toNat : Int)) = false := decide_eq_false (by omega)
              go_wp2_with (go_at_call 125; refine (lower_any s[k] _).mono ?_; rintro e w' ⟨rfl, rfl⟩)
              go_ret2
              exact ⟨by rw [HR.out]; rfl, hb1⟩
            · have b6 : decide (((lowC s[k]).toNat : Int) ≤ 122) = false := decide_eq_false (by omega)
              have b5 : decide ((97 : Int) ≤ ((lowC s[k]).toNat : Int)) = true := decide_eq_true (by omega)
              go_wp2_with (go_at_call 125; refine (lower_any s[k] _).mono ?_; rintro e w' ⟨rfl, rfl⟩)
              go_ret2
              exact ⟨by rw [HR.out]; rfl, hb1⟩
    · have hR := puL_end hd.out (Nat.le_of_not_lt hlt)
      have HR := Lib.hid hR; clear hR hd
      go_wp2
      go_ret2
      exact ⟨by rw [HR.out]; rfl, hb1⟩

set_option maxRecDepth 100000 in
set_option maxHeartbeats 4000000 in
theorem ipu_2 (s : ByteArray) (h1 : 1 ≤ s.size) (h8 : s.size ≤ 100000) (R : PR) (hV : puL 2 s.data.toList 0 = R) (w : World) :
    Calls Tryz.prog 104 #[.string s, .int .i64 2, .int .i64 64] w fun e w' => e = puE R ∧ Below w.heap.size w w' := by
  obtain ⟨cap, w1, hrun, hb1, hs1, hS⟩ := conv_sb (P := Tryz.prog) w 9 101 5 s Tryz.underlying9 Tryz.underlying101 Tryz.underlying5
  have HS := Lib.hid hS; clear hS
  have hne : s.toList.isEmpty = false := by
    rw [ByteArray.toList_eq]
    rcases s with ⟨⟨l⟩⟩
    cases l
    · simp [ByteArray.size] at h1
    · rfl
  have HV := Lib.hid hV; clear hV
  go_enter Tryz.func104, Tryz.ntmps104
  go_wp2_with fail
  clear hrun
  rw [show IntKind.u64.wrap (IntKind.u64.wrap 18446744073709551616 - 1) = 18446744073709551615 from by decide]
  go_loopg [12, 13, 101] (s.size + 1) (fun g s12 s13 s101 wr => s12 = .bool false ∧ wr = w1 ∧ ∃ k n : Nat, s101 = .int .i64 k ∧ s13 = .int .u64 n ∧ k ≤ s.size ∧ n < 18446744073709551616 ∧ Hid (g = s.size + 1 - k) ∧ Hid (puL 2 (s.data.toList.drop k) n = R))
  case atStart => exact ⟨rfl, rfl, 0, 0, rfl, rfl, by omega, by omega, rfl, HV.out⟩
  case round =>
    obtain ⟨rfl, rfl, k, n, rfl, rfl, hk, hn, hg, hd⟩ := hrel
    by_cases hlt : k < s.size
    · have hst := puL_step hd.out hlt
      have he : s.data.toList[k] = s[k] := rfl
      rw [he] at hst
      obtain ⟨_, ea, hab, hc0⟩ := HS.out k (by simpa using hlt)
      cases ea
      have hc1 : wr.cell? ⟨w.heap.size, k, none⟩ = some (.int .u8 (s[k].toNat : Int)) := by rw [add_plain, Nat.zero_add] at hc0; exact hc0
      clear hc0 hab he
      have hl := low_le s[k]
      have hx255 := s[k].toNat_lt
      rcases dig_ways s[k] with ⟨a1, a2, a3⟩ | ⟨a1, a5, a2, a4, a3⟩ | ⟨a1, a2, a3⟩
      · have b1 : decide ((48 : Int) ≤ (s[k].toNat : Int)) = true := decide_eq_true (by omega)
        have b2 : decide ((s[k].toNat : Int) ≤ 57) = true := decide_eq_true (by omega)
        have b3 : ((s[k].toNat : Int) == 95) = false := by simp; omega
        rcases hst with ⟨e1, e2⟩ | ⟨e1, e2, e3⟩ | ⟨e1, e2, e3⟩
        · have HR := Lib.hid e2; clear e2
          have b4 : 2 + 48 ≤ s[k].toNat := by omega
          clear a3 e1
          go_wp2
          go_ret2
          exact ⟨by rw [HR.out]; rfl, hb1⟩
        · have HR := Lib.hid e3; clear e3
          have b4 : s[k].toNat < 2 + 48 := by omega
          rw [a3] at e2
          clear a3 e1
          by_cases hcut : 9223372036854775808 ≤ n
          · have bc : decide ((9223372036854775808 : Int) ≤ (n : Int)) = true := decide_eq_true (by omega)
            go_wp2
            go_ret2
            exact ⟨by rw [HR.out]; rfl, hb1⟩
          · omega
        · have HD' := Lib.hid e3; have A3 := Lib.hid a3; clear e3
          have b4 : s[k].toNat < 2 + 48 := by omega
          rw [a3] at e2
          clear a3 e1
          have bc : decide ((9223372036854775808 : Int) ≤ (n : Int)) = false := decide_eq_false (by omega)
          go_wp2
          go_roundg (s.size + 1 - (k + 1))
          case measure => have := hg.out; omega
          case rel => exact ⟨rfl, rfl, k + 1, n * 2 + digV s[k], by go_num, by congr 1; have := A3.out; omega, by omega, by have := A3.out; omega, rfl, HD'.out⟩
      · have b3 : ((s[k].toNat : Int) == 95) = false := by simp; omega
        have b5 : decide ((97 : Int) ≤ ((lowC s[k]).toNat : Int)) = true := decide_eq_true (by omega)
        have b6 : decide (((lowC s[k]).toNat : Int) ≤ 122) = true := decide_eq_true (by omega)

        have HR : Hid (R = .syn) := by
          rcases hst with ⟨_, e⟩ | ⟨e, _⟩ | ⟨e, _⟩
          · exact e
          · exact absurd e (by omega)
          · exact absurd e (by omega)
        clear hst a3
        rcases a1 with a1 | a1
        · have b1 : decide ((48 : Int) ≤ (s[k].toNat : Int)) = false := decide_eq_false (by omega)
          go_wp2_with (go_at_call 125; refine (lower_any s[k] _).mono ?_; rintro e w' ⟨rfl, rfl⟩)
          go_ret2
          exact ⟨by rw [HR.out]; rfl, hb1⟩
        · have b2 : decide ((s[k].toNat : Int) ≤ 57) = false := decide_eq_false (by omega)
          have b1 : decide ((48 : Int) ≤ (s[k].toNat : Int)) = true := decide_eq_true (by omega)
          go_wp2_with (go_at_call 125; refine (lower_any s[k] _).mono ?_; rintro e w' ⟨rfl, rfl⟩)
          go_ret2
          exact ⟨by rw [HR.out]; rfl, hb1⟩
      · have HR : Hid (R = .syn) := by
          rcases hst with ⟨_, e⟩ | ⟨e, _⟩ | ⟨e, _⟩
          · exact e
          · exact absurd e (by omega)
          · exact absurd e (by omega)
        clear hst a3
        by_cases h95 : s[k].toNat = 95
        · have b3 : ((s[k].toNat : Int) == 95) = true := by simp; omega
          have b1 : decide ((48 : Int) ≤ (s[k].toNat : Int)) = true := decide_eq_true (by omega)
          have b2 : decide ((s[k].toNat : Int) ≤ 57) = false := decide_eq_false (by omega)
          have hlw : (lowC s[k]).toNat = 127 := by have : s[k] = 95 := UInt8.toNat_inj.1 h95; rw [this]; rfl
          have b5 : decide ((97 : Int) ≤ ((lowC s[k]).toNat : Int)) = true := decide_eq_true (by omega)
          have b6 : decide (((lowC s[k]).toNat : Int) ≤ 122) = false := decide_eq_false (by omega)
          clear a1 a2 h95 hlw
          go_wp2_with (go_at_call 125; refine (lower_any s[k] _).mono ?_; rintro e w' ⟨rfl, rfl⟩)
          go_ret2
          exact ⟨by rw [HR.out]; rfl, hb1⟩
        · have b3 : ((s[k].toNat : Int) == 95) = false := by simp; omega
          rcases a1 with a1 | a1
          · have b1 : decide ((48 : Int) ≤ (s[k].toNat : Int)) = false := decide_eq_false (by omega)
            rcases a2 with a2 | a2
            · have b5 : decide ((97 : Int) ≤ ((lowC s[k]).toNat : Int)) = false := decide_eq_false (by omega)
              go_wp2_with (go_at_call 125; refine (lower_any s[k] _).mono ?_; rintro e w' ⟨rfl, rfl⟩)
              go_ret2
              exact ⟨by rw [HR.out]; rfl, hb1⟩
            · have b6 : decide (((lowC s[k]).toNat : Int) ≤ 122) = false := decide_eq_false (by omega)
              have b5 : decide ((97 : Int) ≤ ((lowC s[k]).toNat : Int)) = true := decide_eq_true (by omega)
              go_wp2_with (go_at_call 125; refine (lower_any s[k] _).mono ?_; rintro e w' ⟨rfl, rfl⟩)
              go_ret2
              exact ⟨by rw [HR.out]; rfl, hb1⟩
          · have b2 : decide ((s[k].toNat : Int) ≤ 57) = false := decide_eq_false (by omega)
            have b1 : decide ((48 : Int) ≤ (s[k].toNat : Int)) = true := decide_eq_true (by omega)
            rcases a2 with a2 | a2
            · have b5 : decide ((97 : Int) ≤ ((lowC s[k]).toNat : Int)) = false := decide_eq_false (by omega)
              go_wp2_with (go_at_call 125; refine (lower_any s[k] _).mono ?_; rintro e w' ⟨rfl, rfl⟩)
              go_ret2
              exact ⟨by rw [HR.out]; rfl, hb1⟩
            · have b6 : decide (((lowC s[k]).toNat : Int) ≤ 122) = false := decide_eq_false (by omega)
              have b5 : decide ((97 : Int) ≤ ((lowC s[k]).toNat : Int)) = true := decide_eq_true (by omega)
              go_wp2_with (go_at_call 125; refine (lower_any s[k] _).mono ?_; rintro e w' ⟨rfl, rfl⟩)
              go_ret2
              exact ⟨by rw [HR.out]; rfl, hb1⟩
    · have hR := puL_end hd.out (Nat.le_of_not_lt hlt)
      have HR := Lib.hid hR; clear hR hd
      go_wp2
      go_ret2
      exact ⟨by rw [HR.out]; rfl, hb1⟩

set_option maxRecDepth 100000 in
set_option maxHeartbeats 4000000 in
theorem ipu_8 (s : ByteArray) (h1 : 1 ≤ s.size) (h8 : s.size ≤ 100000) (R : PR) (hV : puL 8 s.data.toList 0 = R) (w : World) :
    Calls Tryz.prog 104 #[.string s, .int .i64 8, .int .i64 64] w fun e w' => e = puE R ∧ Below w.heap.size w w' := by
  obtain ⟨cap, w1, hrun, hb1, hs1, hS⟩ := conv_sb (P := Tryz.prog) w 9 101 5 s Tryz.underlying9 Tryz.underlying101 Tryz.underlying5
  have HS := Lib.hid hS; clear hS
  have hne : s.toList.isEmpty = false := by
    rw [ByteArray.toList_eq]
    rcases s with ⟨⟨l⟩⟩
    cases l
    · simp [ByteArray.size] at h1
    · rfl
  have HV := Lib.hid hV; clear hV
  go_enter Tryz.func104, Tryz.ntmps104
  go_wp2_with fail
  clear hrun
  rw [show IntKind.u64.wrap (IntKind.u64.wrap 18446744073709551616 - 1) = 18446744073709551615 from by decide]
  go_loopg [12, 13, 101] (s.size + 1) (fun g s12 s13 s101 wr => s12 = .bool false ∧ wr = w1 ∧ ∃ k n : Nat, s101 = .int .i64 k ∧ s13 = .int .u64 n ∧ k ≤ s.size ∧ n < 18446744073709551616 ∧ Hid (g = s.size + 1 - k) ∧ Hid (puL 8 (s.data.toList.drop k) n = R))
  case atStart => exact ⟨rfl, rfl, 0, 0, rfl, rfl, by omega, by omega, rfl, HV.out⟩
  case round =>
    obtain ⟨rfl, rfl, k, n, rfl, rfl, hk, hn, hg, hd⟩ := hrel
    by_cases hlt : k < s.size
    · have hst := puL_step hd.out hlt
      have he : s.data.toList[k] = s[k] := rfl
      rw [he] at hst
      obtain ⟨_, ea, hab, hc0⟩ := HS.out k (by simpa using hlt)
      cases ea
      have hc1 : wr.cell? ⟨w.heap.size, k, none⟩ = some (.int .u8 (s[k].toNat : Int)) := by rw [add_plain, Nat.zero_add] at hc0; exact hc0
      clear hc0 hab he
      have hl := low_le s[k]
      have hx255 := s[k].toNat_lt
      rcases dig_ways s[k] with ⟨a1, a2, a3⟩ | ⟨a1, a5, a2, a4, a3⟩ | ⟨a1, a2, a3⟩
      · have b1 : decide ((48 : Int) ≤ (s[k].toNat : Int)) = true := decide_eq_true (by omega)
        have b2 : decide ((s[k].toNat : Int) ≤ 57) = true := decide_eq_true (by omega)
        have b3 : ((s[k].toNat : Int) == 95) = false := by simp; omega
        rcases hst with ⟨e1, e2⟩ | ⟨e1, e2, e3⟩ | ⟨e1, e2, e3⟩
        · have HR := Lib.hid e2; clear e2
          have b4 : 8 + 48 ≤ s[k].toNat := by omega
          clear a3 e1
          go_wp2
          go_ret2
          exact ⟨by rw [HR.out]; rfl, hb1⟩
        · have HR := Lib.hid e3; clear e3
          have b4 : s[k].toNat < 8 + 48 := by omega
          rw [a3] at e2
          clear a3 e1
          by_cases hcut : 2305843009213693952 ≤ n
          · have bc : decide ((2305843009213693952 : Int) ≤ (n : Int)) = true := decide_eq_true (by omega)
            go_wp2
            go_ret2
            exact ⟨by rw [HR.out]; rfl, hb1⟩
          · omega
        · have HD' := Lib.hid e3; have A3 := Lib.hid a3; clear e3
          have b4 : s[k].toNat < 8 + 48 := by omega
          rw [a3] at e2
          clear a3 e1
          have bc : decide ((2305843009213693952 : Int) ≤ (n : Int)) = false := decide_eq_false (by omega)
          go_wp2
          go_roundg (s.size + 1 - (k + 1))
          case measure => have := hg.out; omega
          case rel => exact ⟨rfl, rfl, k + 1, n * 8 + digV s[k], by go_num, by congr 1; have := A3.out; omega, by omega, by have := A3.out; omega, rfl, HD'.out⟩
      · have b3 : ((s[k].toNat : Int) == 95) = false := by simp; omega
        have b5 : decide ((97 : Int) ≤ ((lowC s[k]).toNat : Int)) = true := decide_eq_true (by omega)
        have b6 : decide (((lowC s[k]).toNat : Int) ≤ 122) = true := decide_eq_true (by omega)

        have HR : Hid (R = .syn) := by
          rcases hst with ⟨_, e⟩ | ⟨e, _⟩ | ⟨e, _⟩
          · exact e
          · exact absurd e (by omega)
          · exact absurd e (by omega)
        clear hst a3
        rcases a1 with a1 | a1
        · have b1 : decide ((48 : Int) ≤ (s[k].toNat : Int)) = false := decide_eq_false (by omega)
          go_wp2_with (go_at_call 125; refine (lower_any s[k] _).mono ?_; rintro e w' ⟨rfl, rfl⟩)
          go_ret2
          exact ⟨by rw [HR.out]; rfl, hb1⟩
        · have b2 : decide ((s[k].toNat : Int) ≤ 57) = false := decide_eq_false (by omega)
          have b1 : decide ((48 : Int) ≤ (s[k].toNat : Int)) = true := decide_eq_true (by omega)
          go_wp2_with (go_at_call 125; refine (lower_any s[k] _).mono ?_; rintro e w' ⟨rfl, rfl⟩)
          go_ret2
          exact ⟨by rw [HR.out]; rfl, hb1⟩
      · have HR : Hid (R = .syn) := by
          rcases hst with ⟨_, e⟩ | ⟨e, _⟩ | ⟨e, _⟩
          · exact e
          · exact absurd e (by omega)
          · exact absurd e (by omega)
        clear hst a3
        by_cases h95 : s[k].toNat = 95
        · have b3 : ((s[k].toNat : Int) == 95) = true := by simp; omega
          have b1 : decide ((48 : Int) ≤ (s[k].toNat : Int)) = true := decide_eq_true (by omega)
          have b2 : decide ((s[k].toNat : Int) ≤ 57) = false := decide_eq_false (by omega)
          have hlw : (lowC s[k]).toNat = 127 := by have : s[k] = 95 := UInt8.toNat_inj.1 h95; rw [this]; rfl
          have b5 : decide ((97 : Int) ≤ ((lowC s[k]).toNat : Int)) = true := decide_eq_true (by omega)
          have b6 : decide (((lowC s[k]).toNat : Int) ≤ 122) = false := decide_eq_false (by omega)
          clear a1 a2 h95 hlw
          go_wp2_with (go_at_call 125; refine (lower_any s[k] _).mono ?_; rintro e w' ⟨rfl, rfl⟩)
          go_ret2
          exact ⟨by rw [HR.out]; rfl, hb1⟩
        · have b3 : ((s[k].toNat : Int) == 95) = false := by simp; omega
          rcases a1 with a1 | a1
          · have b1 : decide ((48 : Int) ≤ (s[k].toNat : Int)) = false := decide_eq_false (by omega)
            rcases a2 with a2 | a2
            · have b5 : decide ((97 : Int) ≤ ((lowC s[k]).toNat : Int)) = false := decide_eq_false (by omega)
              go_wp2_with (go_at_call 125; refine (lower_any s[k] _).mono ?_; rintro e w' ⟨rfl, rfl⟩)
              go_ret2
              exact ⟨by rw [HR.out]; rfl, hb1⟩
            · have b6 : decide (((lowC s[k]).toNat : Int) ≤ 122) = false := decide_eq_false (by omega)
              have b5 : decide ((97 : Int) ≤ ((lowC s[k]).toNat : Int)) = true := decide_eq_true (by omega)
              go_wp2_with (go_at_call 125; refine (lower_any s[k] _).mono ?_; rintro e w' ⟨rfl, rfl⟩)
              go_ret2
              exact ⟨by rw [HR.out]; rfl, hb1⟩
          · have b2 : decide ((s[k].toNat : Int) ≤ 57) = false := decide_eq_false (by omega)
            have b1 : decide ((48 : Int) ≤ (s[k].toNat : Int)) = true := decide_eq_true (by omega)
            rcases a2 with a2 | a2
            · have b5 : decide ((97 : Int) ≤ ((lowC s[k]).toNat : Int)) = false := decide_eq_false (by omega)
              go_wp2_with (go_at_call 125; refine (lower_any s[k] _).mono ?_; rintro e w' ⟨rfl, rfl⟩)
              go_ret2
              exact ⟨by rw [HR.out]; rfl, hb1⟩
            · have b6 : decide (((lowC s[k]).toNat : Int) ≤ 122) = false := decide_eq_false (by omega)
              have b5 : decide ((97 : Int) ≤ ((lowC s[k]).toNat : Int)) = true := decide_eq_true (by omega)
              go_wp2_with (go_at_call 125; refine (lower_any s[k] _).mono ?_; rintro e w' ⟨rfl, rfl⟩)
              go_ret2
              exact ⟨by rw [HR.out]; rfl, hb1⟩
    · have hR := puL_end hd.out (Nat.le_of_not_lt hlt)
      have HR := Lib.hid hR; clear hR hd
      go_wp2
      go_ret2
      exact ⟨by rw [HR.out]; rfl, hb1⟩

set_option maxRecDepth 100000 in
set_option maxHeartbeats 4000000 in
theorem ipu_10 (s : ByteArray) (h1 : 1 ≤ s.size) (h8 : s.size ≤ 100000) (R : PR) (hV : puL 10 s.data.toList 0 = R) (w : World) :
    Calls Tryz.prog 104 #[.string s, .int .i64 10, .int .i64 64] w fun e w' => e = puE R ∧ Below w.heap.size w w' := by
  obtain ⟨cap, w1, hrun, hb1, hs1, hS⟩ := conv_sb (P := Tryz.prog) w 9 101 5 s Tryz.underlying9 Tryz.underlying101 Tryz.underlying5
  have HS := Lib.hid hS; clear hS
  have hne : s.toList.isEmpty = false := by
    rw [ByteArray.toList_eq]
    rcases s with ⟨⟨l⟩⟩
    cases l
    · simp [ByteArray.size] at h1
    · rfl
  have HV := Lib.hid hV; clear hV
  go_enter Tryz.func104, Tryz.ntmps104
  go_wp2_with fail
  clear hrun
  rw [show IntKind.u64.wrap (IntKind.u64.wrap 18446744073709551616 - 1) = 18446744073709551615 from by decide]
  go_loopg [12, 13, 101] (s.size + 1) (fun g s12 s13 s101 wr => s12 = .bool false ∧ wr = w1 ∧ ∃ k n : Nat, s101 = .int .i64 k ∧ s13 = .int .u64 n ∧ k ≤ s.size ∧ n < 18446744073709551616 ∧ Hid (g = s.size + 1 - k) ∧ Hid (puL 10 (s.data.toList.drop k) n = R))
  case atStart => exact ⟨rfl, rfl, 0, 0, rfl, rfl, by omega, by omega, rfl, HV.out⟩
  case round =>
    obtain ⟨rfl, rfl, k, n, rfl, rfl, hk, hn, hg, hd⟩ := hrel
    by_cases hlt : k < s.size
    · have hst := puL_step hd.out hlt
      have he : s.data.toList[k] = s[k] := rfl
      rw [he] at hst
      obtain ⟨_, ea, hab, hc0⟩ := HS.out k (by simpa using hlt)
      cases ea
      have hc1 : wr.cell? ⟨w.heap.size, k, none⟩ = some (.int .u8 (s[k].toNat : Int)) := by rw [add_plain, Nat.zero_add] at hc0; exact hc0
      clear hc0 hab he
      have hl := low_le s[k]
      have hx255 := s[k].toNat_lt
      rcases dig_ways s[k] with ⟨a1, a2, a3⟩ | ⟨a1, a5, a2, a4, a3⟩ | ⟨a1, a2, a3⟩
      · have b1 : decide ((48 : Int) ≤ (s[k].toNat : Int)) = true := decide_eq_true (by omega)
        have b2 : decide ((s[k].toNat : Int) ≤ 57) = true := decide_eq_true (by omega)
        have b3 : ((s[k].toNat : Int) == 95) = false := by simp; omega
        rcases hst with ⟨e1, e2⟩ | ⟨e1, e2, e3⟩ | ⟨e1, e2, e3⟩
        · omega
        · have HR := Lib.hid e3; clear e3
          have b4 : s[k].toNat < 10 + 48 := by omega
          rw [a3] at e2
          clear a3 e1
          by_cases hcut : 1844674407370955162 ≤ n
          · have bc : decide ((1844674407370955162 : Int) ≤ (n : Int)) = true := decide_eq_true (by omega)
            go_wp2
            go_ret2
            exact ⟨by rw [HR.out]; rfl, hb1⟩
          · have bc : decide ((1844674407370955162 : Int) ≤ (n : Int)) = false := decide_eq_false (by omega)
            have hwr : IntKind.u64.wrap ((n : Int) * 10 + ((s[k].toNat : Int) - 48)) = (n : Int) * 10 + ((s[k].toNat : Int) - 48) - 18446744073709551616 := by
              show ((n : Int) * 10 + ((s[k].toNat : Int) - 48)) % 18446744073709551616 = _
              omega
            have bd : decide (IntKind.u64.wrap ((n : Int) * 10 + ((s[k].toNat : Int) - 48)) < (n : Int) * 10) = true := decide_eq_true (by rw [hwr]; omega)
            clear hwr
            go_wp2
            go_ret2
            exact ⟨by rw [HR.out]; rfl, hb1⟩
        · have HD' := Lib.hid e3; have A3 := Lib.hid a3; clear e3
          have b4 : s[k].toNat < 10 + 48 := by omega
          rw [a3] at e2
          clear a3 e1
          have bc : decide ((1844674407370955162 : Int) ≤ (n : Int)) = false := decide_eq_false (by omega)
          go_wp2
          go_roundg (s.size + 1 - (k + 1))
          case measure => have := hg.out; omega
          case rel => exact ⟨rfl, rfl, k + 1, n * 10 + digV s[k], by go_num, by congr 1; have := A3.out; omega, by omega, by have := A3.out; omega, rfl, HD'.out⟩
      · have b3 : ((s[k].toNat : Int) == 95) = false := by simp; omega
        have b5 : decide ((97 : Int) ≤ ((lowC s[k]).toNat : Int)) = true := decide_eq_true (by omega)
        have b6 : decide (((lowC s[k]).toNat : Int) ≤ 122) = true := decide_eq_true (by omega)

        have HR : Hid (R = .syn) := by
          rcases hst with ⟨_, e⟩ | ⟨e, _⟩ | ⟨e, _⟩
          · exact e
          · exact absurd e (by omega)
          · exact absurd e (by omega)
        clear hst a3
        rcases a1 with a1 | a1
        · have b1 : decide ((48 : Int) ≤ (s[k].toNat : Int)) = false := decide_eq_false (by omega)
          go_wp2_with (go_at_call 125; refine (lower_any s[k] _).mono ?_; rintro e w' ⟨rfl, rfl⟩)
          go_ret2
          exact ⟨by rw [HR.out]; rfl, hb1⟩
        · have b2 : decide ((s[k].toNat : Int) ≤ 57) = false := decide_eq_false (by omega)
          have b1 : decide ((48 : Int) ≤ (s[k].toNat : Int)) = true := decide_eq_true (by omega)
          go_wp2_with (go_at_call 125; refine (lower_any s[k] _).mono ?_; rintro e w' ⟨rfl, rfl⟩)
          go_ret2
          exact ⟨by rw [HR.out]; rfl, hb1⟩
      · have HR : Hid (R = .syn) := by
          rcases hst with ⟨_, e⟩ | ⟨e, _⟩ | ⟨e, _⟩
          · exact e
          · exact absurd e (by omega)
          · exact absurd e (by omega)
        clear hst a3
        by_cases h95 : s[k].toNat = 95
        · have b3 : ((s[k].toNat : Int) == 95) = true := by simp; omega
          have b1 : decide ((48 : Int) ≤ (s[k].toNat : Int)) = true := decide_eq_true (by omega)
          have b2 : decide ((s[k].toNat : Int) ≤ 57) = false := decide_eq_false (by omega)
          have hlw : (lowC s[k]).toNat = 127 := by have : s[k] = 95 := UInt8.toNat_inj.1 h95; rw [this]; rfl
          have b5 : decide ((97 : Int) ≤ ((lowC s[k]).toNat : Int)) = true := decide_eq_true (by omega)
          have b6 : decide (((lowC s[k]).toNat : Int) ≤ 122) = false := decide_eq_false (by omega)
          clear a1 a2 h95 hlw
          go_wp2_with (go_at_call 125; refine (lower_any s[k] _).mono ?_; rintro e w' ⟨rfl, rfl⟩)
          go_ret2
          exact ⟨by rw [HR.out]; rfl, hb1⟩
        · have b3 : ((s[k].toNat : Int) == 95) = false := by simp; omega
          rcases a1 with a1 | a1
          · have b1 : decide ((48 : Int) ≤ (s[k].toNat : Int)) = false := decide_eq_false (by omega)
            rcases a2 with a2 | a2
            · have b5 : decide ((97 : Int) ≤ ((lowC s[k]).toNat : Int)) = false := decide_eq_false (by omega)
              go_wp2_with (go_at_call 125; refine (lower_any s[k] _).mono ?_; rintro e w' ⟨rfl, rfl⟩)
              go_ret2
              exact ⟨by rw [HR.out]; rfl, hb1⟩
            · have b6 : decide (((lowC s[k]).toNat : Int) ≤ 122) = false := decide_eq_false (by omega)
              have b5 : decide ((97 : Int) ≤ ((lowC s[k]).toNat : Int)) = true := decide_eq_true (by omega)
              go_wp2_with (go_at_call 125; refine (lower_any s[k] _).mono ?_; rintro e w' ⟨rfl, rfl⟩)
              go_ret2
              exact ⟨by rw [HR.out]; rfl, hb1⟩
          · have b2 : decide ((s[k].toNat : Int) ≤ 57) = false := decide_eq_false (by omega)
            have b1 : decide ((48 : Int) ≤ (s[k].toNat : Int)) = true := decide_eq_true (by omega)
            rcases a2 with a2 | a2
            · have b5 : decide ((97 : Int) ≤ ((lowC s[k]).toNat : Int)) = false := decide_eq_false (by omega)
              go_wp2_with (go_at_call 125; refine (lower_any s[k] _).mono ?_; rintro e w' ⟨rfl, rfl⟩)
              go_ret2
              exact ⟨by rw [HR.out]; rfl, hb1⟩
            · have b6 : decide (((lowC s[k]).toNat : Int) ≤ 122) = false := decide_eq_false (by omega)
              have b5 : decide ((97 : Int) ≤ ((lowC s[k]).toNat : Int)) = true := decide_eq_true (by omega)
              go_wp2_with (go_at_call 125; refine (lower_any s[k] _).mono ?_; rintro e w' ⟨rfl, rfl⟩)
              go_ret2
              exact ⟨by rw [HR.out]; rfl, hb1⟩
    · have hR := puL_end hd.out (Nat.le_of_not_lt hlt)
      have HR := Lib.hid hR; clear hR hd
      go_wp2
      go_ret2
      exact ⟨by rw [HR.out]; rfl, hb1⟩

end Go.Proofs.YtncldnghhpdolaaGreatDoor
