/- The small functions of chapter 17's reference: special, digit, is, fault; no statement of the seat is proved here. (Printed by wip/tools/genPtRA.py.) -/
import Derived.Test.YtjnedbkbhoiopaaDoorPtX
namespace Go.Proofs.YtjnedbkbhoiopaaDoor
open Go.RowKit

set_option maxHeartbeats 4000000 in
theorem rspecial_is (c : UInt8) (b : Bool) (hb : spec c = b) (w : World) : Calls Tryd.prog 38 #[.int .u8 (c.toNat : Int)] w fun e w' => e = .returned (.bool b) ∧ w = w' := by
  subst hb
  by_cases h0 : c.toNat ≤ 32
  · have hs : spec c = true := by unfold spec; rw [decide_eq_true h0]; rfl
    rw [hs]
    have h0' : (c.toNat : Int) ≤ 32 := by omega
    clear h0 hs
    go_enter Tryd.func38, Tryd.ntmps38
    go_wp2
    go_ret
    first | exact ⟨rfl, rfl⟩ | exact ⟨ret_boo (by simp_all), rfl⟩
  · have h0' : ¬ (c.toNat : Int) ≤ 32 := by omega
    by_cases h127 : c.toNat = 127
    · obtain rfl : c = 127 := UInt8.toNat_inj.1 h127
      rw [show spec 127 = true from rfl]
      clear h127 h0 h0'
      go_enter Tryd.func38, Tryd.ntmps38
      go_wp2
      go_ret
      exact ⟨rfl, rfl⟩
    · have e127 : ((c.toNat : Int) == 127) = false := by rw [beq_eq_false_iff_ne]; omega
      by_cases h37 : c.toNat = 37
      · obtain rfl : c = 37 := UInt8.toNat_inj.1 h37
        rw [show spec 37 = true from rfl]
        clear h37 h0 h0' e127
        go_enter Tryd.func38, Tryd.ntmps38
        go_wp2
        go_ret
        exact ⟨rfl, rfl⟩
      · have e37 : ((c.toNat : Int) == 37) = false := by rw [beq_eq_false_iff_ne]; omega
        by_cases h47 : c.toNat = 47
        · obtain rfl : c = 47 := UInt8.toNat_inj.1 h47
          rw [show spec 47 = true from rfl]
          clear h47 h0 h0' e127 e37
          go_enter Tryd.func38, Tryd.ntmps38
          go_wp2
          go_ret
          exact ⟨rfl, rfl⟩
        · have e47 : ((c.toNat : Int) == 47) = false := by rw [beq_eq_false_iff_ne]; omega
          by_cases h91 : c.toNat = 91
          · obtain rfl : c = 91 := UInt8.toNat_inj.1 h91
            rw [show spec 91 = true from rfl]
            clear h91 h0 h0' e127 e37 e47
            go_enter Tryd.func38, Tryd.ntmps38
            go_wp2
            go_ret
            exact ⟨rfl, rfl⟩
          · have e91 : ((c.toNat : Int) == 91) = false := by rw [beq_eq_false_iff_ne]; omega
            by_cases h93 : c.toNat = 93
            · obtain rfl : c = 93 := UInt8.toNat_inj.1 h93
              rw [show spec 93 = true from rfl]
              clear h93 h0 h0' e127 e37 e47 e91
              go_enter Tryd.func38, Tryd.ntmps38
              go_wp2
              go_ret
              exact ⟨rfl, rfl⟩
            · have e93 : ((c.toNat : Int) == 93) = false := by rw [beq_eq_false_iff_ne]; omega
              by_cases h61 : c.toNat = 61
              · obtain rfl : c = 61 := UInt8.toNat_inj.1 h61
                rw [show spec 61 = true from rfl]
                clear h61 h0 h0' e127 e37 e47 e91 e93
                go_enter Tryd.func38, Tryd.ntmps38
                go_wp2
                go_ret
                exact ⟨rfl, rfl⟩
              · have e61 : ((c.toNat : Int) == 61) = false := by rw [beq_eq_false_iff_ne]; omega
                by_cases h42 : c.toNat = 42
                · obtain rfl : c = 42 := UInt8.toNat_inj.1 h42
                  rw [show spec 42 = true from rfl]
                  clear h42 h0 h0' e127 e37 e47 e91 e93 e61
                  go_enter Tryd.func38, Tryd.ntmps38
                  go_wp2
                  go_ret
                  exact ⟨rfl, rfl⟩
                · have e42 : ((c.toNat : Int) == 42) = false := by rw [beq_eq_false_iff_ne]; omega
                  have hs : spec c = false := by
                    have n : ∀ k : UInt8, c.toNat ≠ k.toNat → c ≠ k := fun k hk e => hk (by rw [e])
                    unfold spec
                    rw [decide_eq_false h0, decide_eq_false h127]
                    simp [n 37 h37, n 47 h47, n 91 h91, n 93 h93, n 61 h61, n 42 h42]
                  rw [hs]
                  clear hs h0 h127 h37 h47 h91 h93 h61 h42
                  go_enter Tryd.func38, Tryd.ntmps38
                  go_wp2
                  go_ret
                  exact ⟨rfl, rfl⟩

/-- A digit of base 16; below nought: none. -/
def digR (c : UInt8) : Int := if hexd c then (hexv c : Int) else -1
theorem digR_at : ∀ c : UInt8, (if 48 ≤ c.toNat ∧ c.toNat ≤ 57 then decide (digR c = (c.toNat : Int) - 48) else if 97 ≤ c.toNat ∧ c.toNat ≤ 102 then decide (digR c = (c.toNat : Int) - 97 + 10) else if 65 ≤ c.toNat ∧ c.toNat ≤ 70 then decide (digR c = (c.toNat : Int) - 65 + 10) else decide (digR c = -1)) = true := u8_all (by decide +kernel)
theorem digR_lt : ∀ c : UInt8, (decide (digR c < 0) == !hexd c) = true := u8_all (by decide +kernel)
theorem digR_two (a b : UInt8) (ha : hexd a = true) (hb : hexd b = true) : digR a = (hexv a : Int) ∧ digR b = (hexv b : Int) ∧ hexv a < 16 ∧ hexv b < 16 := by
  obtain ⟨_, a2⟩ := (hexv_is a).resolve_left (by rw [ha]; decide)
  obtain ⟨_, b2⟩ := (hexv_is b).resolve_left (by rw [hb]; decide)
  exact ⟨by unfold digR; rw [if_pos ha], by unfold digR; rw [if_pos hb], a2, b2⟩
set_option maxHeartbeats 2000000 in
theorem rdigit_is (c : UInt8) (w : World) : Calls Tryd.prog 54 #[.int .u8 (c.toNat : Int)] w fun e w' => e = .returned (.int .i64 (digR c)) ∧ w = w' := by
  have hd := digR_at c
  by_cases h1 : 48 ≤ c.toNat ∧ c.toNat ≤ 57
  · rw [if_pos h1, decide_eq_true_iff] at hd
    obtain ⟨a1, a2⟩ := h1
    rw [hd]; clear hd
    go_enter Tryd.func54, Tryd.ntmps54
    go_wp2
    go_ret
    exact ⟨rfl, rfl⟩
  · rw [if_neg h1] at hd
    by_cases h2 : 97 ≤ c.toNat ∧ c.toNat ≤ 102
    · rw [if_pos h2, decide_eq_true_iff] at hd
      obtain ⟨a1, a2⟩ := h2
      clear h1
      rw [hd]; clear hd
      go_enter Tryd.func54, Tryd.ntmps54
      go_wp2
      go_ret
      exact ⟨rfl, rfl⟩
    · rw [if_neg h2] at hd
      by_cases h3 : 65 ≤ c.toNat ∧ c.toNat ≤ 70
      · rw [if_pos h3, decide_eq_true_iff] at hd
        obtain ⟨a1, a2⟩ := h3
        clear h1 h2
        rw [hd]; clear hd
        go_enter Tryd.func54, Tryd.ntmps54
        go_wp2
        go_ret
        exact ⟨rfl, rfl⟩
      · rw [if_neg h3, decide_eq_true_iff] at hd
        rw [hd]; clear hd
        go_enter Tryd.func54, Tryd.ntmps54
        go_wp2
        all_goals (
          first
            | (exfalso; omega)
            | (go_ret; exact ⟨rfl, rfl⟩))
theorem ris_is (s : ByteArray) (i : Nat) (c : UInt8) (cz : Int) (hz : cz = (c.toNat : Int)) (b : Bool) (hb : decide (s.data.toList[i]? = some c) = b) (w : World) : Calls Tryd.prog 40 #[.string s, .int .i64 (i : Int), .int .u8 cz] w fun e w' => e = .returned (.bool b) ∧ w = w' := by
  subst hz
  by_cases hi : i < s.size
  · have e1 := byte_eq hi c (c.toNat : Int) rfl
    rw [hb] at e1
    clear hb
    go_enter Tryd.func40, Tryd.ntmps40
    go_wp2
    go_ret
    exact ⟨rfl, rfl⟩
  · have hn : s.data.toList[i]? = none := List.getElem?_eq_none (by show s.size ≤ i; omega)
    rw [hn, decide_eq_false (by simp)] at hb
    subst hb
    clear hn
    go_enter Tryd.func40, Tryd.ntmps40
    go_wp2
    go_ret
    exact ⟨rfl, rfl⟩
theorem rfault_is (k : Int) (w : World) : Calls Tryd.prog 39 #[.int .i64 k] w fun e w' => e = .returned (.tuple #[.slice none 0 0, .agg #[.int .i64 3, .int .i64 k]]) ∧ Below w.heap.size w w' := by
  go_enter Tryd.func39, Tryd.ntmps39
  go_wp2
  exact bodyPost_ret (v := .tuple #[.slice none 0 0, .agg #[.int .i64 3, .int .i64 k]]) (by simp [results, Tryd.results39, go_sem]) rfl ⟨rfl, below_new1 _ _⟩

end Go.Proofs.YtjnedbkbhoiopaaDoor
