/- Walks over the reference of chapter 03: digit, short, units; no statement of the seat is proved here. -/
import Derived.Test.YtpchipmpgoflfaaDoorQuD
namespace Go.Proofs.YtpchipmpgoflfaaDoor
open Go.RowKit

set_option maxHeartbeats 1000000 in
theorem rdigit_any (c : UInt8) (w : World) : Calls Tryd.prog 32 #[.int .u8 ((c.toNat : Nat) : Int)] w fun e w' => e = .returned (.int .i64 (hexD c)) ∧ w = w' := by
  by_cases h1 : 48 ≤ c.toNat ∧ c.toNat ≤ 57
  · have hd : hexD c = (c.toNat : Int) - 48 := by unfold hexD; rw [if_pos h1]
    obtain ⟨a1, a2⟩ := h1
    rw [hd]; clear hd
    go_enter Tryd.func32, Tryd.ntmps32
    go_wp2
    go_ret
    exact ⟨rfl, rfl⟩
  · by_cases h2 : 97 ≤ c.toNat ∧ c.toNat ≤ 102
    · have hd : hexD c = (c.toNat : Int) - 97 + 10 := by unfold hexD; rw [if_neg h1, if_pos h2]; omega
      obtain ⟨a1, a2⟩ := h2
      clear h1
      rw [hd]; clear hd
      go_enter Tryd.func32, Tryd.ntmps32
      go_wp2
      go_ret
      exact ⟨rfl, rfl⟩
    · by_cases h3 : 65 ≤ c.toNat ∧ c.toNat ≤ 70
      · have hd : hexD c = (c.toNat : Int) - 65 + 10 := by unfold hexD; rw [if_neg h1, if_neg h2, if_pos h3]; omega
        obtain ⟨a1, a2⟩ := h3
        clear h1 h2
        rw [hd]; clear hd
        go_enter Tryd.func32, Tryd.ntmps32
        go_wp2
        go_ret
        exact ⟨rfl, rfl⟩
      · have hd : hexD c = -1 := by unfold hexD; rw [if_neg h1, if_neg h2, if_neg h3]
        rw [hd]; clear hd
        have hc : c.toNat < 48 ∨ (57 < c.toNat ∧ c.toNat < 65) ∨ (70 < c.toNat ∧ c.toNat < 97) ∨ 102 < c.toNat := by omega
        clear h1 h2 h3
        rcases hc with a1 | ⟨a1, a2⟩ | ⟨a1, a2⟩ | a1
        all_goals
          go_enter Tryd.func32, Tryd.ntmps32
          go_wp2
          go_ret
          exact ⟨rfl, rfl⟩

/-- A row of the table, as the reference has it. -/
theorem rsh_all (k : Nat) (h : k < 8) : ∃ x y : UInt8, Hid (∃ h : k < shortT.length, shortT[k] = (x.toNat, y.toNat)) ∧ (∀ w, (Instr.index 9 (.string ⟨#[34, 92, 47, 98, 102, 110, 114, 116]⟩) (.int .i64 (k : Int))).run Tryd.prog w = .ok (.int .u8 ((x.toNat : Nat) : Int)) w) ∧
    ∀ w, (Instr.index 9 (.string ⟨#[34, 92, 47, 8, 12, 10, 13, 9]⟩) (.int .i64 (k : Int))).run Tryd.prog w = .ok (.int .u8 ((y.toNat : Nat) : Int)) w := by
  have hk : k = 0 ∨ k = 1 ∨ k = 2 ∨ k = 3 ∨ k = 4 ∨ k = 5 ∨ k = 6 ∨ k = 7 := by omega
  rcases hk with rfl | rfl | rfl | rfl | rfl | rfl | rfl | rfl
  · exact ⟨34, 34, ⟨by decide, rfl⟩, fun _ => by kernel_rfl, fun _ => by kernel_rfl⟩
  · exact ⟨92, 92, ⟨by decide, rfl⟩, fun _ => by kernel_rfl, fun _ => by kernel_rfl⟩
  · exact ⟨47, 47, ⟨by decide, rfl⟩, fun _ => by kernel_rfl, fun _ => by kernel_rfl⟩
  · exact ⟨98, 8, ⟨by decide, rfl⟩, fun _ => by kernel_rfl, fun _ => by kernel_rfl⟩
  · exact ⟨102, 12, ⟨by decide, rfl⟩, fun _ => by kernel_rfl, fun _ => by kernel_rfl⟩
  · exact ⟨110, 10, ⟨by decide, rfl⟩, fun _ => by kernel_rfl, fun _ => by kernel_rfl⟩
  · exact ⟨114, 13, ⟨by decide, rfl⟩, fun _ => by kernel_rfl, fun _ => by kernel_rfl⟩
  · exact ⟨116, 9, ⟨by decide, rfl⟩, fun _ => by kernel_rfl, fun _ => by kernel_rfl⟩

def shortI (c : Nat) (k : Nat) : Int := match shortFrom c k with | some b => (b : Int) | none => -1
set_option maxHeartbeats 1000000 in
theorem rshort_any (c : UInt8) (w : World) : Calls Tryd.prog 31 #[.int .u8 ((c.toNat : Nat) : Int)] w fun e w' => e = .returned (.int .i64 (shortI c.toNat 0)) ∧ w = w' := by
  go_enter Tryd.func31, Tryd.ntmps31
  go_wp2
  go_loopg [5] 8 (fun g s5 wr => ∃ k : Nat, s5 = .int .i64 k ∧ k ≤ 8 ∧ Hid (g = 8 - k) ∧ Hid (shortI c.toNat k = shortI c.toNat 0) ∧ wr = w)
  case atStart => exact ⟨0, rfl, by omega, rfl, rfl, rfl⟩
  case round =>
    obtain ⟨k, rfl, hk, hg, hr, rfl⟩ := hrel
    by_cases hlt : k < 8
    · obtain ⟨x, y, hxy, hix, hiy⟩ := rsh_all k hlt
      by_cases heq : x.toNat = c.toNat
      · have hb : ((x.toNat : Int) == (c.toNat : Int)) = true := by simp; omega
        have hres : Hid ((y.toNat : Int) = shortI c.toNat 0) := by
          obtain ⟨h8, e8⟩ := hxy.out
          show _ = _
          rw [← hr.out, shortI, shortFrom_yes (c := c.toNat) h8 (by rw [e8]; exact heq), e8]
        have hy := y.toNat_lt
        clear heq
        go_wp2
        go_ret
        exact ⟨ret_int hres.out, rfl⟩
      · have hb : ((x.toNat : Int) == (c.toNat : Int)) = false := by simp; omega
        have hr' : Hid (shortI c.toNat (k + 1) = shortI c.toNat 0) := by
          obtain ⟨h8, e8⟩ := hxy.out
          show _ = _
          rw [← hr.out]
          unfold shortI
          rw [← shortFrom_no (c := c.toNat) h8 (by rw [e8]; exact heq)]
        clear heq
        go_wp2
        go_roundg (8 - (k + 1))
        case measure => have := hg.out; omega
        case rel => exact ⟨k + 1, by go_num, by omega, rfl, hr', rfl⟩
    · go_wp2
      go_ret
      obtain rfl : k = 8 := by omega
      exact ⟨ret_int (by rw [← hr.out, shortI, shortFrom_end]), rfl⟩

end Go.Proofs.YtpchipmpgoflfaaDoor
