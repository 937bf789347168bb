/- The walk over the reference's Write; no statement of the seat is proved here. (Printed by wip/tools/genQuV.py.) -/
import Derived.Test.YtpchipmpgoflfaaDoorQuW
import Derived.Test.YtpchipmpgoflfaaDoorQuU
namespace Go.Proofs.YtpchipmpgoflfaaDoor
open Go.RowKit

theorem hex_sl (v : Nat) (h : v < 16) : ∀ W : World, (Instr.slice 9 (.string ⟨#[48, 49, 50, 51, 52, 53, 54, 55, 56, 57, 97, 98, 99, 100, 101, 102]⟩) (some (.int .u8 (v : Int))) (some (.int .u8 ((v : Int) + 1))) none).run Tryd.prog W = .ok (.string (oneB (hexc v))) W := by
  have hv : v = 0 ∨ v = 1 ∨ v = 2 ∨ v = 3 ∨ v = 4 ∨ v = 5 ∨ v = 6 ∨ v = 7 ∨ v = 8 ∨ v = 9 ∨ v = 10 ∨ v = 11 ∨ v = 12 ∨ v = 13 ∨ v = 14 ∨ v = 15 := by omega
  rcases hv with rfl | rfl | rfl | rfl | rfl | rfl | rfl | rfl | rfl | rfl | rfl | rfl | rfl | rfl | rfl | rfl
  all_goals exact fun W => by kernel_rfl
theorem app_list (a b : ByteArray) : (a ++ b).data.toList = a.data.toList ++ b.data.toList := by simp [ByteArray.data_append]
theorem app_size (a b : ByteArray) : (a ++ b).size = a.size + b.size := by simp
theorem ret_str {a b : ByteArray} (h : a = b) : Ending.returned (.string a) = .returned (.string b) := by rw [h]
theorem str_of {a : ByteArray} {l : List UInt8} (h : a.data.toList = l) : a = ⟨l.toArray⟩ := by subst h; rfl
theorem wr_next {s : ByteArray} {k : Nat} (h : k < s.size) {o t : ByteArray} (ho : o.data.toList = 34 :: (s.data.toList.take k).flatMap wrB) (ht : t.data.toList = wrB s[k]) : (o ++ t).data.toList = 34 :: (s.data.toList.take (k + 1)).flatMap wrB := by
  have hl : k < s.data.toList.length := by simpa using h
  rw [app_list, ho, ht, wr_take _ _ hl]; rfl

set_option maxRecDepth 100000 in
set_option maxHeartbeats 2000000 in
theorem rwrite_any (s : ByteArray) (hs : s.size ≤ 16777216) (w : World) :
    Calls Tryd.prog 12 #[.string s] w fun e w' => e = .returned (.string ⟨(writeQ s.data.toList).toArray⟩) ∧ Below w.heap.size w w' := by
  go_enter Tryd.func12, Tryd.ntmps12
  go_wp2
  go_loopg [3, 4, 5] s.size (fun g s3 s4 s5 wr => ∃ k : Nat, ∃ o : ByteArray, s4 = .int .i64 k ∧ s3 = .string o ∧ k ≤ s.size ∧ o.size ≤ 6 * k + 1 ∧ Hid (g = s.size - k) ∧ Hid (o.data.toList = 34 :: (s.data.toList.take k).flatMap wrB) ∧ Below w.heap.size w wr)
  case atStart => exact ⟨0, ⟨#[34]⟩, rfl, rfl, by omega, by decide, rfl, rfl, Below.refl _ _⟩
  case round =>
    obtain ⟨k, o, rfl, rfl, hk, hol, hg, ho, hbw⟩ := hrel
    by_cases hlt : k < s.size
    · have hx255 := s[k].toNat_lt
      by_cases h34 : s[k].toNat = 34
      · have b34 : ((s[k].toNat : Int) == 34) = true := beq_t (by omega)
        have hw : Hid ((⟨#[92, 34]⟩ : ByteArray).data.toList = wrB s[k]) := by
          have e : s[k] = 34 := by rw [← UInt8.toNat_inj]; exact h34
          show _ = _
          rw [e]; simp [wrB, letterB, lettFrom, shortT]
        clear h34
        go_wp2
        go_roundg (s.size - (k + 1))
        case measure => have := hg.out; omega
        case rel => exact ⟨k + 1, o ++ ⟨#[92, 34]⟩, by go_num, rfl, by omega, by rw [app_size]; show _ + 2 ≤ _; omega, rfl, wr_next hlt ho.out hw.out, hbw⟩
      have b34 : ((s[k].toNat : Int) == 34) = false := beq_f (by omega)
      by_cases h92 : s[k].toNat = 92
      · have b92 : ((s[k].toNat : Int) == 92) = true := beq_t (by omega)
        have hw : Hid ((⟨#[92, 92]⟩ : ByteArray).data.toList = wrB s[k]) := by
          have e : s[k] = 92 := by rw [← UInt8.toNat_inj]; exact h92
          show _ = _
          rw [e]; simp [wrB, letterB, lettFrom, shortT]
        clear h92
        go_wp2
        go_roundg (s.size - (k + 1))
        case measure => have := hg.out; omega
        case rel => exact ⟨k + 1, o ++ ⟨#[92, 92]⟩, by go_num, rfl, by omega, by rw [app_size]; show _ + 2 ≤ _; omega, rfl, wr_next hlt ho.out hw.out, hbw⟩
      have b92 : ((s[k].toNat : Int) == 92) = false := beq_f (by omega)
      by_cases h8 : s[k].toNat = 8
      · have b8 : ((s[k].toNat : Int) == 8) = true := beq_t (by omega)
        have hw : Hid ((⟨#[92, 98]⟩ : ByteArray).data.toList = wrB s[k]) := by
          have e : s[k] = 8 := by rw [← UInt8.toNat_inj]; exact h8
          show _ = _
          rw [e]; simp [wrB, letterB, lettFrom, shortT]
        clear h8
        go_wp2
        go_roundg (s.size - (k + 1))
        case measure => have := hg.out; omega
        case rel => exact ⟨k + 1, o ++ ⟨#[92, 98]⟩, by go_num, rfl, by omega, by rw [app_size]; show _ + 2 ≤ _; omega, rfl, wr_next hlt ho.out hw.out, hbw⟩
      have b8 : ((s[k].toNat : Int) == 8) = false := beq_f (by omega)
      by_cases h12 : s[k].toNat = 12
      · have b12 : ((s[k].toNat : Int) == 12) = true := beq_t (by omega)
        have hw : Hid ((⟨#[92, 102]⟩ : ByteArray).data.toList = wrB s[k]) := by
          have e : s[k] = 12 := by rw [← UInt8.toNat_inj]; exact h12
          show _ = _
          rw [e]; simp [wrB, letterB, lettFrom, shortT]
        clear h12
        go_wp2
        go_roundg (s.size - (k + 1))
        case measure => have := hg.out; omega
        case rel => exact ⟨k + 1, o ++ ⟨#[92, 102]⟩, by go_num, rfl, by omega, by rw [app_size]; show _ + 2 ≤ _; omega, rfl, wr_next hlt ho.out hw.out, hbw⟩
      have b12 : ((s[k].toNat : Int) == 12) = false := beq_f (by omega)
      by_cases h10 : s[k].toNat = 10
      · have b10 : ((s[k].toNat : Int) == 10) = true := beq_t (by omega)
        have hw : Hid ((⟨#[92, 110]⟩ : ByteArray).data.toList = wrB s[k]) := by
          have e : s[k] = 10 := by rw [← UInt8.toNat_inj]; exact h10
          show _ = _
          rw [e]; simp [wrB, letterB, lettFrom, shortT]
        clear h10
        go_wp2
        go_roundg (s.size - (k + 1))
        case measure => have := hg.out; omega
        case rel => exact ⟨k + 1, o ++ ⟨#[92, 110]⟩, by go_num, rfl, by omega, by rw [app_size]; show _ + 2 ≤ _; omega, rfl, wr_next hlt ho.out hw.out, hbw⟩
      have b10 : ((s[k].toNat : Int) == 10) = false := beq_f (by omega)
      by_cases h13 : s[k].toNat = 13
      · have b13 : ((s[k].toNat : Int) == 13) = true := beq_t (by omega)
        have hw : Hid ((⟨#[92, 114]⟩ : ByteArray).data.toList = wrB s[k]) := by
          have e : s[k] = 13 := by rw [← UInt8.toNat_inj]; exact h13
          show _ = _
          rw [e]; simp [wrB, letterB, lettFrom, shortT]
        clear h13
        go_wp2
        go_roundg (s.size - (k + 1))
        case measure => have := hg.out; omega
        case rel => exact ⟨k + 1, o ++ ⟨#[92, 114]⟩, by go_num, rfl, by omega, by rw [app_size]; show _ + 2 ≤ _; omega, rfl, wr_next hlt ho.out hw.out, hbw⟩
      have b13 : ((s[k].toNat : Int) == 13) = false := beq_f (by omega)
      by_cases h9 : s[k].toNat = 9
      · have b9 : ((s[k].toNat : Int) == 9) = true := beq_t (by omega)
        have hw : Hid ((⟨#[92, 116]⟩ : ByteArray).data.toList = wrB s[k]) := by
          have e : s[k] = 9 := by rw [← UInt8.toNat_inj]; exact h9
          show _ = _
          rw [e]; simp [wrB, letterB, lettFrom, shortT]
        clear h9
        go_wp2
        go_roundg (s.size - (k + 1))
        case measure => have := hg.out; omega
        case rel => exact ⟨k + 1, o ++ ⟨#[92, 116]⟩, by go_num, rfl, by omega, by rw [app_size]; show _ + 2 ≤ _; omega, rfl, wr_next hlt ho.out hw.out, hbw⟩
      have b9 : ((s[k].toNat : Int) == 9) = false := beq_f (by omega)
      have hl0 : Hid (letterB s[k] = 0) := by
        have h := u8_all (p := fun c => c.toNat = 34 ∨ c.toNat = 92 ∨ c.toNat = 8 ∨ c.toNat = 12 ∨ c.toNat = 10 ∨ c.toNat = 13 ∨ c.toNat = 9 ∨ letterB c = 0) (by decide +kernel) s[k]
        show _ = _
        simpa [h34, h92, h8, h12, h10, h13, h9] using h
      clear h34 h92 h8 h12 h10 h13 h9
      by_cases hctl : s[k].toNat < 32
      · have hw : Hid (((⟨#[92, 117, 48, 48]⟩ : ByteArray) ++ oneB (hexc (s[k].toNat / 16)) ++ oneB (hexc (s[k].toNat % 16))).data.toList = wrB s[k]) := by
          show _ = _
          rw [app_list, app_list, wrB, if_neg (by rw [hl0.out]; simp), if_pos hctl]; rfl
        have hix1 := fun W => hex_sl (s[k].toNat / 16) (by omega) W
        have hix2 := fun W => hex_sl (s[k].toNat % 16) (by omega) W
        rw [Int.natCast_ediv] at hix1
        rw [Int.natCast_emod] at hix2
        simp only [Int.cast_ofNat_Int] at hix1 hix2
        have k1 : IntKind.u8.wrap ((s[k].toNat : Int) / 16 + 1) = (s[k].toNat : Int) / 16 + 1 := by rw [IntKind.wrap_u8]; omega
        have k2 : IntKind.u8.wrap ((s[k].toNat : Int) % 16 + 1) = (s[k].toNat : Int) % 16 + 1 := by rw [IntKind.wrap_u8]; omega
        have q0 : ∀ c, (oneB c).size = 1 := fun _ => rfl
        have q1 : ¬ 9223372036854775807 < o.size + 4 := by omega
        have q2 : ¬ 9223372036854775807 < o.size + 4 + 1 := by omega
        have q3 : ¬ 9223372036854775807 < o.size + 4 + 1 + 1 := by omega
        go_wp2
        go_region
        all_goals (
          clear hix1 hix2 k1 k2 q0
          go_wp2
          go_roundg (s.size - (k + 1))
          case measure => have := hg.out; omega
          case rel =>
            refine ⟨k + 1, o ++ (⟨#[92, 117, 48, 48]⟩ ++ oneB (hexc (s[k].toNat / 16)) ++ oneB (hexc (s[k].toNat % 16))), by go_num, ?_, by omega, by rw [app_size]; show _ + 6 ≤ _; omega, rfl, wr_next hlt ho.out hw.out, ?_⟩
            · rw [ByteArray.append_assoc, ByteArray.append_assoc, ByteArray.append_assoc]
            · repeat (first | exact hbw | refine Below.drew ?_))
      · have hw : Hid ((s.extract k (k + 1)).data.toList = wrB s[k]) := by
          show _ = _
          rw [one_byte s k hlt, wrB, if_neg (by rw [hl0.out]; simp), if_neg hctl]; rfl
        have hsz1 : (s.extract k (k + 1)).size = 1 := by rw [one_byte s k hlt]; rfl
        have HSZ := Lib.hid hsz1; clear hsz1
        go_wp2
        go_roundg (s.size - (k + 1))
        case measure => have := hg.out; omega
        case rel => exact ⟨k + 1, o ++ s.extract k (k + 1), by go_num, rfl, by omega, by rw [app_size, HSZ.out]; omega, rfl, wr_next hlt ho.out hw.out, hbw⟩
    · obtain rfl : k = s.size := by omega
      have hres : Hid ((o ++ ⟨#[34]⟩).data.toList = writeQ s.data.toList) := by
        show _ = _
        have e : s.data.toList.length = s.size := by simp
        rw [app_list, ho.out, ← e, List.take_length]; rfl
      go_wp2
      go_ret
      exact ⟨ret_str (str_of hres.out), hbw⟩

end Go.Proofs.YtpchipmpgoflfaaDoor
