/- The walk over the law's word (a percent sign for each byte), and rows of a path; no statement of the seat is proved here. -/
import Derived.Test.YtjnedbkbhoiopaaDoorPtU
import Derived.Test.YtjnedbkbhoiopaaDoorPtT
namespace Go.Proofs.YtjnedbkbhoiopaaDoor
open Go.RowKit

set_option maxRecDepth 100000 in
theorem hex_slU (v : Nat) (h : v < 16) : ∀ W : World, (Instr.slice 9 (.string ⟨#[48, 49, 50, 51, 52, 53, 54, 55, 56, 57, 65, 66, 67, 68, 69, 70]⟩) (some (.int .u8 (v : Int))) (some (.int .u8 ((v : Int) + 1))) none).run Tryd.prog W = .ok (.string (oneB (hexU v))) W := by
  have hv : v = 0 ∨ v = 1 ∨ v = 2 ∨ v = 3 ∨ v = 4 ∨ v = 5 ∨ v = 6 ∨ v = 7 ∨ v = 8 ∨ v = 9 ∨ v = 10 ∨ v = 11 ∨ v = 12 ∨ v = 13 ∨ v = 14 ∨ v = 15 := by omega
  rcases hv with rfl | rfl | rfl | rfl | rfl | rfl | rfl | rfl | rfl | rfl | rfl | rfl | rfl | rfl | rfl | rfl
  all_goals exact fun W => by kernel_rfl
theorem app_listU (a b : ByteArray) : (a ++ b).data.toList = a.data.toList ++ b.data.toList := by simp [ByteArray.data_append]
theorem app_sizeU (a b : ByteArray) : (a ++ b).size = a.size + b.size := by simp
theorem ret_strU {a b : ByteArray} (h : a = b) : Ending.returned (.string a) = .returned (.string b) := by rw [h]
theorem str_ofU {a : ByteArray} {l : List UInt8} (h : a.data.toList = l) : a = ⟨l.toArray⟩ := by subst h; rfl
theorem encW_snoc (s : ByteArray) (k : Nat) (h : k < s.size) : encW (s.data.toList.take (k + 1)) = encW (s.data.toList.take k) ++ encC s[k] := by
  have hl : k < s.data.toList.length := h
  rw [List.take_succ_eq_append_getElem hl]; simp [encW]; rfl

set_option maxRecDepth 100000 in
set_option maxHeartbeats 4000000 in
theorem lword_is (s : ByteArray) (hs : s.size ≤ 1000000) (w : World) :
    Calls Tryd.prog 21 #[.string s] w fun e w' => e = .returned (.string ⟨(encW s.data.toList).toArray⟩) ∧ Below w.heap.size w w' := by
  go_enter Tryd.func21, Tryd.ntmps21
  go_wp2
  go_loopg [4, 5] s.size (fun g s4 s5 wr => ∃ (k : Nat) (o : ByteArray), s5 = .int .i64 (k : Int) ∧ s4 = .string o ∧ k ≤ s.size ∧ o.size = 3 * k ∧ Hid (g = s.size - k) ∧ Hid (o.data.toList = encW (s.data.toList.take k)) ∧ Hid (Below w.heap.size w wr))
  case atStart => exact ⟨0, ⟨#[]⟩, rfl, rfl, by omega, rfl, by show _ = _; omega, rfl, Below.refl _ _⟩
  case round =>
    obtain ⟨k, o, rfl, rfl, hk, hsz, hg, ho, hbw⟩ := hrel
    by_cases hlt : k < s.size
    · have hx := s[k].toNat_lt
      have hix1 := fun W => hex_slU (s[k].toNat / 16) (by omega) W
      have hix2 := fun W => hex_slU (s[k].toNat % 16) (by omega) W
      rw [Int.natCast_ediv] at hix1
      rw [Int.natCast_emod] at hix2
      simp only [Int.cast_ofNat_Int] at hix1 hix2
      have k1 : IntKind.u8.wrap ((s[k].toNat : Int) / 16 + 1) = (s[k].toNat : Int) / 16 + 1 := by rw [IntKind.wrap_u8]; omega
      have k2 : IntKind.u8.wrap ((s[k].toNat : Int) % 16 + 1) = (s[k].toNat : Int) % 16 + 1 := by rw [IntKind.wrap_u8]; omega
      have q0 : ∀ c, (oneB c).size = 1 := fun _ => rfl
      have q1 : ¬ 9223372036854775807 < o.size + 1 := by omega
      have q2 : ¬ 9223372036854775807 < o.size + 1 + 1 := by omega
      have q3 : ¬ 9223372036854775807 < o.size + 1 + 1 + 1 := by omega
      go_wp2
      go_region
      all_goals (
        clear hix1 hix2 k1 k2 q0
        go_wp2
        go_roundg (s.size - (k + 1))
        case measure => have := hg.out; omega
        case rel =>
          refine ⟨k + 1, _, by go_num, rfl, by omega, ?_, rfl, ?_, ?_⟩
          · rw [app_sizeU, app_sizeU, app_sizeU]; show _ + 1 + 1 + 1 = _; omega
          · show _ = _
            rw [app_listU, app_listU, app_listU, ho.out, encW_snoc s k hlt, List.append_assoc, List.append_assoc]; rfl
          · repeat (first | exact hbw | refine Below.drew ?_))
    · obtain rfl : s.size = k := by omega
      have hf : Hid (o = ⟨(encW s.data.toList).toArray⟩) := str_ofU (by have := ho.out; rwa [List.take_of_length_le (Nat.le_of_eq (bal s))] at this)
      go_wp2
      go_ret
      exact ⟨ret_strU hf.out, hbw.out⟩

end Go.Proofs.YtjnedbkbhoiopaaDoor
