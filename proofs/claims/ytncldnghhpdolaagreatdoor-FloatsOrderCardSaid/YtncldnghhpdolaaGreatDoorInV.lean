/- internal/strconv.ParseInt, 64 bits; no statement of the seat is proved here. -/
import Derived.Test.YtncldnghhpdolaaGreatDoorInU
namespace Go.Proofs.YtncldnghhpdolaaGreatDoor
open Go.RowKit

inductive PI
  | ok (z : Int)
  | syn
  | rng (z : Int)
def piE : PI → Ending
  | .ok z => .returned (.tuple #[.int .i64 z, .nilIface])
  | .syn => .returned (.tuple #[.int .i64 0, .iface 116 (.int .i64 2)])
  | .rng z => .returned (.tuple #[.int .i64 z, .iface 116 (.int .i64 1)])
def piP : PR → PI
  | .ok n => if 9223372036854775808 ≤ n then .rng 9223372036854775807 else .ok (n : Int)
  | .syn => .syn
  | .rng => .rng 9223372036854775807
def piN : PR → PI
  | .ok n => if 9223372036854775808 < n then .rng (-9223372036854775808) else .ok (-(n : Int))
  | .syn => .syn
  | .rng => .rng (-9223372036854775808)
set_option maxRecDepth 1000000 in
theorem if_ne21 (w : World) : (binOp .neq 59 (.iface 116 (.int .i64 2)) (.iface 116 (.int .i64 1))).run Tryz.prog w = .ok (.bool true) w := by kernel_rfl
set_option maxRecDepth 1000000 in
theorem if_ne11 (w : World) : (binOp .neq 59 (.iface 116 (.int .i64 1)) (.iface 116 (.int .i64 1))).run Tryz.prog w = .ok (.bool false) w := by kernel_rfl
theorem ret_ok {a b : Int} (h : a = b) : Ending.returned (.tuple #[.int .i64 a, .nilIface]) = piE (.ok b) := by rw [h]; rfl
theorem ret_rng {a b : Int} (h : a = b) : Ending.returned (.tuple #[.int .i64 a, .iface 116 (.int .i64 1)]) = piE (.rng b) := by rw [h]; rfl
theorem puL_lt {q : Nat} : ∀ (l : List UInt8) (n m : Nat), n < 18446744073709551616 → puL q l n = .ok m → m < 18446744073709551616 := by
  intro l
  induction l with
  | nil => intro n m hn h; rw [puL] at h; injection h with h; omega
  | cons c l ih =>
    intro n m hn h
    rw [puL] at h
    split at h
    · cases h
    · split at h
      · cases h
      · exact ih _ _ (by omega) h


set_option maxRecDepth 100000 in
set_option maxHeartbeats 2000000 in
theorem ipi_none (q : Int) (s : ByteArray) (h1 : 0 < s.size) (h8 : s.size ≤ 100000) (hp : s[0].toNat ≠ 43) (hm : s[0].toNat ≠ 45) (R : PR) (hR : ∀ m, R = .ok m → m < 18446744073709551616)
    (hu : ∀ w, Calls Tryz.prog 104 #[.string s, .int .i64 q, .int .i64 64] w fun e w' => e = puE R ∧ Below w.heap.size w w') (w : World) :
    Calls Tryz.prog 74 #[.string s, .int .i64 q, .int .i64 64] w fun e w' => e = piE (piP R) ∧ Below w.heap.size w w' := by
  have hne : s.toList.isEmpty = false := by
    rw [ByteArray.toList_eq]
    rcases s with ⟨⟨l⟩⟩
    cases l
    · simp [ByteArray.size] at h1
    · rfl
  have b1 : ((s[0].toNat : Int) == 43) = false := by simp; omega
  have b2 : ((s[0].toNat : Int) == 45) = false := by simp; omega
  have hx := s[0].toNat_lt
  cases R with
  | syn =>
    have HU := Lib.hid hu; clear hu
    go_enter Tryz.func74, Tryz.ntmps74
    go_wp2_with (go_at_call 104; refine (HU.out _).mono ?_; rintro e w2 ⟨rfl, hb2⟩; dsimp only [puE])
    rw [if_ne21]
    go_wp2
    go_ret2
    exact ⟨rfl, hb2⟩
  | rng =>
    have HU := Lib.hid hu; clear hu
    go_enter Tryz.func74, Tryz.ntmps74
    go_wp2_with (go_at_call 104; refine (HU.out _).mono ?_; rintro e w2 ⟨rfl, hb2⟩; dsimp only [puE])
    rw [if_ne11]
    go_wp2
    go_ret2
    exact ⟨ret_rng (by first | rfl | go_num | (simp only [wrap64]; omega)), hb2⟩
  | ok n =>
    have hn := hR n rfl
    have HU := Lib.hid hu; clear hu
    by_cases hc : 9223372036854775808 ≤ n
    · have bc : decide ((9223372036854775808 : Int) ≤ (n : Int)) = true := decide_eq_true (by omega)
      go_enter Tryz.func74, Tryz.ntmps74
      go_wp2_with (go_at_call 104; refine (HU.out _).mono ?_; rintro e w2 ⟨rfl, hb2⟩; dsimp only [puE])
      go_ret2
      exact ⟨by rw [piP, if_pos hc]; exact ret_rng (by first | decide | rfl | go_num | (simp only [wrap64]; omega)), hb2⟩
    · have bc : decide ((9223372036854775808 : Int) ≤ (n : Int)) = false := decide_eq_false (by omega)
      go_enter Tryz.func74, Tryz.ntmps74
      go_wp2_with (go_at_call 104; refine (HU.out _).mono ?_; rintro e w2 ⟨rfl, hb2⟩; dsimp only [puE])
      go_ret2
      exact ⟨by rw [piP, if_neg hc]; exact ret_ok (by first | decide | rfl | go_num | (simp only [wrap64]; omega)), hb2⟩

set_option maxRecDepth 100000 in
set_option maxHeartbeats 2000000 in
theorem ipi_plus (q : Int) (s : ByteArray) (h1 : 0 < s.size) (h8 : s.size ≤ 100000) (hp : s[0].toNat = 43) (R : PR) (hR : ∀ m, R = .ok m → m < 18446744073709551616)
    (hu : ∀ w, Calls Tryz.prog 104 #[.string (s.extract 1 s.size), .int .i64 q, .int .i64 64] w fun e w' => e = puE R ∧ Below w.heap.size w w') (w : World) :
    Calls Tryz.prog 74 #[.string s, .int .i64 q, .int .i64 64] w fun e w' => e = piE (piP R) ∧ Below w.heap.size w w' := by
  have hne : s.toList.isEmpty = false := by
    rw [ByteArray.toList_eq]
    rcases s with ⟨⟨l⟩⟩
    cases l
    · simp [ByteArray.size] at h1
    · rfl
  have b1 : ((s[0].toNat : Int) == 43) = true := by simp; omega
  have b2 : ((s[0].toNat : Int) == 45) = false := by simp; omega
  have hx := s[0].toNat_lt
  cases R with
  | syn =>
    have HU := Lib.hid hu; clear hu
    go_enter Tryz.func74, Tryz.ntmps74
    go_wp2_with (go_at_call 104; refine (HU.out _).mono ?_; rintro e w2 ⟨rfl, hb2⟩; dsimp only [puE])
    rw [if_ne21]
    go_wp2
    go_ret2
    exact ⟨rfl, hb2⟩
  | rng =>
    have HU := Lib.hid hu; clear hu
    go_enter Tryz.func74, Tryz.ntmps74
    go_wp2_with (go_at_call 104; refine (HU.out _).mono ?_; rintro e w2 ⟨rfl, hb2⟩; dsimp only [puE])
    rw [if_ne11]
    go_wp2
    go_ret2
    exact ⟨ret_rng (by first | rfl | go_num | (simp only [wrap64]; omega)), hb2⟩
  | ok n =>
    have hn := hR n rfl
    have HU := Lib.hid hu; clear hu
    by_cases hc : 9223372036854775808 ≤ n
    · have bc : decide ((9223372036854775808 : Int) ≤ (n : Int)) = true := decide_eq_true (by omega)
      go_enter Tryz.func74, Tryz.ntmps74
      go_wp2_with (go_at_call 104; refine (HU.out _).mono ?_; rintro e w2 ⟨rfl, hb2⟩; dsimp only [puE])
      go_ret2
      exact ⟨by rw [piP, if_pos hc]; exact ret_rng (by first | decide | rfl | go_num | (simp only [wrap64]; omega)), hb2⟩
    · have bc : decide ((9223372036854775808 : Int) ≤ (n : Int)) = false := decide_eq_false (by omega)
      go_enter Tryz.func74, Tryz.ntmps74
      go_wp2_with (go_at_call 104; refine (HU.out _).mono ?_; rintro e w2 ⟨rfl, hb2⟩; dsimp only [puE])
      go_ret2
      exact ⟨by rw [piP, if_neg hc]; exact ret_ok (by first | decide | rfl | go_num | (simp only [wrap64]; omega)), hb2⟩

set_option maxRecDepth 100000 in
set_option maxHeartbeats 2000000 in
theorem ipi_minus (q : Int) (s : ByteArray) (h1 : 0 < s.size) (h8 : s.size ≤ 100000) (hm : s[0].toNat = 45) (R : PR) (hR : ∀ m, R = .ok m → m < 18446744073709551616)
    (hu : ∀ w, Calls Tryz.prog 104 #[.string (s.extract 1 s.size), .int .i64 q, .int .i64 64] w fun e w' => e = puE R ∧ Below w.heap.size w w') (w : World) :
    Calls Tryz.prog 74 #[.string s, .int .i64 q, .int .i64 64] w fun e w' => e = piE (piN R) ∧ Below w.heap.size w w' := by
  have hne : s.toList.isEmpty = false := by
    rw [ByteArray.toList_eq]
    rcases s with ⟨⟨l⟩⟩
    cases l
    · simp [ByteArray.size] at h1
    · rfl
  have b1 : ((s[0].toNat : Int) == 43) = false := by simp; omega
  have b2 : ((s[0].toNat : Int) == 45) = true := by simp; omega
  have hx := s[0].toNat_lt
  cases R with
  | syn =>
    have HU := Lib.hid hu; clear hu
    go_enter Tryz.func74, Tryz.ntmps74
    go_wp2_with (go_at_call 104; refine (HU.out _).mono ?_; rintro e w2 ⟨rfl, hb2⟩; dsimp only [puE])
    rw [if_ne21]
    go_wp2
    go_ret2
    exact ⟨rfl, hb2⟩
  | rng =>
    have HU := Lib.hid hu; clear hu
    go_enter Tryz.func74, Tryz.ntmps74
    go_wp2_with (go_at_call 104; refine (HU.out _).mono ?_; rintro e w2 ⟨rfl, hb2⟩; dsimp only [puE])
    rw [if_ne11]
    go_wp2
    go_ret2
    exact ⟨ret_rng (by first | rfl | go_num | (simp only [wrap64]; omega)), hb2⟩
  | ok n =>
    have hn := hR n rfl
    have HU := Lib.hid hu; clear hu
    by_cases hc : 9223372036854775808 < n
    · have bc : decide ((9223372036854775808 : Int) ≤ (n : Int)) = true := decide_eq_true (by omega)
      go_enter Tryz.func74, Tryz.ntmps74
      go_wp2_with (go_at_call 104; refine (HU.out _).mono ?_; rintro e w2 ⟨rfl, hb2⟩; dsimp only [puE])
      go_ret2
      exact ⟨by rw [piN, if_pos hc]; exact ret_rng (by first | decide | rfl | go_num | (simp only [wrap64]; omega)), hb2⟩
    · have bc : True := trivial
      go_enter Tryz.func74, Tryz.ntmps74
      go_wp2_with (go_at_call 104; refine (HU.out _).mono ?_; rintro e w2 ⟨rfl, hb2⟩; dsimp only [puE])
      go_ret2
      exact ⟨by rw [piN, if_neg hc]; exact ret_ok (by first | decide | rfl | go_num | (simp only [wrap64]; omega)), hb2⟩

end Go.Proofs.YtncldnghhpdolaaGreatDoor
