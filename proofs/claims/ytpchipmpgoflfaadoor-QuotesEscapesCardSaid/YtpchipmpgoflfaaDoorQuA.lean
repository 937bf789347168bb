/- Plain words for chapter 03 (JSON's strings): digits of base 16, and strconv.ParseUint at one byte; no statement of the seat is proved here. -/
import Derived.Test.YtpchipmpgoflfaaDoorBase
import Derived.Test.YtpchipmpgoflfaaDoorShelf
import Derived.LoopN
import Derived.Outline
namespace Go.Proofs.YtpchipmpgoflfaaDoor
open Go.RowKit

/-- What the walks lean on of the package-level variables: the short escapes' table, and an error value. -/
structure Glob (w : World) : Prop where
  shorts : ∀ i v, (#[34, 34, 92, 92, 47, 47, 98, 8, 102, 12, 110, 10, 114, 13, 116, 9] : Array Int)[i]? = some v → w.cell? ⟨0, i, none⟩ = some (.int .u8 v)
  errSyntax : ∃ t p, w.cell? ⟨1, 0, none⟩ = some (.iface t p)
theorem cell_lt {w : World} {p : Addr} {v : Value} (h : w.cell? p = some v) : p.block < w.heap.size := by
  rcases Nat.lt_or_ge p.block w.heap.size with h' | h'
  · exact h'
  · simp [World.cell?, Array.getElem?_eq_none h'] at h
theorem cell_keep {B : Nat} {w w' : World} {p : Addr} {v : Value} (h : w.cell? p = some v) (hb : Below B w w') (hB : w.heap.size ≤ B) : w'.cell? p = some v :=
  (hb.cell (Nat.lt_of_lt_of_le (cell_lt h) hB)).trans h
theorem Glob.keep {B : Nat} {w w' : World} (h : Glob w) (hb : Below B w w') (hB : w.heap.size ≤ B) : Glob w' :=
  ⟨fun i v hv => cell_keep (h.shorts i v hv) hb hB, by obtain ⟨t, p, hc⟩ := h.errSyntax; exact ⟨t, p, cell_keep hc hb hB⟩⟩

/-- A digit of base 16; below 0: none. -/
def hexD (c : UInt8) : Int := if 48 ≤ c.toNat ∧ c.toNat ≤ 57 then c.toNat - 48 else if 97 ≤ c.toNat ∧ c.toNat ≤ 102 then c.toNat - 87 else if 65 ≤ c.toNat ∧ c.toNat ≤ 70 then c.toNat - 55 else -1
/-- What holds of the 256 bytes one by one. -/
theorem u8_all {p : UInt8 → Prop} (h : ∀ n : Fin 256, p (UInt8.ofNat n.val)) (c : UInt8) : p c := by
  have := h ⟨c.toNat, c.toNat_lt⟩
  simpa using this
def lowC (c : UInt8) : UInt8 := c ||| 32
theorem hexD_lt (c : UInt8) : hexD c < 16 ∧ -1 ≤ hexD c := by unfold hexD; split <;> (try split) <;> (try split) <;> omega
theorem low_bits : ∀ c : UInt8, bits .or .u8 (c.toNat : Int) 32 = ((lowC c).toNat : Int) := u8_all (by decide +kernel)
/-- The ways of a byte through ParseUint's tests. -/
theorem hex_ways : ∀ c : UInt8, (48 ≤ c.toNat ∧ c.toNat ≤ 57 ∧ hexD c = (c.toNat : Int) - 48) ∨
    ((c.toNat < 48 ∨ 57 < c.toNat) ∧ 97 ≤ (lowC c).toNat ∧ (lowC c).toNat ≤ 102 ∧ hexD c = ((lowC c).toNat : Int) - 87) ∨
    ((c.toNat < 48 ∨ 57 < c.toNat) ∧ 103 ≤ (lowC c).toNat ∧ (lowC c).toNat ≤ 122 ∧ hexD c = -1) ∨
    ((c.toNat < 48 ∨ 57 < c.toNat) ∧ ((lowC c).toNat < 97 ∨ 122 < (lowC c).toNat) ∧ hexD c = -1) := u8_all (by decide +kernel)
theorem low_le (c : UInt8) : (lowC c).toNat ≤ 255 := by have := (lowC c).toNat_lt; omega

theorem lower_any (c : UInt8) (w : World) : Calls Tryd.prog 39 #[.int .u8 ((c.toNat : Nat) : Int)] w fun e w' => e = .returned (.int .u8 (((lowC c).toNat : Nat) : Int)) ∧ w = w' := by
  have := Tryd.internal_strconv_lower (c.toNat : Int) w
  rw [low_bits] at this
  exact this.mono fun _ _ ⟨a, b⟩ => ⟨a, b.symm⟩

theorem ret_u64e {a b : Int} (h : a = b) : Ending.returned (.tuple #[.int .u64 a, .nilIface]) = .returned (.tuple #[.int .u64 b, .nilIface]) := by rw [h]
/-- A string of one byte. -/
def oneB (c : UInt8) : ByteArray := ⟨#[c]⟩

set_option maxRecDepth 100000 in
set_option maxHeartbeats 1000000 in
theorem ipu_ok (c : UInt8) (d : Int) (hd : hexD c = d) (h0 : 0 ≤ d) (w : World) :
    Calls Tryd.prog 37 #[.string (oneB c), .int .i64 16, .int .i64 8] w fun e w' => e = .returned (.tuple #[.int .u64 d, .nilIface]) ∧ Below w.heap.size w w' := by
  obtain ⟨cap, w1, hrun, hb1, hs1, hS⟩ := conv_sb (P := Tryd.prog) w 9 34 5 (oneB c) Tryd.underlying9 Tryd.underlying34 Tryd.underlying5
  obtain ⟨_, ea, hab, hc0⟩ := hS 0 (by simp [oneB])
  cases ea
  have hc1 : w1.cell? ⟨w.heap.size, 0, none⟩ = some (.int .u8 (c.toNat : Int)) := by simpa [oneB, Addr.add] using hc0
  have hsz : (oneB c).size = 1 := rfl
  rw [hsz] at hrun
  have hne : (oneB c).toList.isEmpty = false := by rw [ByteArray.toList_eq]; rfl
  have hl := low_le c
  clear hc0 hS hab hs1
  rcases hex_ways c with ⟨a1, a2, a3⟩ | ⟨a1, a2, a3, a4⟩ | ⟨a1, a2, a3, a4⟩ | ⟨a1, a2, a4⟩
  · have b1 : decide ((48 : Int) ≤ (c.toNat : Int)) = true := by simp; omega
    have b2 : decide ((c.toNat : Int) ≤ 57) = true := by simp; omega
    have b3 : ((c.toNat : Int) == 95) = false := by simp; omega
    have hd' : d = (c.toNat : Int) - 48 := hd.symm.trans a3
    clear hd
    go_enter Tryd.func37, Tryd.ntmps37
    go_wp2
    refine wp_loop_rounds 2 ?_
    rw [rounds_succ]
    go_wp2
    rw [rounds_succ]
    go_wp2
    go_ret2
    exact ⟨ret_u64e hd'.symm, hb1⟩
  · have hd' : d = ((lowC c).toNat : Int) - 87 := hd.symm.trans a4
    have b3 : ((c.toNat : Int) == 95) = false := by
      have hc : ∀ c : UInt8, (c.toNat < 48 ∨ 57 < c.toNat) → (lowC c).toNat ≤ 102 → c.toNat ≠ 95 := u8_all (by decide +kernel)
      have := hc c a1 a3
      simp; omega
    have b5 : decide ((97 : Int) ≤ ((lowC c).toNat : Int)) = true := by simp; omega
    have b6 : decide (((lowC c).toNat : Int) ≤ 122) = true := by simp; omega
    clear hd
    rcases a1 with a1 | a1
    · have b1 : decide ((48 : Int) ≤ (c.toNat : Int)) = false := by simp; omega
      go_enter Tryd.func37, Tryd.ntmps37
      go_wp2
      refine wp_loop_rounds 2 ?_
      rw [rounds_succ]
      go_wp2_with (go_at_call 39; refine (lower_any c _).mono ?_; rintro e w' ⟨rfl, rfl⟩)
      rw [rounds_succ]
      go_wp2
      go_ret2
      exact ⟨ret_u64e (by omega), hb1⟩
    · have b1 : decide ((48 : Int) ≤ (c.toNat : Int)) = true := by simp; omega
      have b2 : decide ((c.toNat : Int) ≤ 57) = false := by simp; omega
      go_enter Tryd.func37, Tryd.ntmps37
      go_wp2
      refine wp_loop_rounds 2 ?_
      rw [rounds_succ]
      go_wp2_with (go_at_call 39; refine (lower_any c _).mono ?_; rintro e w' ⟨rfl, rfl⟩)
      rw [rounds_succ]
      go_wp2
      go_ret2
      exact ⟨ret_u64e (by omega), hb1⟩
  · omega
  · omega

set_option maxRecDepth 100000 in
set_option maxHeartbeats 1000000 in
theorem ipu_syn (c : UInt8) (hd : hexD c < 0) (w : World) :
    Calls Tryd.prog 37 #[.string (oneB c), .int .i64 16, .int .i64 8] w fun e w' => e = .returned (.tuple #[.int .u64 0, .iface 77 (.int .i64 2)]) ∧ Below w.heap.size w w' := by
  obtain ⟨cap, w1, hrun, hb1, hs1, hS⟩ := conv_sb (P := Tryd.prog) w 9 34 5 (oneB c) Tryd.underlying9 Tryd.underlying34 Tryd.underlying5
  obtain ⟨_, ea, hab, hc0⟩ := hS 0 (by simp [oneB])
  cases ea
  have hc1 : w1.cell? ⟨w.heap.size, 0, none⟩ = some (.int .u8 (c.toNat : Int)) := by simpa [oneB, Addr.add] using hc0
  have hsz : (oneB c).size = 1 := rfl
  rw [hsz] at hrun
  have hne : (oneB c).toList.isEmpty = false := by rw [ByteArray.toList_eq]; rfl
  have hl := low_le c
  clear hc0 hS hab hs1
  rcases hex_ways c with ⟨a1, a2, a3⟩ | ⟨a1, a2, a3, a4⟩ | ⟨a1, a2, a3, a4⟩ | ⟨a1, a2, a4⟩
  · omega
  · omega
  · have b5 : decide ((97 : Int) ≤ ((lowC c).toNat : Int)) = true := by simp; omega
    have b6 : decide (((lowC c).toNat : Int) ≤ 122) = true := by simp; omega
    clear hd
    rcases a1 with a1 | a1
    · have b1 : decide ((48 : Int) ≤ (c.toNat : Int)) = false := by simp; omega
      have b3 : ((c.toNat : Int) == 95) = false := by simp; omega
      go_enter Tryd.func37, Tryd.ntmps37
      go_wp2
      refine wp_loop_rounds 2 ?_
      rw [rounds_succ]
      go_wp2_with (go_at_call 39; refine (lower_any c _).mono ?_; rintro e w' ⟨rfl, rfl⟩)
      go_ret2
      exact ⟨rfl, hb1⟩
    · have b1 : decide ((48 : Int) ≤ (c.toNat : Int)) = true := by simp; omega
      have b2 : decide ((c.toNat : Int) ≤ 57) = false := by simp; omega
      go_enter Tryd.func37, Tryd.ntmps37
      go_wp2
      refine wp_loop_rounds 2 ?_
      rw [rounds_succ]
      by_cases b3 : c.toNat = 95
      · exact absurd ((u8_all (p := fun c => c.toNat = 95 → (lowC c).toNat = 127) (by decide +kernel)) c b3) (by omega)
      · have b3 : ((c.toNat : Int) == 95) = false := by simp; omega
        go_wp2_with (go_at_call 39; refine (lower_any c _).mono ?_; rintro e w' ⟨rfl, rfl⟩)
        go_ret2
        exact ⟨rfl, hb1⟩
  · clear hd
    have b3 : ((c.toNat : Int) == 95) = true ∨ ((c.toNat : Int) == 95) = false := by cases h : ((c.toNat : Int) == 95) <;> simp
    have b12 : (decide ((48 : Int) ≤ (c.toNat : Int)) = false) ∨ (decide ((48 : Int) ≤ (c.toNat : Int)) = true ∧ decide ((c.toNat : Int) ≤ 57) = false) := by
      rcases a1 with a1 | a1
      · left; simp; omega
      · right; simp; omega
    have b56 : (decide ((97 : Int) ≤ ((lowC c).toNat : Int)) = false) ∨ (decide ((97 : Int) ≤ ((lowC c).toNat : Int)) = true ∧ decide (((lowC c).toNat : Int) ≤ 122) = false) := by
      rcases a2 with a2 | a2
      · left; simp; omega
      · right; simp; omega
    rcases b3 with b3 | b3 <;> rcases b12 with b1 | ⟨b1, b2⟩ <;> rcases b56 with b5 | ⟨b5, b6⟩
    all_goals (
      go_enter Tryd.func37, Tryd.ntmps37
      go_wp2
      refine wp_loop_rounds 2 ?_
      rw [rounds_succ]
      go_wp2_with (go_at_call 39; refine (lower_any c _).mono ?_; rintro e w' ⟨rfl, rfl⟩)
      go_ret2
      exact ⟨rfl, hb1⟩)

set_option maxRecDepth 100000 in
set_option maxHeartbeats 1000000 in
theorem pu_ok (c : UInt8) (d : Int) (hd : hexD c = d) (h0 : 0 ≤ d) (w : World) :
    Calls Tryd.prog 36 #[.string (oneB c), .int .i64 16, .int .i64 8] w fun e w' => e = .returned (.tuple #[.int .u64 d, .nilIface]) ∧ Below w.heap.size w w' := by
  go_enter Tryd.func36, Tryd.ntmps36
  go_wp2_with (go_at_call 37; refine (ipu_ok c d hd h0 _).mono ?_; rintro e w1 ⟨rfl, hb1⟩)
  go_ret2
  exact ⟨rfl, hb1⟩
set_option maxRecDepth 100000 in
set_option maxHeartbeats 1000000 in
theorem pu_syn (c : UInt8) (hd : hexD c < 0) (w : World) (hG : Glob w) :
    Calls Tryd.prog 36 #[.string (oneB c), .int .i64 16, .int .i64 8] w fun e w' => ∃ t p, e = .returned (.tuple #[.int .u64 0, .iface t p]) ∧ Below w.heap.size w w' := by
  have HG := Lib.hid hG; clear hG
  go_enter Tryd.func36, Tryd.ntmps36
  go_wp2_with (go_at_call 37; refine (ipu_syn c hd _).mono ?_; rintro e w1 ⟨rfl, hb1⟩)
  obtain ⟨te, pe, hv⟩ := (HG.out.keep hb1 (Nat.le_refl _)).errSyntax
  have hlim : (oneB c).size ≤ 281474976710656 := by show 1 ≤ 281474976710656; omega
  go_wp2_with (go_at_call 38; refine (Tryd.strconv_toError_syntax _ _ _ _ _ _ hlim hv (.inr ⟨te, pe, rfl⟩)).mono ?_; rintro e w2 ⟨N, rfl, hN, hh, hb2⟩)
  go_ret2
  exact ⟨_, _, rfl, hb1.trans (hb2.mono hb1.size)⟩

end Go.Proofs.YtpchipmpgoflfaaDoor
