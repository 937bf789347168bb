/- Walks over the reference of chapter 08, the small functions; no statement of the seat is proved here. -/
import Derived.Test.YtjiejpjdbimjkaaJtE
namespace Go.Proofs.Ytjiejpjdbimjkaa
open Go.RowKit

/-- a byte; 0 behind all -/
def atR (l : List UInt8) (k : Nat) : UInt8 := if h : k < l.length then l[k] else 0
theorem atR_lt {l : List UInt8} {k : Nat} (h : k < l.length) : atR l k = l[k] := by rw [atR, dif_pos h]
theorem atR_ge {l : List UInt8} {k : Nat} (h : ¬ k < l.length) : atR l k = 0 := by rw [atR, dif_neg h]

set_option maxHeartbeats 400000 in
theorem rat_any (A : Option Addr) (l : List UInt8) (n : Nat) (hn : n = l.length) (c : Nat) (i : Int) (h0 : 0 ≤ i) (w : World) {B : Nat} (hB : BS w B A l) :
    Calls Try.prog 19 #[.slice A n c, .int .i64 i] w fun e w' => e = .returned (.int .u8 (((atR l i.toNat).toNat : Nat) : Int)) ∧ w = w' := by
  subst hn
  obtain ⟨k, rfl⟩ := Int.eq_ofNat_of_zero_le h0
  rw [Int.toNat_natCast]
  clear h0
  by_cases hlt : k < l.length
  · obtain ⟨a, rfl, ha, hc⟩ := hB k hlt
    have HA := Lib.hid (atR_lt hlt)
    clear hB
    go_enter Try.func19, Try.ntmps19
    go_wp2
    go_ret
    exact ⟨by rw [HA.out]; rfl, rfl⟩
  · have HA := Lib.hid (atR_ge hlt)
    clear hB
    go_enter Try.func19, Try.ntmps19
    go_wp2
    go_ret
    exact ⟨by rw [HA.out]; rfl, rfl⟩

/-- Function f tells of each byte whether p, and leaves the world. -/
def TellsQ (f : FuncId) (p : UInt8 → Bool) : Prop := ∀ (c : UInt8) (w : World), Calls Try.prog f #[.int .u8 ((c.toNat : Nat) : Int)] w fun e w' => e = .returned (.bool (p c)) ∧ w = w'

theorem byteEq (c : UInt8) (n : Nat) (h : n < 256) : ((c.toNat : Int) == (n : Int)) = (c == UInt8.ofNat n) := by
  have hn : (UInt8.ofNat n).toNat = n := by simp; omega
  rw [Bool.eq_iff_iff]; simp only [beq_iff_eq, ← UInt8.toNat_inj, hn]; omega
theorem isSpace_chain (c : UInt8) : isSpace c = (((c.toNat : Int) == 32) || ((c.toNat : Int) == 9) || ((c.toNat : Int) == 10) || ((c.toNat : Int) == 13)) := by
  have h1 := byteEq c 32 (by omega); have h2 := byteEq c 9 (by omega); have h3 := byteEq c 10 (by omega); have h4 := byteEq c 13 (by omega)
  simp only [Int.cast_ofNat_Int] at h1 h2 h3 h4
  rw [h1, h2, h3, h4]
  simp only [isSpace, List.contains_cons, List.contains_nil, Bool.or_false]
  cases (c == 32) <;> cases (c == 9) <;> cases (c == 10) <;> cases (c == 13) <;> rfl

set_option maxHeartbeats 400000 in
theorem rspace_tells : TellsQ 18 isSpace := by
  intro c w
  rw [isSpace_chain]
  go_enter Try.func18, Try.ntmps18
  go_wp2
  all_goals go_ret
  all_goals exact ⟨ret_bool (by simp [*]), rfl⟩
set_option maxHeartbeats 400000 in
theorem rdigit_tells : TellsQ 20 isDigit := by
  intro c w
  go_enter Try.func20, Try.ntmps20
  go_wp2
  all_goals go_ret
  all_goals (refine ⟨ret_bool ?_, rfl⟩; simp [isDigit, *]; try omega)
set_option maxHeartbeats 400000 in
theorem rhex_tells : TellsQ 22 isHex := by
  intro c w
  have HD := Lib.hid rdigit_tells
  go_enter Try.func22, Try.ntmps22
  go_wp2_with (go_at_call 20; refine (HD.out _ _).mono ?_; rintro e w' ⟨rfl, rfl⟩)
  all_goals go_ret
  all_goals (refine ⟨ret_bool ?_, rfl⟩; simp [isHex, *]; try omega)

theorem zero_not : isDigit 0 = false ∧ isSpace 0 = false ∧ isHex 0 = false ∧ isLetter 0 = false := by decide
theorem runR_yes {p : UInt8 → Bool} (h0 : p 0 = false) {l : List UInt8} {k : Nat} (h : p (atR l k) = true) : k < l.length ∧ runL p l k = runL p l (k + 1) := by
  by_cases hlt : k < l.length
  · rw [atR_lt hlt] at h; exact ⟨hlt, runL_yes hlt h⟩
  · rw [atR_ge hlt, h0] at h; cases h
theorem runR_no {p : UInt8 → Bool} {l : List UInt8} {k : Nat} (h : p (atR l k) = false) : runL p l k = k := by
  by_cases hlt : k < l.length
  · rw [atR_lt hlt] at h; exact runL_no hlt h
  · exact runL_end hlt

set_option maxHeartbeats 400000 in
theorem rdigits_any (A : Option Addr) (l : List UInt8) (n : Nat) (hn : n = l.length) (c : Nat) (i : Int) (h0 : 0 ≤ i) (hl : l.length ≤ 4611686018427387904) (w : World) {B : Nat} (hB : BS w B A l) :
    Calls Try.prog 21 #[.slice A n c, .int .i64 i] w fun e w' => e = .returned (.int .i64 (runL isDigit l i.toNat)) ∧ w = w' := by
  subst hn
  obtain ⟨k, rfl⟩ := Int.eq_ofNat_of_zero_le h0
  rw [Int.toNat_natCast]
  have HB := Lib.hid hB; clear hB h0
  have HD := Lib.hid rdigit_tells
  go_enter Try.func21, Try.ntmps21
  go_wp2
  go_loop [1] (fun s => ∃ j : Nat, s = .int .i64 j ∧ Hid (runL isDigit l j = runL isDigit l k)) (fun s => l.length - (intOf s).toNat)
  case atStart => exact ⟨k, rfl, rfl⟩
  case round =>
    obtain ⟨j, rfl, hr⟩ := hrel
    by_cases hlt : j < l.length
    · go_wp2_with (first | (go_at_call 19; refine (rat_any _ _ _ rfl _ _ (by omega) _ HB.out).mono ?_; rw [Int.toNat_natCast]; rintro e w' ⟨rfl, rfl⟩) | (go_at_call 20; refine (HD.out _ _).mono ?_; rintro e w' ⟨rfl, rfl⟩))
      · have h := runR_yes zero_not.1 ‹isDigit (atR l j) = true›
        go_round
        case rel => exact ⟨j + 1, by go_num, h.2.symm.trans hr.out⟩
        case measure => simp [intOf]; omega
      · have h := runR_no ‹isDigit (atR l j) = false›
        go_ret
        exact ⟨ret_nat (h.symm.trans hr.out), rfl⟩
    · have h2 := runL_end (p := isDigit) hlt
      have H2 := Lib.hid h2; clear h2
      have hz : isDigit (atR l j) = false := by rw [atR_ge hlt]; exact zero_not.1
      go_wp2_with (first | (go_at_call 19; refine (rat_any _ _ _ rfl _ _ (by omega) _ HB.out).mono ?_; rw [Int.toNat_natCast]; rintro e w' ⟨rfl, rfl⟩) | (go_at_call 20; refine (HD.out _ _).mono ?_; rintro e w' ⟨rfl, rfl⟩))
      go_ret
      exact ⟨ret_nat (H2.out.symm.trans hr.out), rfl⟩

set_option maxHeartbeats 400000 in
theorem syntax_any (i : Int) (w : World) :
    Calls Try.prog 17 #[.int .i64 i] w fun e w' => e = .returned (.tuple #[.agg #[.int .i64 0, .int .i64 0, .int .i64 0], .agg #[.int .i64 3, .int .i64 i]]) ∧ Below w.heap.size w w' := by
  go_enter Try.func17, Try.ntmps17
  go_wp2
  exact bodyPost_ret (v := .tuple #[.agg #[.int .i64 0, .int .i64 0, .int .i64 0], .agg #[.int .i64 3, .int .i64 i]]) (by simp [results, Try.results17, go_sem]) rfl ⟨rfl, below_new2 _ _ _⟩

end Go.Proofs.Ytjiejpjdbimjkaa
