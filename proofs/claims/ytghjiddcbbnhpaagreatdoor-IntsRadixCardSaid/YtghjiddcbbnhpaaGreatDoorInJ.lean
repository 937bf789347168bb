/- The law's examples (lives); no statement of the seat is proved here. -/
import Derived.Test.YtghjiddcbbnhpaaGreatDoorInI
namespace Go.Proofs.YtghjiddcbbnhpaaGreatDoor
open Go.RowKit

theorem read_lit {l r t : List UInt8} {q n : Nat} {m : Bool} (hw : wayI l = (q, m, r)) (hb : badB q r = false) (hs : scanQ q false r 0 = some n) (hl : ¬ limI m < n) (ht : Lib.itoa (signI m n) = t) : readI l = (t, 0) := by
  unfold readI
  rw [hw, readW_scan hb]
  simp only
  rw [hs]
  simp only
  rw [if_neg hl, ht]
theorem dec_lit (l : List UInt8) (h1 : l ≠ []) (h2 : ∀ c ∈ l, dgB c = true) (h3 : l.head? ≠ some 48) {n : Nat} (hn : natV 0 l = n) : Lib.decDigits n = l := by rw [← hn]; exact dec_natV _ l rfl h1 h2 h3
theorem itoa_nat (n : Nat) : Lib.itoa (n : Int) = Lib.decDigits n := by rw [itoa_pos (by omega)]; rfl
theorem ex1 : readI [43, 49, 95, 48, 48, 48] = ([49, 48, 48, 48], 0) := read_lit (n := 1000) (m := false) (q := 10) (r := [49, 95, 48, 48, 48]) (by decide) (by decide) (by decide) (by decide) (by rw [show signI false 1000 = ((1000 : Nat) : Int) from rfl, itoa_nat]; exact dec_lit _ (by decide) (by decide) (by decide) (by decide))
theorem ex2 : readI [48, 120, 102, 70] = ([50, 53, 53], 0) := read_lit (n := 255) (m := false) (q := 16) (r := [102, 70]) (by decide) (by decide) (by decide) (by decide) (by rw [show signI false 255 = ((255 : Nat) : Int) from rfl, itoa_nat]; exact dec_lit _ (by decide) (by decide) (by decide) (by decide))
theorem ex3 : readI [45, 48] = ([48], 0) := read_lit (n := 0) (m := true) (q := 10) (r := [48]) (by decide) (by decide) (by decide) (by decide) (by rw [show signI true 0 = ((0 : Nat) : Int) from rfl, itoa_nat, dec_zero])
theorem ex4 : readI [48, 111, 49, 55] = ([49, 53], 0) := read_lit (n := 15) (m := false) (q := 8) (r := [49, 55]) (by decide) (by decide) (by decide) (by decide) (by rw [show signI false 15 = ((15 : Nat) : Int) from rfl, itoa_nat]; exact dec_lit _ (by decide) (by decide) (by decide) (by decide))
theorem read_no {l r : List UInt8} {q : Nat} {m : Bool} (hw : wayI l = (q, m, r)) (hs : badB q r = true ∨ scanQ q false r 0 = none) : readI l = ([], 3) := by
  unfold readI
  rw [hw]
  simp only
  by_cases hb : badB q r = true
  · exact readW_badB hb
  · rw [readW_scan (by simpa using hb), hs.resolve_left hb]
theorem ex5 : readI [48, 49] = ([], 3) := read_no (q := 10) (m := false) (r := [48, 49]) (by decide) (by decide)
theorem ex6 : readI [49, 95, 95, 48] = ([], 3) := read_no (q := 10) (m := false) (r := [49, 95, 95, 48]) (by decide) (by decide)
theorem ex7 : readI [95, 49] = ([], 3) := read_no (q := 10) (m := false) (r := [95, 49]) (by decide) (by decide)
theorem ex8 : readI [45, 48, 120, 49] = ([], 3) := read_no (q := 10) (m := true) (r := [48, 120, 49]) (by decide) (by decide)
theorem ex9 : readI [48, 88, 49] = ([], 3) := read_no (q := 10) (m := false) (r := [48, 88, 49]) (by decide) (by decide)
theorem read_far {l r : List UInt8} {q n : Nat} {m : Bool} (hw : wayI l = (q, m, r)) (hb : badB q r = false) (hs : scanQ q false r 0 = some n) (hl : limI m < n) : readI l = ([], 8) := by
  unfold readI
  rw [hw, readW_scan hb]
  simp only
  rw [hs]
  simp only
  rw [if_pos hl]
theorem ex10 : readI [57, 50, 50, 51, 51, 55, 50, 48, 51, 54, 56, 53, 52, 55, 55, 53, 56, 48, 56] = ([], 8) :=
  read_far (n := 9223372036854775808) (q := 10) (m := false) (r := [57, 50, 50, 51, 51, 55, 50, 48, 51, 54, 56, 53, 52, 55, 55, 53, 56, 48, 56]) (by decide) (by decide) (by decide +kernel) (by decide)
theorem ex11 : cmpO [45, 53] [51] = -1 := by
  have h1 : numO [45, 53] = some (-5) := (num_iff _ _).2 ⟨by unfold I64; omega, by
    rw [itoa_neg (by omega)]
    show [45, 53] = 45 :: Lib.decDigits 5
    rw [dec_lit [53] (by decide) (by decide) (by decide) (by decide)]⟩
  have h2 : numO [51] = some 3 := (num_iff _ _).2 ⟨by unfold I64; omega, by
    rw [itoa_pos (by omega)]
    show [51] = Lib.decDigits 3
    rw [dec_lit [51] (by decide) (by decide) (by decide) (by decide)]⟩
  unfold cmpO
  rw [h1, h2]
  rfl
theorem is_yes (s want : ByteArray) (hs : s.size ≤ 50000) (h : readI s.data.toList = (want.data.toList, 0)) (w : World) (hG : Gl w) :
    Calls Tryz.prog 17 #[.string s, .string want] w fun e w' => e = .returned (.bool true) ∧ Below w.heap.size w w' := is_is s want hs true (decide_eq_true h) w hG
theorem fails_yes (s : ByteArray) (k : Int) (hs : s.size ≤ 50000) (h : readI s.data.toList = ([], k)) (w : World) (hG : Gl w) :
    Calls Tryz.prog 18 #[.string s, .int .i64 k] w fun e w' => e = .returned (.bool true) ∧ Below w.heap.size w w' := fails_is s k hs true (decide_eq_true h) w hG
theorem cmp_ex (w : World) (hG : Gl w) : Calls Tryz.prog 11 #[.string ⟨#[45, 53]⟩, .string ⟨#[51]⟩] w fun e w' => e = .returned (.int .i64 (-1)) ∧ Below w.heap.size w w' := by
  have := icmp_is ⟨#[45, 53]⟩ ⟨#[51]⟩ (by decide) (by decide) w hG
  rw [show cmpO (⟨#[45, 53]⟩ : ByteArray).data.toList (⟨#[51]⟩ : ByteArray).data.toList = -1 from ex11] at this
  exact this

set_option maxRecDepth 100000 in
set_option maxHeartbeats 4000000 in
theorem lives_any (w : World) (hG : Gl w) : Calls Tryz.prog 8 #[] w fun e w' => e = .returned (.bool true) ∧ Below w.heap.size w w' := by
  have HG := Lib.hid hG
  have HB : Hid (Below w.heap.size w w) := Below.refl _ _
  clear hG
  go_enter Tryz.func8, Tryz.ntmps8
  go_wp2_with (first
    | (go_at_call 17; (first
        | (with_reducible refine (is_yes ⟨#[43, 49, 95, 48, 48, 48]⟩ ⟨#[49, 48, 48, 48]⟩ (by decide) ex1 _ (HG.out.later HB.out)).mono ?_)
        | (with_reducible refine (is_yes ⟨#[48, 120, 102, 70]⟩ ⟨#[50, 53, 53]⟩ (by decide) ex2 _ (HG.out.later HB.out)).mono ?_)
        | (with_reducible refine (is_yes ⟨#[45, 48]⟩ ⟨#[48]⟩ (by decide) ex3 _ (HG.out.later HB.out)).mono ?_)
        | (with_reducible refine (is_yes ⟨#[48, 111, 49, 55]⟩ ⟨#[49, 53]⟩ (by decide) ex4 _ (HG.out.later HB.out)).mono ?_)); rintro x w' ⟨rfl, hb'⟩; replace HB := Lib.hid (HB.out.trans (hb'.mono HB.out.size)); clear hb')
    | (go_at_call 18; (first
        | (with_reducible refine (fails_yes ⟨#[48, 49]⟩ 3 (by decide) ex5 _ (HG.out.later HB.out)).mono ?_)
        | (with_reducible refine (fails_yes ⟨#[49, 95, 95, 48]⟩ 3 (by decide) ex6 _ (HG.out.later HB.out)).mono ?_)
        | (with_reducible refine (fails_yes ⟨#[95, 49]⟩ 3 (by decide) ex7 _ (HG.out.later HB.out)).mono ?_)
        | (with_reducible refine (fails_yes ⟨#[45, 48, 120, 49]⟩ 3 (by decide) ex8 _ (HG.out.later HB.out)).mono ?_)
        | (with_reducible refine (fails_yes ⟨#[48, 88, 49]⟩ 3 (by decide) ex9 _ (HG.out.later HB.out)).mono ?_)
        | (with_reducible refine (fails_yes ⟨#[57, 50, 50, 51, 51, 55, 50, 48, 51, 54, 56, 53, 52, 55, 55, 53, 56, 48, 56]⟩ 8 (by decide) ex10 _ (HG.out.later HB.out)).mono ?_)); rintro x w' ⟨rfl, hb'⟩; replace HB := Lib.hid (HB.out.trans (hb'.mono HB.out.size)); clear hb')
    | (go_at_call 11; (with_reducible refine (cmp_ex _ (HG.out.later HB.out)).mono ?_); rintro x w' ⟨rfl, hb'⟩; replace HB := Lib.hid (HB.out.trans (hb'.mono HB.out.size)); clear hb'))
  go_ret
  exact ⟨rfl, HB.out⟩

end Go.Proofs.YtghjiddcbbnhpaaGreatDoor
