/- The walk over the law's lives, chapter 17; no statement of the seat is proved here. -/
import Derived.Test.YtjnedbkbhoiopaaDoorPtS
namespace Go.Proofs.YtjnedbkbhoiopaaDoor
open Go.RowKit

def bs (l : List UInt8) : ByteArray := ⟨l.toArray⟩
def p1 : List PS4 := [⟨0, bs [97], bs [], 0⟩, ⟨0, bs [98], bs [], 0⟩, ⟨0, bs [99], bs [], 0⟩]
def p2 : List PS4 := [⟨0, bs [97], bs [], 0⟩, ⟨0, bs [99], bs [], 0⟩]
def p3 : List PS4 := [⟨0, bs [120], bs [], 0⟩]
def p4 : List PS4 := [⟨0, bs [97], bs [], 0⟩, ⟨0, bs [98], bs [], 0⟩, ⟨0, bs [120], bs [], 0⟩]
def p5 : List PS4 := [⟨0, bs [108], bs [], 0⟩, ⟨2, bs [105, 100], bs [55], 0⟩, ⟨0, bs [118], bs [], 0⟩]

set_option maxRecDepth 100000 in
set_option maxHeartbeats 4000000 in
theorem lives_any (w : World) : Calls Tryd.prog 8 #[] w fun e w' => e = .returned (.bool true) ∧ Below w.heap.size w w' := by
  have PC := Lib.hid (parse_is ⟨#[47, 37, 52, 49, 37, 50, 70]⟩ (by decide) w)
  rw [show parseL (⟨#[47, 37, 52, 49, 37, 50, 70]⟩ : ByteArray).data.toList = .ok [.key [65, 47]] from rfl] at PC
  have F1 := Lib.hid (fun w => fails_is ⟨#[97]⟩ (by decide) 0 w true rfl)
  have F2 := Lib.hid (fun w => fails_is ⟨#[47, 97, 32, 98]⟩ (by decide) 2 w true rfl)
  have F3 := Lib.hid (fun w => fails_is ⟨#[47, 97, 37, 50]⟩ (by decide) 4 w true rfl)
  have F4 := Lib.hid (fun w => fails_is ⟨#[47, 120, 42]⟩ (by decide) 2 w true rfl)
  have M1 := Lib.hid (fun w : World => matches_is ⟨#[47, 97, 47, 42, 47, 99]⟩ (by decide) (some ⟨w.heap.size, 0, none⟩) 3 3 p1 rfl (by decide) (w.alloc (.cells #[.int .u8 0, .string ⟨#[97]⟩, .string ⟨#[]⟩, .int .i64 0, .int .u8 0, .string ⟨#[98]⟩, .string ⟨#[]⟩, .int .i64 0, .int .u8 0, .string ⟨#[99]⟩, .string ⟨#[]⟩, .int .i64 0] 50)) (PM.made w p1 _ _ rfl) true rfl)
  have M2 := Lib.hid (fun w : World => matches_is ⟨#[47, 97, 47, 42, 47, 99]⟩ (by decide) (some ⟨w.heap.size, 0, none⟩) 2 2 p2 rfl (by decide) (w.alloc (.cells #[.int .u8 0, .string ⟨#[97]⟩, .string ⟨#[]⟩, .int .i64 0, .int .u8 0, .string ⟨#[99]⟩, .string ⟨#[]⟩, .int .i64 0] 50)) (PM.made w p2 _ _ rfl) false rfl)
  have M3 := Lib.hid (fun w : World => matches_is ⟨#[47, 42, 42, 47, 120]⟩ (by decide) (some ⟨w.heap.size, 0, none⟩) 1 1 p3 rfl (by decide) (w.alloc (.cells #[.int .u8 0, .string ⟨#[120]⟩, .string ⟨#[]⟩, .int .i64 0] 50)) (PM.made w p3 _ _ rfl) true rfl)
  have M4 := Lib.hid (fun w : World => matches_is ⟨#[47, 42, 42, 47, 120]⟩ (by decide) (some ⟨w.heap.size, 0, none⟩) 3 3 p4 rfl (by decide) (w.alloc (.cells #[.int .u8 0, .string ⟨#[97]⟩, .string ⟨#[]⟩, .int .i64 0, .int .u8 0, .string ⟨#[98]⟩, .string ⟨#[]⟩, .int .i64 0, .int .u8 0, .string ⟨#[120]⟩, .string ⟨#[]⟩, .int .i64 0] 50)) (PM.made w p4 _ _ rfl) true rfl)
  have M5 := Lib.hid (fun w : World => matches_is ⟨#[47, 108, 91, 105, 100, 61, 55, 93, 47, 118]⟩ (by decide) (some ⟨w.heap.size, 0, none⟩) 3 3 p5 rfl (by decide) (w.alloc (.cells #[.int .u8 0, .string ⟨#[108]⟩, .string ⟨#[]⟩, .int .i64 0, .int .u8 2, .string ⟨#[105, 100]⟩, .string ⟨#[55]⟩, .int .i64 0, .int .u8 0, .string ⟨#[118]⟩, .string ⟨#[]⟩, .int .i64 0] 50)) (PM.made w p5 _ _ rfl) true rfl)
  have KL := Lib.hid (fun s w => keyL_is s w)
  have IL := Lib.hid (fun s d w => idL_is s d w)
  go_enter Tryd.func8, Tryd.ntmps8
  go_wp2_with (first
    | (go_at_call 9; (with_reducible refine Calls.mono PC.out ?_); rintro e w1 ⟨⟨base, b, A, c, q, hq, rfl, hP⟩, hb1⟩; have TC := Lib.hid (fun o : Obj => text_is base b A c q (w1.alloc o) (hP.keep (below_new1 _ _) (Nat.le_refl _)) (by rw [← hq]; decide)); rw [← hq] at TC; have HB := Lib.hid hb1; clear hq hP hb1)
    | (go_at_call 11; (with_reducible refine (TC.out _).mono ?_); rintro e w2 ⟨rfl, hb2⟩; replace HB := Lib.hid ((HB.out.trans ((below_new1 _ _).mono HB.out.size)).trans (hb2.mono (by have := HB.out.size; simp; omega))); clear hb2)
    | (go_at_call 25; (first | (with_reducible refine (F1.out _).mono ?_) | (with_reducible refine (F2.out _).mono ?_) | (with_reducible refine (F3.out _).mono ?_) | (with_reducible refine (F4.out _).mono ?_)); rintro e w2 ⟨rfl, hb2⟩; replace HB := Lib.hid (HB.out.trans (hb2.mono HB.out.size)); clear hb2)
    | (go_at_call 20; (with_reducible refine (KL.out _ _).mono ?_); rintro e w2 ⟨rfl, hb2⟩; replace HB := Lib.hid (HB.out.trans (hb2.mono HB.out.size)); clear hb2)
    | (go_at_call 22; (with_reducible refine (IL.out _ _ _).mono ?_); rintro e w2 ⟨rfl, hb2⟩; replace HB := Lib.hid (HB.out.trans (hb2.mono HB.out.size)); clear hb2)
    | (go_at_call 24; (first | (with_reducible refine (M1.out _).mono ?_) | (with_reducible refine (M2.out _).mono ?_) | (with_reducible refine (M3.out _).mono ?_) | (with_reducible refine (M4.out _).mono ?_) | (with_reducible refine (M5.out _).mono ?_)); rintro e w2 ⟨rfl, hb2⟩; replace HB := Lib.hid ((HB.out.trans ((below_new1 _ _).mono HB.out.size)).trans (hb2.mono (by have := HB.out.size; simp; omega))); clear hb2))
  go_ret
  exact ⟨rfl, HB.out⟩

end Go.Proofs.YtjnedbkbhoiopaaDoor
