/- Walks over the law's helpers of chapter 02: read, lives; no statement of the seat is proved here. -/
import Derived.Test.YtnoinnninahdiaaDoorDcG
namespace Go.Proofs.YtnoinnninahdiaaDoor
open Go.RowKit

theorem dec_small {u : Nat} (h : u < 10) : Lib.decDigits u = [UInt8.ofNat (48 + u)] := by rw [Lib.decDigits, dif_pos h]
theorem readD_eq {l t : List UInt8} {d : Dm} (h1 : okW l = true) (h2 : goodL l = true) (h3 : dW (sW l) = d) (h4 : d.text = t) : readD l = (t, 0) := by
  rw [readD, h1, h2, h3, h4]; rfl
theorem readD_syn {l : List UInt8} (h1 : okW l = false) : readD l = ([], 3) := by rw [readD, h1]; rfl
theorem readD_exp {l : List UInt8} (h1 : okW l = true) (h2 : goodL l = false) : readD l = ([], 7) := by rw [readD, h1, h2]; rfl
theorem lessT_text {a b : Dm} (ha : Norm a) (hb : Norm b) : lessT a.text b.text = lessD a b := by rw [lessT, text_parse ha, text_parse hb]

def dA : Dm := ⟨true, [49, 50], -1⟩
def dB : Dm := ⟨false, [53], 0⟩
theorem dA_text : dA.text = [45, 49, 50, 101, 45, 49] := by
  have e : Lib.itoa (-1) = [45, 49] := by show 45 :: Lib.decDigits 1 = _; rw [dec_small (by decide)]; rfl
  show [45] ++ ([49, 50] ++ 101 :: Lib.itoa (-1)) = _
  rw [e]; rfl
theorem itoa0 : Lib.itoa 0 = [48] := by show Lib.decDigits 0 = _; rw [dec_small (by decide)]; rfl
theorem itoa2 : Lib.itoa 2 = [50] := by show Lib.decDigits 2 = _; rw [dec_small (by decide)]; rfl
theorem dB_text : dB.text = [53, 101, 48] := by
  show [53] ++ 101 :: Lib.itoa 0 = _
  rw [itoa0]; rfl
theorem dA_norm : Norm dA := ⟨by decide, by decide, by decide, .inr (by decide), .inr (by decide)⟩
theorem dB_norm : Norm dB := ⟨by decide, by decide, by decide, .inr (by decide), .inr (by decide)⟩
theorem ex1 : readD [45, 48, 46, 53, 48, 101, 49] = ([45, 53, 101, 48], 0) :=
  readD_eq (d := ⟨true, [53], 0⟩) (by decide +kernel) (by decide +kernel) (by decide +kernel) (by show [45] ++ ([53] ++ 101 :: Lib.itoa 0) = _; rw [itoa0]; rfl)
theorem ex2 : readD [49, 50, 48, 48] = ([49, 50, 101, 50], 0) :=
  readD_eq (d := ⟨false, [49, 50], 2⟩) (by decide +kernel) (by decide +kernel) (by decide +kernel) (by show [49, 50] ++ 101 :: Lib.itoa 2 = _; rw [itoa2]; rfl)
theorem ex3 : readD [48, 46, 48] = ([48], 0) := readD_eq (d := .zero) (by decide +kernel) (by decide +kernel) (by decide +kernel) rfl
theorem ex4 : readD [48, 49] = ([], 3) := readD_syn (by decide +kernel)
theorem ex5 : readD [49, 46] = ([], 3) := readD_syn (by decide +kernel)
theorem ex6 : readD [43, 49] = ([], 3) := readD_syn (by decide +kernel)
theorem ex7 : readD [48, 101, 49, 48, 48, 48, 48, 48, 48, 48, 48, 49] = ([], 7) := readD_exp (by decide +kernel) (by decide +kernel)
theorem ex8 : Told [45, 49, 50, 101, 45, 49] true ⟨#[49, 50]⟩ (-1) true := by
  rw [Told, if_pos rfl, ← dA_text, text_parse dA_norm]; rfl
theorem ex9 : lessT [45, 49, 50, 101, 45, 49] [53, 101, 48] = true := by
  rw [← dA_text, ← dB_text, lessT_text dA_norm dB_norm]; decide
theorem ex10 : lessT [53, 101, 48] [45, 49, 50, 101, 45, 49] = false := by
  rw [← dA_text, ← dB_text, lessT_text dB_norm dA_norm]; decide

def otherS : ByteArray := ⟨#[97, 110, 111, 116, 104, 101, 114, 32, 99, 111, 100, 101]⟩
set_option maxHeartbeats 1000000 in
theorem rd_is (s r u : ByteArray) (want c : Int) (hs : s.size ≤ 549755813888) (hr : readD s.data.toList = (r.data.toList, c)) (hu : u = if c = want then r else otherS) (w : World) (hT : TAB w) :
    Calls Tryd.prog 15 #[.string s, .int .i64 want] w fun x w' => x = .returned (.string u) ∧ Below w.heap.size w w' := by
  have HR := Lib.hid (fun w hT => iread_is s r c hs hr w hT)
  have HT := Lib.hid hT
  clear hr hT
  by_cases h : c = want
  · rw [if_pos h] at hu
    subst hu
    have b0 : (c != want) = false := by simp [h]
    clear h
    go_enter Tryd.func15, Tryd.ntmps15
    go_wp2_with (go_at_call 9; (with_reducible refine (HR.out _ HT.out).mono ?_); rintro x w1 ⟨rfl, hb1⟩)
    go_ret
    exact ⟨rfl, hb1⟩
  · rw [if_neg h] at hu
    subst hu
    have b0 : (c != want) = true := by simp [h]
    clear h
    go_enter Tryd.func15, Tryd.ntmps15
    go_wp2_with (go_at_call 9; (with_reducible refine (HR.out _ HT.out).mono ?_); rintro x w1 ⟨rfl, hb1⟩)
    go_ret
    exact ⟨rfl, hb1⟩
theorem rd_ok (s r : ByteArray) (want : Int) (hs : s.size ≤ 549755813888) (hr : readD s.data.toList = (r.data.toList, want)) (w : World) (hT : TAB w) :
    Calls Tryd.prog 15 #[.string s, .int .i64 want] w fun x w' => x = .returned (.string r) ∧ Below w.heap.size w w' :=
  rd_is s r r want want hs hr (by rw [if_pos rfl]) w hT

set_option maxRecDepth 100000 in
set_option maxHeartbeats 4000000 in
theorem lives_any (w : World) (hT : TAB w) : Calls Tryd.prog 8 #[] w fun e w' => e = .returned (.bool true) ∧ Below w.heap.size w w' := by
  have HT := Lib.hid hT
  have HB : Hid (Below w.heap.size w w) := Below.refl _ _
  clear hT
  go_enter Tryd.func8, Tryd.ntmps8
  go_wp2_with (first
    | (go_at_call 11; (with_reducible refine (parts_is ⟨#[45, 49, 50, 101, 45, 49]⟩ ⟨#[49, 50]⟩ true (-1) true (by decide) ex8 _ (HT.out.later HB.out)).mono ?_); rintro x w' ⟨rfl, hb'⟩; replace HB := Lib.hid (HB.out.trans (hb'.mono HB.out.size)); clear hb')
    | (go_at_call 15; (first
        | (with_reducible refine (rd_ok ⟨#[45, 48, 46, 53, 48, 101, 49]⟩ ⟨#[45, 53, 101, 48]⟩ 0 (by decide) ex1 _ (HT.out.later HB.out)).mono ?_)
        | (with_reducible refine (rd_ok ⟨#[49, 50, 48, 48]⟩ ⟨#[49, 50, 101, 50]⟩ 0 (by decide) ex2 _ (HT.out.later HB.out)).mono ?_)
        | (with_reducible refine (rd_ok ⟨#[48, 46, 48]⟩ ⟨#[48]⟩ 0 (by decide) ex3 _ (HT.out.later HB.out)).mono ?_)
        | (with_reducible refine (rd_ok ⟨#[48, 49]⟩ ⟨#[]⟩ 3 (by decide) ex4 _ (HT.out.later HB.out)).mono ?_)
        | (with_reducible refine (rd_ok ⟨#[49, 46]⟩ ⟨#[]⟩ 3 (by decide) ex5 _ (HT.out.later HB.out)).mono ?_)
        | (with_reducible refine (rd_ok ⟨#[43, 49]⟩ ⟨#[]⟩ 3 (by decide) ex6 _ (HT.out.later HB.out)).mono ?_)
        | (with_reducible refine (rd_ok ⟨#[48, 101, 49, 48, 48, 48, 48, 48, 48, 48, 48, 49]⟩ ⟨#[]⟩ 7 (by decide) ex7 _ (HT.out.later HB.out)).mono ?_)); rintro x w' ⟨rfl, hb'⟩; replace HB := Lib.hid (HB.out.trans (hb'.mono HB.out.size)); clear hb')
    | (go_at_call 13; (first
        | (with_reducible refine (less_is ⟨#[45, 49, 50, 101, 45, 49]⟩ ⟨#[53, 101, 48]⟩ (by decide) (by decide) true ex9 _ (HT.out.later HB.out)).mono ?_)
        | (with_reducible refine (less_is ⟨#[53, 101, 48]⟩ ⟨#[45, 49, 50, 101, 45, 49]⟩ (by decide) (by decide) false ex10 _ (HT.out.later HB.out)).mono ?_)); rintro x w' ⟨rfl, hb'⟩; replace HB := Lib.hid (HB.out.trans (hb'.mono HB.out.size)); clear hb'))
  go_ret
  exact ⟨rfl, HB.out⟩

end Go.Proofs.YtnoinnninahdiaaDoor
