/- Walks over the law's helpers of chapter 04: is, fault, lives; no statement of the seat is proved here. -/
import Derived.Test.YthcmamhoanineaaDoorTqM
namespace Go.Proofs.YthcmamhoanineaaDoor
open Go.RowKit

theorem ex1 : rdT [34, 97, 92, 116, 98, 34, 32, 35, 32, 99] 34 false 1 [] = ([97, 9, 98], 6, 0, 0) := by
  simp [rdT, stepT, bt, escT, shortFrom, shortT, plainB]
theorem ex2 : rdT [34, 34, 34, 97, 34, 34, 34, 34, 34] 34 true 3 [] = ([97, 34, 34], 9, 0, 0) := by
  simp [rdT, stepT, bt, marksT, runB, plainB]
theorem ex3 : rdT [39, 67, 58, 92, 120, 39] 39 false 1 [] = ([67, 58, 92, 120], 6, 0, 0) := by
  simp [rdT, stepT, bt, plainB]
theorem ex4 : rdT [34, 97] 34 false 1 [] = ([], 0, 3, 2) := by
  simp [rdT, stepT, bt, plainB]
theorem ex5 : rdT [34, 92, 117, 100, 56, 48, 48, 34] 34 false 1 [] = ([], 0, 3, 3) := by
  simp [rdT, stepT, bt, escT, shortFrom, shortT, unitT, dgs, hx, hexD]

set_option maxHeartbeats 1000000 in
theorem is_of (s : ByteArray) (i : Int) (want : ByteArray) (en : Int) (w : World) (hr : Calls Tryd.prog 19 #[.string s, .int .i64 i] w (RdPost (want.data.toList, en, 0, 0) w)) :
    Calls Tryd.prog 10 #[.string s, .int .i64 i, .string want, .int .i64 en] w fun e w' => e = .returned (.bool true) ∧ Below w.heap.size w w' := by
  have HR := Lib.hid hr; clear hr
  have hq : (((⟨want.data.toList.toArray⟩ : ByteArray).toList == want.toList) = true) := by simp
  go_enter Tryd.func10, Tryd.ntmps10
  go_wp2_with fail
  refine HR.out.mono ?_
  rintro e w1 ⟨rfl, hb1⟩
  dsimp only
  go_wp2
  go_ret
  exact ⟨rfl, hb1.alloc hb1.size _⟩
set_option maxHeartbeats 1000000 in
theorem fault_of (s : ByteArray) (i : Int) (bad : Int) (w : World) (hr : Calls Tryd.prog 19 #[.string s, .int .i64 i] w (RdPost ([], 0, 3, bad) w)) :
    Calls Tryd.prog 13 #[.string s, .int .i64 i, .int .i64 bad] w fun e w' => e = .returned (.bool true) ∧ Below w.heap.size w w' := by
  have HR := Lib.hid hr; clear hr
  go_enter Tryd.func13, Tryd.ntmps13
  go_wp2_with fail
  refine HR.out.mono ?_
  rintro e w1 ⟨rfl, hb1⟩
  dsimp only
  go_wp2
  go_ret
  exact ⟨rfl, hb1.alloc hb1.size _⟩
theorem digits1 : DigitsOk [34, 97, 92, 116, 98, 34, 32, 35, 32, 99] := by
  intro i h
  have hi := bt_lt_of (l := [34, 97, 92, 116, 98, 34, 32, 35, 32, 99]) (i := i) (by rw [h]; decide)
  have : i = 0 ∨ i = 1 ∨ i = 2 ∨ i = 3 ∨ i = 4 ∨ i = 5 ∨ i = 6 ∨ i = 7 ∨ i = 8 ∨ i = 9 := by simp at hi; omega
  rcases this with rfl | rfl | rfl | rfl | rfl | rfl | rfl | rfl | rfl | rfl <;> simp [bt] at h ⊢
theorem digits4 : DigitsOk [34, 97] := by
  intro i h
  have hi := bt_lt_of (l := [34, 97]) (i := i) (by rw [h]; decide)
  have : i = 0 ∨ i = 1 := by simp at hi; omega
  rcases this with rfl | rfl <;> simp [bt] at h
theorem digits5 : DigitsOk [34, 92, 117, 100, 56, 48, 48, 34] := by
  intro i h
  have hi := bt_lt_of (l := [34, 92, 117, 100, 56, 48, 48, 34]) (i := i) (by rw [h]; decide)
  have : i = 0 ∨ i = 1 ∨ i = 2 ∨ i = 3 ∨ i = 4 ∨ i = 5 ∨ i = 6 ∨ i = 7 := by simp at hi; omega
  rcases this with rfl | rfl | rfl | rfl | rfl | rfl | rfl | rfl <;> simp [bt, dgs, hx, hexD] at h ⊢
/-- The steps of a long basic string without escapes and line's ends. -/
theorem long_steps {s : ByteArray} (hs : s.size ≤ 1073740000) (hp : ∀ i (h : i < s.size), s[i].toNat = 34 ∨ (s[i].toNat ≠ 92 ∧ s[i].toNat ≠ 10 ∧ s[i].toNat ≠ 13 ∧ plainB s[i].toNat = true)) {w0 : World} {R F : Nat} : StepsAre 92 R s 34 true w0 F := by
  intro i out w hin ho hRI hB
  have hb : bt s.data.toList i = s[i].toNat := bt_str hin
  by_cases h1 : s[i].toNat = 34
  · have e : stepT s.data.toList 34 true i = marksT s.data.toList 34 i := by unfold stepT; rw [hb, if_pos h1, if_pos rfl]
    rw [e]
    refine (longBasic_mark R s i 34 out _ w hRI hin (by omega) (by decide) (by omega) _ rfl h1).mono ?_
    rintro e w' ⟨g1, g2, g3⟩
    refine ⟨g3, ?_⟩
    unfold marksT
    by_cases h3 : 3 ≤ runB s.data.toList 34 5 i
    · rw [if_pos h3] at g2
      rw [decide_eq_true h3] at g1
      rw [if_pos h3]
      exact .inr (.inl ⟨rfl, g1, g2⟩)
    · rw [if_neg h3] at g2
      rw [decide_eq_false h3] at g1
      rw [if_neg h3]
      exact .inl ⟨rfl, g1, g2⟩
  · obtain ⟨h92, h10, h13, hpl⟩ := (hp i hin).resolve_left h1
    have e : stepT s.data.toList 34 true i = (0, i + 1, [s[i]]) := by
      unfold stepT
      rw [hb, if_neg h1, if_neg (fun h => h92 h.1), if_neg (fun h => h10 h.2), if_neg (fun h => h13 h.2), if_pos hpl]
      simp
    rw [e]
    have hf : feedT s.data.toList i = (0, -1) := by unfold feedT; rw [hb, if_neg h10, if_neg h13]
    exact (longBasic_ok R s i 34 out _ w hRI hin (by omega) (by omega) h1 hf h92 hpl).mono fun e w' ⟨h1, h2, h3⟩ => ⟨h3, .inl ⟨rfl, h1, h2⟩⟩

theorem rd1 (w : World) (hG : Glob w) : Calls Tryd.prog 19 #[.string ⟨#[34, 97, 92, 116, 98, 34, 32, 35, 32, 99]⟩, .int .i64 0] w (RdPost ([97, 9, 98], 6, 0, 0) w) := by
  have := read_short ⟨#[34, 97, 92, 116, 98, 34, 32, 35, 32, 99]⟩ 0 (by decide) (by decide) 34 rfl rfl (by decide +kernel) w (basic_steps (by decide) digits1 hG (by omega))
  rw [show (⟨#[34, 97, 92, 116, 98, 34, 32, 35, 32, 99]⟩ : ByteArray).data.toList = [34, 97, 92, 116, 98, 34, 32, 35, 32, 99] from rfl, ex1] at this
  exact this
theorem rd2 (w : World) : Calls Tryd.prog 19 #[.string ⟨#[34, 34, 34, 97, 34, 34, 34, 34, 34]⟩, .int .i64 0] w (RdPost ([97, 34, 34], 9, 0, 0) w) := by
  have := read_long ⟨#[34, 34, 34, 97, 34, 34, 34, 34, 34]⟩ 0 (by decide) (by decide) 34 rfl rfl (by decide +kernel) ⟨by decide, by decide +kernel⟩ w (long_steps (by decide) (by
    intro i h
    have h9 : i < 9 := h
    have : i = 0 ∨ i = 1 ∨ i = 2 ∨ i = 3 ∨ i = 4 ∨ i = 5 ∨ i = 6 ∨ i = 7 ∨ i = 8 := by omega
    rcases this with rfl | rfl | rfl | rfl | rfl | rfl | rfl | rfl | rfl
    · exact .inl rfl
    · exact .inl rfl
    · exact .inl rfl
    · exact .inr ⟨by show (97 : Nat) ≠ 92; decide, by show (97 : Nat) ≠ 10; decide, by show (97 : Nat) ≠ 13; decide, by show plainB 97 = true; decide⟩
    all_goals exact .inl rfl))
  rw [show (⟨#[34, 34, 34, 97, 34, 34, 34, 34, 34]⟩ : ByteArray).data.toList = [34, 34, 34, 97, 34, 34, 34, 34, 34] from rfl, ex2] at this
  exact this
theorem rd3 (w : World) : Calls Tryd.prog 19 #[.string ⟨#[39, 67, 58, 92, 120, 39]⟩, .int .i64 0] w (RdPost ([67, 58, 92, 120], 6, 0, 0) w) := by
  have := read_literal ⟨#[39, 67, 58, 92, 120, 39]⟩ 0 (by decide) (by decide) 39 rfl rfl (by decide +kernel) w (literal_steps (by decide))
  rw [show (⟨#[39, 67, 58, 92, 120, 39]⟩ : ByteArray).data.toList = [39, 67, 58, 92, 120, 39] from rfl, ex3] at this
  exact this
theorem rd4 (w : World) (hG : Glob w) : Calls Tryd.prog 19 #[.string ⟨#[34, 97]⟩, .int .i64 0] w (RdPost ([], 0, 3, 2) w) := by
  have := read_short ⟨#[34, 97]⟩ 0 (by decide) (by decide) 34 rfl rfl (by decide +kernel) w (basic_steps (by decide) digits4 hG (by omega))
  rw [show (⟨#[34, 97]⟩ : ByteArray).data.toList = [34, 97] from rfl, ex4] at this
  exact this
theorem rd5 (w : World) (hG : Glob w) : Calls Tryd.prog 19 #[.string ⟨#[34, 92, 117, 100, 56, 48, 48, 34]⟩, .int .i64 0] w (RdPost ([], 0, 3, 3) w) := by
  have := read_short ⟨#[34, 92, 117, 100, 56, 48, 48, 34]⟩ 0 (by decide) (by decide) 34 rfl rfl (by decide +kernel) w (basic_steps (by decide) digits5 hG (by omega))
  rw [show (⟨#[34, 92, 117, 100, 56, 48, 48, 34]⟩ : ByteArray).data.toList = [34, 92, 117, 100, 56, 48, 48, 34] from rfl, ex5] at this
  exact this

set_option maxHeartbeats 1000000 in
theorem lives_any (w : World) (hG : Glob w) : Calls Tryd.prog 6 #[] w fun e w' => e = .returned (.bool true) ∧ Below w.heap.size w w' := by
  have HG := Lib.hid hG; clear hG
  go_enter Tryd.func6, Tryd.ntmps6
  go_wp2_with fail
  refine (is_of _ _ _ _ _ (rd1 _ HG.out)).mono ?_
  rintro e w1 ⟨rfl, hb1⟩
  go_wp2_with fail
  refine (is_of _ _ _ _ _ (rd2 _)).mono ?_
  rintro e w2 ⟨rfl, hb2⟩
  have hb12 := hb1.trans (hb2.mono hb1.size)
  go_wp2_with fail
  refine (is_of _ _ _ _ _ (rd3 _)).mono ?_
  rintro e w3 ⟨rfl, hb3⟩
  have hb13 := hb12.trans (hb3.mono hb12.size)
  go_wp2_with fail
  refine (fault_of _ _ _ _ (rd4 _ (HG.out.keep hb13 (Nat.le_refl _)))).mono ?_
  rintro e w4 ⟨rfl, hb4⟩
  have hb14 := hb13.trans (hb4.mono hb13.size)
  go_wp2_with fail
  refine (fault_of _ _ _ _ (rd5 _ (HG.out.keep hb14 (Nat.le_refl _)))).mono ?_
  rintro e w5 ⟨rfl, hb5⟩
  have hb15 := hb14.trans (hb5.mono hb14.size)
  go_wp2_with fail
  refine (long_is ⟨#[39, 39, 39, 97]⟩ 0 (by decide) (by decide) true (by decide +kernel) _).mono ?_
  rintro e w6 ⟨rfl, rfl⟩
  go_wp2_with fail
  refine (long_is ⟨#[39, 39, 97]⟩ 0 (by decide) (by decide) false (by decide +kernel) _).mono ?_
  rintro e w6 ⟨rfl, rfl⟩
  go_wp2
  go_ret
  exact ⟨rfl, hb15⟩

end Go.Proofs.YthcmamhoanineaaDoor
