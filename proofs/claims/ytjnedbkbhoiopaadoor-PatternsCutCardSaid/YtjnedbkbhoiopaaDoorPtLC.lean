/- The walk over the law PatternsCut; no statement of the seat is proved here. -/
import Derived.Test.YtjnedbkbhoiopaaDoorPtT
namespace Go.Proofs.YtjnedbkbhoiopaaDoor
open Go.RowKit

theorem ext_take (s : ByteArray) (i : Nat) : (s.extract 0 i).data.toList = s.data.toList.take i := by
  rw [ByteArray.data_extract, Array.toList_extract, List.extract_eq_take_drop]; simp
theorem app3 (a b c : ByteArray) : (a ++ b ++ c).data.toList = a.data.toList ++ (b.data.toList ++ c.data.toList) := by simp
theorem FB.newD (w : World) (a b : Int) : FB (w.alloc (.cells #[.int .i64 a, .int .i64 b] 27)).drew w.heap.size a b := heap_new1 w _
theorem Below.on {w W w' : World} (h : Below w.heap.size w W) (hb : Below W.heap.size W w') : Below w.heap.size w w' := h.trans (hb.mono h.size)
set_option maxRecDepth 100000 in
set_option maxHeartbeats 8000000 in
theorem cutlaw_walk (s : ByteArray) (a : Int) (wa : (Lit.int .u16 a).wf = true) (w : World) :
    Calls Tryd.prog 3 #[.string s, .int .u16 a] w fun e w' => e = .returned (.bool true) ∧ Below w.heap.size w w' := by
  have LV := Lib.hid (fun w => lives_any w)
  obtain ⟨m, rfl, hm⟩ : ∃ m : Nat, a = (m : Int) ∧ m < 65536 := by
    simp [Lit.wf, IntKind.min, IntKind.max, IntKind.bits, IntKind.signed] at wa
    exact ⟨a.toNat, by omega, by omega⟩
  clear wa
  by_cases hbig : 300 < s.size
  · go_enter Tryd.func3, Tryd.ntmps3
    go_wp2_with (go_at_call 8; (with_reducible refine (LV.out _).mono ?_); rintro e w1 ⟨rfl, hb1⟩)
    go_ret
    exact ⟨rfl, hb1⟩
  · have hs : s.size ≤ 1000000 := by omega
    have PC := Lib.hid (parse_is s hs w)
    have hns := parse_ns s.data.toList
    cases hp : parseL s.data.toList with
    | error k =>
      rw [hp] at PC
      have hk : k ≤ s.size := by have := (hns.2 k hp).2; simpa using this
      clear hp hns
      go_enter Tryd.func3, Tryd.ntmps3
      go_wp2_with (first
        | (go_at_call 9; (with_reducible refine Calls.mono PC.out ?_); rintro e w1 ⟨hr, hb1⟩; have hr' := (show _ = _ from hr); subst hr'; have HB := Lib.hid hb1; clear hr hb1)
        | (go_at_call 8; (with_reducible refine (LV.out _).mono ?_); rintro e w2 ⟨rfl, hb2⟩; have HB2 := Lib.hid ((HB.out.trans ((below_new1 _ _).mono HB.out.size)).trans (hb2.mono (by have := HB.out.size; simp; omega))); clear hb2))
      go_ret
      exact ⟨rfl, HB2.out⟩
    | ok ps =>
      rw [hp] at PC
      obtain ⟨i, hi⟩ : ∃ i, m % (s.size + 1) = i := ⟨_, rfl⟩
      have hil : i ≤ s.size := by rw [← hi]; have := Nat.mod_lt m (show 0 < s.size + 1 by omega); omega
      clear hns
      go_enter Tryd.func3, Tryd.ntmps3
      go_wp2_with (first
        | (go_at_call 9; (with_reducible refine Calls.mono PC.out ?_); rintro e w1 ⟨⟨base, b, A, c, q, hq, rfl, hP⟩, hb1⟩; have HB := Lib.hid hb1; clear hq hP hb1))
      have hb1 : Below w.heap.size w (w1.alloc (.cells #[.int .i64 0, .int .i64 0] 27)) := HB.out.alloc HB.out.size _
      obtain ⟨W1, hW1⟩ : ∃ W1, W1 = w1.alloc (.cells #[.int .i64 0, .int .i64 0] 27) := ⟨_, rfl⟩
      rw [← hW1] at hb1 ⊢
      have HB1 := Lib.hid hb1
      clear hW1 hb1
      have hmod : (m : Int) % ((s.size : Int) + 1) = (i : Int) := by rw [← hi]; simp
      rw [hmod]
      clear hi hmod
      have z1 : (⟨#[32]⟩ : ByteArray).size = 1 := rfl
      have z2 : (⟨#[93]⟩ : ByteArray).size = 1 := rfl
      have z3 : (s.extract 0 i).size = i := by simp; omega
      have z4 : (s.extract i s.size).size = s.size - i := by simp
      obtain ⟨k1, hk1, hk1i⟩ := parse_blank (s.data.toList.take i) (s.data.toList.drop i)
      have PC1 := Lib.hid (fun w => parse_is (s.extract 0 i ++ ⟨#[32]⟩ ++ s.extract i s.size) (by rw [ByteArray.size_append, ByteArray.size_append]; omega) w)
      rw [app3, ext_take, Lib.extract_to_end, show (⟨#[32]⟩ : ByteArray).data.toList ++ s.data.toList.drop i = 32 :: s.data.toList.drop i from rfl, hk1] at PC1
      have hk1' : k1 ≤ i := by simp at hk1i; omega
      have PC2 := Lib.hid (fun w => parse_is (s ++ ⟨#[93]⟩) (by rw [ByteArray.size_append]; omega) w)
      rw [show (s ++ ⟨#[93]⟩).data.toList = s.data.toList ++ [93] by simp, parse_snoc hp] at PC2
      go_region_with (go_at_call 9; (with_reducible refine (PC1.out _).mono ?_); rintro e w2 ⟨hr, hb2⟩; have hr' := (show _ = _ from hr); subst hr'; first
        | (have HB2 := Lib.hid (HB1.out.drew.trans (hb2.mono HB1.out.size)); have hlt2 := hb2.size; clear hr hb2)
        | (have HB2 := Lib.hid ((HB1.out.alloc HB1.out.size _).drew.trans (hb2.mono (by have := HB1.out.size; simp; omega))); have hff := (FB.newD W1 0 0).keep hb2 (Nat.le_refl _); obtain ⟨f0, f1, g0, g1, hlt2⟩ := hff.cells; clear hr hb2 hff))
      all_goals (
        have hs1 := HB1.out.size
        have hs2 := HB2.out.size
        go_wp2_with (first
          | (go_at_call 9; (with_reducible refine (PC2.out _).mono ?_); rintro e w3 ⟨hr, hb3⟩; have hr' := (show _ = _ from hr); subst hr'; have HB3 : Hid (Below w.heap.size w w3) := (by first | exact Below.on (HB2.out.alloc hs2 _) hb3 | exact Below.on (Below.two HB2.out hs1 _ _) hb3); clear hr hb3)
          | (go_at_call 8; (with_reducible refine (LV.out _).mono ?_); rintro e w4 ⟨rfl, hb4⟩; have HB4 := Lib.hid (Below.on (HB3.out.alloc HB3.out.size _) hb4); clear hb4))
        go_ret
        exact ⟨rfl, HB4.out⟩)

end Go.Proofs.YtjnedbkbhoiopaaDoor
