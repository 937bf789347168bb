/- The laws IntsRead, IntsCmp, IntsOrder walked; no statement of the seat is proved here. -/
import Derived.Test.YtghjiddcbbnhpaaGreatDoorInJ
import Derived.Lib.ItoaLen
namespace Go.Proofs.YtghjiddcbbnhpaaGreatDoor
open Go.RowKit

set_option maxRecDepth 100000 in
set_option maxHeartbeats 2000000 in
theorem readlaw_walk (s : ByteArray) (w : World) (hG : Gl w) :
    Calls Tryz.prog 3 #[.string s] w fun e w' => e = .returned (.bool true) ∧ Below w.heap.size w w' := by
  have HL := Lib.hid (fun w' (hb : Below w.heap.size w w') => lives_any w' (hG.later hb))
  by_cases h5 : 500 < s.size
  · have b1 : decide ((500 : Int) < (s.size : Int)) = true := decide_eq_true (by omega)
    clear hG h5
    go_enter Tryz.func3, Tryz.ntmps3
    go_wp2_with (go_at_call 8; (with_reducible refine (HL.out _ (Below.refl _ _)).mono ?_); rintro e w1 ⟨rfl, hb1⟩)
    go_ret
    exact ⟨rfl, hb1⟩
  · have b1 : decide ((500 : Int) < (s.size : Int)) = false := decide_eq_false (by omega)
    obtain ⟨r, c, hr⟩ := read_ex s
    have HI := Lib.hid (iread_is s r c (by omega) hr w hG)
    have HR := Lib.hid (rread_is s r c (by omega) hr)
    have he : (r.toList == r.toList) = true := beq_self_eq_true _
    clear hG h5 hr
    go_enter Tryz.func3, Tryz.ntmps3
    go_wp2_with (first
      | (go_at_call 9; (with_reducible refine HI.out.mono ?_); rintro e w1 ⟨rfl, hb1⟩)
      | (go_at_call 10; (with_reducible refine (HR.out _).mono ?_); rintro e w2 ⟨rfl, hb2⟩; have hb3 := hb1.trans (hb2.mono hb1.size))
      | (go_at_call 8; (with_reducible refine (HL.out _ hb3).mono ?_); rintro e w4 ⟨rfl, hb4⟩))
    go_ret
    exact ⟨by first | rfl | exact ret_bool (by simp), hb3.trans (hb4.mono hb3.size)⟩

theorem itoa_len {z : Int} (h : I64 z) : (Lib.itoa z).length ≤ 21 := Lib.itoa_length_le z h.1 h.2
theorem read_size {s r : ByteArray} {c : Int} (h : readI s.data.toList = (r.data.toList, c)) : r.size ≤ 21 := by
  rw [← size_list]
  unfold readI readW at h
  split at h
  · injection h with h _; rw [← h]; exact Nat.zero_le _
  · split at h
    · injection h with h _; rw [← h]; exact Nat.zero_le _
    · rename_i n _
      split at h
      · injection h with h _; rw [← h]; exact Nat.zero_le _
      · rename_i hn
        injection h with h _
        rw [← h]
        refine itoa_len ?_
        unfold I64
        generalize (wayI s.data.toList).2.1 = m at hn ⊢
        cases m <;> simp [signI, limI] at hn ⊢ <;> omega
/-- How the two stand, in either's words. -/
theorem cmp_both (a b : ByteArray) (ha : a.size ≤ 50000) (hb : b.size ≤ 50000) (w : World) (hG : Gl w) : ∃ v : Int,
    (∀ w', Below w.heap.size w w' → Calls Tryz.prog 11 #[.string a, .string b] w' fun e w'' => e = .returned (.int .i64 v) ∧ Below w'.heap.size w' w'') ∧
    ∀ w', Calls Tryz.prog 12 #[.string a, .string b] w' fun e w'' => e = .returned (.int .i64 v) ∧ Below w'.heap.size w' w'' :=
  ⟨cmpO a.data.toList b.data.toList, fun w' h => icmp_is a b (by omega) (by omega) w' (hG.later h), fun w' => by rw [← cmp_eq]; exact rcmp_is a b ha hb w'⟩

set_option maxRecDepth 100000 in
set_option maxHeartbeats 2000000 in
theorem cmplaw_walk (a b : ByteArray) (w : World) (hG : Gl w) :
    Calls Tryz.prog 4 #[.string a, .string b] w fun e w' => e = .returned (.bool true) ∧ Below w.heap.size w w' := by
  have HL := Lib.hid (fun w' (hb : Below w.heap.size w w') => lives_any w' (hG.later hb))
  by_cases h5 : 500 < a.size
  · have b1 : decide ((500 : Int) < (a.size : Int)) = true := decide_eq_true (by omega)
    clear hG h5
    go_enter Tryz.func4, Tryz.ntmps4
    go_wp2_with (go_at_call 8; (with_reducible refine (HL.out _ (Below.refl _ _)).mono ?_); rintro e w1 ⟨rfl, hb1⟩)
    go_ret
    exact ⟨rfl, hb1⟩
  · have b1 : decide ((500 : Int) < (a.size : Int)) = false := decide_eq_false (by omega)
    by_cases h6 : 500 < b.size
    · have b2 : decide ((500 : Int) < (b.size : Int)) = true := decide_eq_true (by omega)
      clear hG h5 h6
      go_enter Tryz.func4, Tryz.ntmps4
      go_wp2_with (go_at_call 8; (with_reducible refine (HL.out _ (Below.refl _ _)).mono ?_); rintro e w1 ⟨rfl, hb1⟩)
      go_ret
      exact ⟨rfl, hb1⟩
    · have b2 : decide ((500 : Int) < (b.size : Int)) = false := decide_eq_false (by omega)
      obtain ⟨x, c, hx⟩ := read_ex a
      obtain ⟨y, d, hy⟩ := read_ex b
      have hxz := read_size hx
      have hyz := read_size hy
      have HX := Lib.hid (rread_is a x c (by omega) hx)
      have HY := Lib.hid (rread_is b y d (by omega) hy)
      obtain ⟨u, hu1, hu2⟩ := cmp_both a b (by omega) (by omega) w hG
      obtain ⟨v, hv1, hv2⟩ := cmp_both x y (by omega) (by omega) w hG
      have U1 := Lib.hid hu1
      have U2 := Lib.hid hu2
      have V1 := Lib.hid hv1
      have V2 := Lib.hid hv2
      have HB : Hid (Below w.heap.size w w) := Below.refl _ _
      clear hG h5 h6 hx hy hu1 hu2 hv1 hv2
      go_enter Tryz.func4, Tryz.ntmps4
      go_wp2_with (first
        | (go_at_call 10; (first | (with_reducible refine (HX.out _).mono ?_) | (with_reducible refine (HY.out _).mono ?_)); rintro e w' ⟨rfl, hb'⟩; replace HB := Lib.hid (HB.out.trans (hb'.mono HB.out.size)); clear hb')
        | (go_at_call 11; (first | (with_reducible refine (U1.out _ HB.out).mono ?_) | (with_reducible refine (V1.out _ HB.out).mono ?_)); rintro e w' ⟨rfl, hb'⟩; replace HB := Lib.hid (HB.out.trans (hb'.mono HB.out.size)); clear hb')
        | (go_at_call 12; (first | (with_reducible refine (U2.out _).mono ?_) | (with_reducible refine (V2.out _).mono ?_)); rintro e w' ⟨rfl, hb'⟩; replace HB := Lib.hid (HB.out.trans (hb'.mono HB.out.size)); clear hb')
        | (go_at_call 8; (with_reducible refine (HL.out _ HB.out).mono ?_); rintro e w' ⟨rfl, hb'⟩; replace HB := Lib.hid (HB.out.trans (hb'.mono HB.out.size)); clear hb'))
      go_ret
      exact ⟨by first | rfl | exact ret_bool (by simp), HB.out⟩

theorem itoa_head {z : Int} {c : UInt8} {l : List UInt8} (h : Lib.itoa z = c :: l) : (c = 45 ∨ dgB c = true) ∧ ∀ d ∈ l, dgB d = true := by
  by_cases hz : z < 0
  · rw [itoa_neg hz] at h
    injection h with h1 h2
    exact ⟨.inl h1.symm, fun d hd => dec_dg z.natAbs d (by rw [h2]; exact hd)⟩
  · rw [itoa_pos hz] at h
    exact ⟨.inr (dec_dg z.natAbs c (by rw [h]; simp)), fun d hd => dec_dg z.natAbs d (by rw [h]; simp [hd])⟩
theorem cmp_none_l {l m : List UInt8} (h : numO l = none) : cmpO l m = 0 := by unfold cmpO; rw [h]
theorem cmp_none_r {l m : List UInt8} (h : numO m = none) : cmpO l m = 0 := by unfold cmpO; rw [h]; cases numO l <;> rfl
theorem num_plus (l : List UInt8) : numO (43 :: l) = none := num_none fun z _ e => by
  rcases (itoa_head e.symm).1 with h | h <;> cases h
theorem num_0x1 : numO [48, 120, 49] = none := num_none fun z _ e => by
  have := (itoa_head e.symm).2 120 (by simp)
  cases this
theorem num_nil : numO [] = none := num_none fun z _ e => by
  have := congrArg List.length e
  unfold Lib.itoa at this
  split at this
  · simp at this
  · exact dec_ne _ (List.length_eq_zero_iff.1 this.symm)
theorem num_long {l : List UInt8} (h : 22 ≤ l.length) : numO l = none := num_none fun z hz e => by
  have := itoa_len hz
  rw [← e] at this
  omega
theorem cmp_itoa {a b : Int} (ha : I64 a) (hb : I64 b) : cmpO (Lib.itoa a) (Lib.itoa b) = cmpZ a b := by
  unfold cmpO; rw [(num_iff _ a).2 ⟨ha, rfl⟩, (num_iff _ b).2 ⟨hb, rfl⟩]

set_option maxRecDepth 100000 in
set_option maxHeartbeats 4000000 in
theorem orderlaw_walk (a b : Int) (ha : I64 a) (hb : I64 b) (w : World) (hG : Gl w) :
    Calls Tryz.prog 5 #[.int .i64 a, .int .i64 b] w fun e w' => e = .returned (.bool true) ∧ Below w.heap.size w w' := by
  obtain ⟨x, hx⟩ := str_ex (Lib.itoa a)
  obtain ⟨y, hy⟩ := str_ex (Lib.itoa b)
  have hxz : x.size ≤ 21 := by rw [← size_list, hx]; exact itoa_len ha
  have hyz : y.size ≤ 21 := by rw [← size_list, hy]; exact itoa_len hb
  have con : ∀ (s t : ByteArray) (v : Int), s.size ≤ 1000 → t.size ≤ 1000 → cmpO s.data.toList t.data.toList = v → ∀ w', Below w.heap.size w w' →
      Calls Tryz.prog 11 #[.string s, .string t] w' fun e w'' => e = .returned (.int .i64 v) ∧ Below w'.heap.size w' w'' := fun s t v h1 h2 h3 w' h => by
    rw [← h3]; exact icmp_is s t (by omega) (by omega) w' (hG.later h)
  have HL := Lib.hid (fun w' (hb : Below w.heap.size w w') => lives_any w' (hG.later hb))
  have FX := Lib.hid (fun w' (hb : Below w.heap.size w w') => fmt_is a ha x hx w' (hG.later hb).tab)
  have FY := Lib.hid (fun w' (h : Below w.heap.size w w') => fmt_is b hb y hy w' (hG.later h).tab)
  have K1 := Lib.hid (con x y (cmpZ a b) (by omega) (by omega) (by rw [hx, hy]; exact cmp_itoa ha hb))
  have K2 := Lib.hid (con y x (cmpZ b a) (by omega) (by omega) (by rw [hx, hy]; exact cmp_itoa hb ha))
  have K3 := Lib.hid (con (⟨#[43]⟩ ++ x) y 0 (by rw [ByteArray.size_append, show (⟨#[43]⟩ : ByteArray).size = 1 from rfl]; omega) (by omega) (cmp_none_l (by rw [app_list]; exact num_plus _)))
  have K4 := Lib.hid (con x ⟨#[48, 120, 49]⟩ 0 (by omega) (by decide) (cmp_none_r num_0x1))
  have K5 := Lib.hid (con x (y ++ ⟨#[48, 48, 48, 48, 48, 48, 48, 48, 48, 48, 48, 48, 48, 48, 48, 48, 48, 48, 48, 48, 48, 48]⟩) 0 (by omega) (by rw [ByteArray.size_append, show (⟨#[48, 48, 48, 48, 48, 48, 48, 48, 48, 48, 48, 48, 48, 48, 48, 48, 48, 48, 48, 48, 48, 48]⟩ : ByteArray).size = 22 from rfl]; omega)
    (cmp_none_r (num_long (by rw [app_list, List.length_append]; exact Nat.le_add_left 22 _))))
  have K6 := Lib.hid (con ⟨#[]⟩ x 0 (by decide) (by omega) (cmp_none_l num_nil))
  have KC := Lib.hid compare_is
  have z22 : (⟨#[48, 48, 48, 48, 48, 48, 48, 48, 48, 48, 48, 48, 48, 48, 48, 48, 48, 48, 48, 48, 48, 48]⟩ : ByteArray).size = 22 := rfl
  have z1 : (⟨#[43]⟩ : ByteArray).size = 1 := rfl
  have HB : Hid (Below w.heap.size w w) := Below.refl _ _
  clear hx hy con hG ha hb
  go_enter Tryz.func5, Tryz.ntmps5
  go_wp2_with (first
    | (go_at_call 13; (first | (with_reducible refine (FX.out _ HB.out).mono ?_) | (with_reducible refine (FY.out _ HB.out).mono ?_)); rintro e w' ⟨rfl, hb'⟩; replace HB := Lib.hid (HB.out.trans (hb'.mono HB.out.size)); clear hb')
    | (go_at_call 14; (with_reducible refine (KC.out _ _ _).mono ?_); rintro e w' ⟨rfl, rfl⟩)
    | (go_at_call 11; (first | (with_reducible refine (K1.out _ HB.out).mono ?_) | (with_reducible refine (K2.out _ HB.out).mono ?_) | (with_reducible refine (K3.out _ HB.out).mono ?_) | (with_reducible refine (K4.out _ HB.out).mono ?_) | (with_reducible refine (K5.out _ HB.out).mono ?_) | (with_reducible refine (K6.out _ HB.out).mono ?_)); rintro e w' ⟨rfl, hb'⟩; replace HB := Lib.hid (HB.out.trans (hb'.mono HB.out.size)); clear hb')
    | (go_at_call 8; (with_reducible refine (HL.out _ HB.out).mono ?_); rintro e w' ⟨rfl, hb'⟩; replace HB := Lib.hid (HB.out.trans (hb'.mono HB.out.size)); clear hb'))
  go_ret
  exact ⟨by first | rfl | exact ret_bool (by simp), HB.out⟩

end Go.Proofs.YtghjiddcbbnhpaaGreatDoor
