/- Walks over package tquotes: Long, open; no statement of the seat is proved here. -/
import Derived.Test.YtflfedfghnnaeaaDoorTqG
namespace Go.Proofs.YtflfedfghnnaeaaDoor
open Go.RowKit

theorem drop_bt {l : List UInt8} {i : Nat} {c : UInt8} (h : bt l i = c.toNat) : l.drop i = c :: l.drop (i + 1) := by
  have hi : i < l.length := bt_lt_of (by rw [h]; have := c.toNat_lt; omega)
  rw [List.drop_eq_getElem_cons hi]
  rw [bt_lt hi] at h
  rw [UInt8.toNat_inj.1 h]
theorem take3_bt (l : List UInt8) (i : Nat) (c : UInt8) : decide ((l.drop i).take 3 = [c, c, c]) = (decide (bt l i = c.toNat) && (decide (bt l (i + 1) = c.toNat) && decide (bt l (i + 2) = c.toNat))) := by
  rw [Bool.eq_iff_iff]
  simp only [Bool.and_eq_true, decide_eq_true_iff]
  constructor
  · intro h
    have h0 : l.drop i = c :: (l.drop i).tail := by
      cases hd : l.drop i with
      | nil => rw [hd] at h; cases h
      | cons x r => rw [hd] at h; injection h with h1 _; rw [h1]; rfl
    obtain ⟨h1i, h1, h2⟩ := drop_cons h0
    have e1 : (l.drop i).tail = l.drop (i + 1) := h2.symm
    rw [h0, e1] at h
    have h' : (l.drop (i + 1)).take 2 = [c, c] := by injection h
    have h3 : l.drop (i + 1) = c :: (l.drop (i + 1)).tail := by
      cases hd : l.drop (i + 1) with
      | nil => rw [hd] at h'; cases h'
      | cons x r => rw [hd] at h'; injection h' with h1 _; rw [h1]; rfl
    obtain ⟨h4i, h4, h5⟩ := drop_cons h3
    have e2 : (l.drop (i + 1)).tail = l.drop (i + 2) := h5.symm
    rw [h3, e2] at h'
    have h'' : (l.drop (i + 2)).take 1 = [c] := by injection h'
    refine ⟨by rw [bt_lt h1i, h1], by rw [bt_lt h4i, h4], ?_⟩
    have := take1_bt l (i + 2) c
    rw [decide_eq_true h''] at this
    exact of_decide_eq_true this.symm
  · rintro ⟨h1, h2, h3⟩
    rw [drop_bt h1, drop_bt h2, drop_bt h3]
    rfl
theorem longT_eq (l : List UInt8) (i : Nat) : longT l i = (decide ((l.drop i).take 3 = [34, 34, 34]) || decide ((l.drop i).take 3 = [39, 39, 39])) := by
  have h1 := take3_bt l i 34
  have h2 := take3_bt l i 39
  rw [h1, h2]
  unfold longT
  rw [Bool.eq_iff_iff]
  simp
  constructor
  · rintro ⟨⟨h | h, h'⟩, h''⟩
    · left; rw [h] at h' h''; exact ⟨h, h', h''⟩
    · right; rw [h] at h' h''; exact ⟨h, h', h''⟩
  · rintro (⟨h, h', h''⟩ | ⟨h, h', h''⟩)
    · rw [h, h', h'']; simp
    · rw [h, h', h'']; simp

set_option maxHeartbeats 1000000 in
theorem long_is (s : ByteArray) (i : Nat) (hi : i ≤ s.size) (hs : s.size ≤ 1073741000) (b : Bool) (hb : longT s.data.toList i = b) (w : World) :
    Calls Tryd.prog 32 #[.string s, .int .i64 (i : Int)] w fun e w' => e = .returned (.bool b) ∧ w = w' := by
  obtain ⟨x, hx⟩ : ∃ x, decide ((s.data.toList.drop i).take 3 = [34, 34, 34]) = x := ⟨_, rfl⟩
  obtain ⟨y, hy⟩ : ∃ y, decide ((s.data.toList.drop i).take 3 = [39, 39, 39]) = y := ⟨_, rfl⟩
  rw [longT_eq, hx, hy] at hb
  subst hb
  have HX := Lib.hid (fun w1 => has_is (s.extract i s.size) ⟨#[34, 34, 34]⟩ x (by rw [ext_end]; exact hx) (by rw [ByteArray.size_extract]; omega) (by decide) w1)
  have HY := Lib.hid (fun w1 => has_is (s.extract i s.size) ⟨#[39, 39, 39]⟩ y (by rw [ext_end]; exact hy) (by rw [ByteArray.size_extract]; omega) (by decide) w1)
  clear hx hy
  have hiI : (i : Int) ≤ (s.size : Int) := by omega
  go_enter Tryd.func32, Tryd.ntmps32
  go_wp2_with fail
  refine (HX.out _).mono ?_
  rintro e w1 ⟨rfl, rfl⟩
  cases x
  · go_wp2_with fail
    refine (HY.out _).mono ?_
    rintro e w1 ⟨rfl, rfl⟩
    go_wp2
    go_ret
    exact ⟨by cases y <;> rfl, rfl⟩
  · go_wp2
    go_ret
    exact ⟨rfl, rfl⟩

theorem RI.made (w : World) (s : ByteArray) (i q : Nat) (Pr : Nat → Prop) (hP : ∀ k, Pr k → k < w.heap.size) : RI (w.alloc (.cells #[.string s, .int .i64 (i : Int), .int .u8 (q : Int), .slice none 0 0] 76)) w.heap.size s i q [] Pr :=
  ⟨none, 0, 0, heap_new1 w _, OwnB.nil _ _, fun k hk => ⟨by have := hP k hk; omega, by have := hP k hk; simp; omega, by simp [Value.ownBlock]⟩⟩

set_option maxRecDepth 100000 in
set_option maxHeartbeats 1000000 in
theorem open_short (s : ByteArray) (i : Nat) (hin : i < s.size) (hs : s.size ≤ 1073741000) (q : Nat) (hq : s[i].toNat = q) (hq2 : q = 34 ∨ q = 39) (hl : longT s.data.toList i = false) (Pr : Nat → Prop) (w : World) (hP : ∀ k, Pr k → k < w.heap.size) :
    Calls Tryd.prog 31 #[.string s, .int .i64 (i : Int)] w fun e w' => e = .returned (.tuple #[.pointer (some ⟨w.heap.size, 0, none⟩), .iface (if q = 34 then 95 else 94) (.agg #[.pointer (some ⟨w.heap.size, 0, none⟩)])]) ∧ RI w' w.heap.size s (i + 1) q [] Pr ∧ Below w.heap.size w w' := by
  subst hq
  have hRI := Lib.hid (RI.made w s (i + 1) s[i].toNat Pr hP)
  have HL := Lib.hid (fun w1 => long_is s i (by omega) hs false hl w1)
  have hi1 : (i : Int) < s.size := by omega
  clear hl
  rcases hq2 with hq | hq
  · have b39 : ((s[i].toNat : Int) == 39) = false := by simp; omega
    rw [if_pos hq]
    clear hq
    go_enter Tryd.func31, Tryd.ntmps31
    go_wp2_with (go_at_call 32; refine (HL.out _).mono ?_; rintro e w1 ⟨rfl, rfl⟩)
    go_ret2
    exact ⟨rfl, hRI.out, below_new1 _ _⟩
  · have b39 : ((s[i].toNat : Int) == 39) = true := by simp; omega
    rw [if_neg (by omega)]
    clear hq
    go_enter Tryd.func31, Tryd.ntmps31
    go_wp2_with (go_at_call 32; refine (HL.out _).mono ?_; rintro e w1 ⟨rfl, rfl⟩)
    go_ret2
    exact ⟨rfl, hRI.out, below_new1 _ _⟩

set_option maxRecDepth 100000 in
set_option maxHeartbeats 1000000 in
theorem open_long (s : ByteArray) (i : Nat) (hin : i < s.size) (hs : s.size ≤ 1073741000) (q : Nat) (hq : s[i].toNat = q) (hq2 : q = 34 ∨ q = 39) (hl : longT s.data.toList i = true) (Pr : Nat → Prop) (w : World) (hP : ∀ k, Pr k → k < w.heap.size) :
    Calls Tryd.prog 31 #[.string s, .int .i64 (i : Int)] w fun e w' => e = .returned (.tuple #[.pointer (some ⟨w.heap.size, 0, none⟩), .iface (if q = 34 then 97 else 96) (.agg #[.pointer (some ⟨w.heap.size, 0, none⟩)])]) ∧ RI w' w.heap.size s (i + 3) q [] Pr ∧ Below w.heap.size w w' := by
  subst hq
  have hRI := Lib.hid (RI.made w s (i + 3) s[i].toNat Pr hP)
  have HL := Lib.hid (fun w1 => long_is s i (by omega) hs true hl w1)
  have hi1 : (i : Int) < s.size := by omega
  clear hl
  rcases hq2 with hq | hq
  · have b39 : ((s[i].toNat : Int) == 39) = false := by simp; omega
    rw [if_pos hq]
    clear hq
    go_enter Tryd.func31, Tryd.ntmps31
    go_wp2_with (go_at_call 32; refine (HL.out _).mono ?_; rintro e w1 ⟨rfl, rfl⟩)
    go_ret2
    exact ⟨rfl, hRI.out, below_new1 _ _⟩
  · have b39 : ((s[i].toNat : Int) == 39) = true := by simp; omega
    rw [if_neg (by omega)]
    clear hq
    go_enter Tryd.func31, Tryd.ntmps31
    go_wp2_with (go_at_call 32; refine (HL.out _).mono ?_; rintro e w1 ⟨rfl, rfl⟩)
    go_ret2
    exact ⟨rfl, hRI.out, below_new1 _ _⟩

end Go.Proofs.YtflfedfghnnaeaaDoor
