/- The walk of the law DatesBack; no statement of the seat is proved here. -/
import Derived.Test.YtnoghelkcbjfiaaDoorDtH
import Derived.Test.YtnoghelkcbjfiaaDoorDtJ
namespace Go.Proofs.YtnoghelkcbjfiaaDoor
open Go.RowKit

theorem text_len (d t p z : List UInt8) : (textOf d t p z).length ≤ d.length + t.length + p.length + z.length + 2 := by
  have h1 := rstrip_le p
  have h2 := upZ_len z
  have h3 : (dotP (rstrip p)).length ≤ p.length + 1 := by unfold dotP; split <;> simp <;> omega
  unfold textOf
  simp only [List.length_append, h2]
  split <;> simp <;> omega
theorem read_len (l : List UInt8) : (readD l).1.length ≤ 4 * l.length + 2 := by
  unfold readD
  split
  · simp
  · split
    · have h := text_len ((spl l).dateL l) ((spl l).timeL l) ((spl l).partL l) ((spl l).zoneL l)
      have h1 : ((spl l).dateL l).length ≤ l.length := by
        unfold Parts.dateL; split
        · rw [List.length_take]; omega
        · simp
      have h2 : ((spl l).timeL l).length ≤ l.length := by
        unfold Parts.timeL; split
        · rw [List.length_take, List.length_drop]; omega
        · simp
      have h3 : ((spl l).partL l).length ≤ l.length := by unfold Parts.partL; rw [List.length_take, List.length_drop]; omega
      have h4 : ((spl l).zoneL l).length ≤ l.length := by unfold Parts.zoneL; rw [List.length_take, List.length_drop]; omega
      show (textL l).length ≤ _
      unfold textL
      omega
    · simp

theorem code_cases (l : List UInt8) : ((readD l).2 = 3 ∧ ((spl l).long = 0 ∨ (spl l).long < l.length)) ∨ (((readD l).2 = 0 ∨ (readD l).2 = 9) ∧ (spl l).long = l.length ∧ (spl l).long ≠ 0) := by
  have := long_le l
  by_cases h : (spl l).long = 0 ∨ (spl l).long < l.length
  · rw [readD_syn h]; exact .inl ⟨rfl, h⟩
  · refine .inr ⟨?_, by omega, by omega⟩
    cases hm : mayL l
    · rw [readD_bad (by omega) (by omega) hm]; exact .inr rfl
    · rw [readD_ok (by omega) (by omega) hm]; exact .inl rfl
/-- The code of a beginning, by its length. -/
theorem code_take (l : List UInt8) (i : Nat) (h1 : 1 ≤ i) (hi : i ≤ l.length) : (i = (spl l).long → (readD (l.take i)).2 ≠ 3) ∧ ((spl l).long < i → (readD (l.take i)).2 = 3) := by
  have hl : (l.take i).length = i := by rw [List.length_take]; omega
  constructor
  · intro e
    have := long_take l (by omega)
    rw [← e] at this
    rcases code_cases (l.take i) with ⟨_, h⟩ | ⟨h, _⟩
    · omega
    · rcases h with h | h <;> rw [h] <;> decide
  · intro h
    have := long_over l hi h
    rcases code_cases (l.take i) with ⟨h3, _⟩ | ⟨_, h4, h5⟩
    · exact h3
    · omega

/-- The loop of DatesBack and what stands behind: what a round leans on. -/
theorem back_round (s : ByteArray) (hs : s.size ≤ 60) (n k : Nat) (hn : (spl s.data.toList).long = n) (h1 : 1 ≤ k) (hk : k ≤ s.size) :
    ∃ (r : ByteArray) (c : Int), (∀ w, Calls Tryd.prog 7 #[.string (s.extract 0 k)] w fun x w' => x = .returned (.tuple #[.string r, .int .i64 c]) ∧ Below w.heap.size w w') ∧ (k = n → c ≠ 3) ∧ (n < k → c = 3) := by
  obtain ⟨r, hr⟩ := str_ex (readD (s.extract 0 k).data.toList).1
  have he : (s.extract 0 k).data.toList = s.data.toList.take k := by rw [ext_list]; rfl
  have := code_take s.data.toList k h1 hk
  rw [hn, ← he] at this
  exact ⟨r, _, fun w => iread_at _ r _ (by rw [ByteArray.size_extract]; omega) (by rw [hr]) w, this.1, this.2⟩

set_option maxRecDepth 100000 in
set_option maxHeartbeats 4000000 in
theorem back_a (s : ByteArray) (hs : s.size ≤ 60) (h0 : 0 < s.size) (R1 : Hid (∀ w, Calls Tryd.prog 7 #[.string s] w fun x w' => x = .returned (.tuple #[.string s, .int .i64 0]) ∧ Below w.heap.size w w')) (L1 : Hid (∀ w, Calls Tryd.prog 12 #[.string s] w fun x w' => x = .returned (.int .i64 (s.size : Int)) ∧ Below w.heap.size w w')) (I1 : Hid (∀ w, Calls Tryd.prog 10 #[.string s, .string s] w fun x w' => x = .returned (.bool true) ∧ Below w.heap.size w w')) (k1 : Nat) (b0 : ((k1 : Int) == 0) = false) (O1 : Hid (∀ w, Calls Tryd.prog 11 #[.string s] w fun x w' => x = .returned (.int .u8 (k1 : Int)) ∧ Below w.heap.size w w')) (hround : ∀ k, 1 ≤ k → k ≤ s.size → ∃ (r' : ByteArray) (c' : Int), (∀ w, Calls Tryd.prog 7 #[.string (s.extract 0 k)] w fun x w' => x = .returned (.tuple #[.string r', .int .i64 c']) ∧ Below w.heap.size w w') ∧ (k = s.size → c' ≠ 3) ∧ (s.size < k → c' = 3)) (w : World) :
    Calls Tryd.prog 4 #[.string s] w fun e w' => e = .returned (.bool true) ∧ Below w.heap.size w w' := by
  have b9 : ((k1 : Int) != 0) = true := by rw [bne, b0]; rfl
  have b8 : (s.toList == s.toList) = true := by simp
  have HB : Hid (Below w.heap.size w w) := Below.refl _ _
  go_enter Tryd.func4, Tryd.ntmps4
  go_wp2_with (first
    | (go_at_call 7; (with_reducible refine (R1.out _).mono ?_); rintro x w' ⟨rfl, hb'⟩; replace HB := Lib.hid (HB.out.trans (hb'.mono HB.out.size)); clear hb')
    | (go_at_call 10; (with_reducible refine (I1.out _).mono ?_); rintro x w' ⟨rfl, hb'⟩; replace HB := Lib.hid (HB.out.trans (hb'.mono HB.out.size)); clear hb')
    | (go_at_call 11; (with_reducible refine (O1.out _).mono ?_); rintro x w' ⟨rfl, hb'⟩; replace HB := Lib.hid (HB.out.trans (hb'.mono HB.out.size)); clear hb')
    | (go_at_call 12; (with_reducible refine (L1.out _).mono ?_); rintro x w' ⟨rfl, hb'⟩; replace HB := Lib.hid (HB.out.trans (hb'.mono HB.out.size)); clear hb'))
  go_loopg [6] s.size (fun g s6 wr => ∃ k : Nat, s6 = .int .i64 k ∧ 1 ≤ k ∧ k ≤ s.size + 1 ∧ Hid (g = s.size + 1 - k) ∧ Hid (Below w.heap.size w wr))
  case atStart => exact ⟨1, rfl, by omega, by omega, rfl, HB.out⟩
  case round =>
    obtain ⟨k, rfl, hk1, hk2, hg, HW⟩ := hrel
    by_cases hlt : k ≤ s.size
    · obtain ⟨r', c', hR', h3, h4⟩ := hround k hk1 hlt
      have HR' := Lib.hid hR'; clear hR'
      rcases Nat.lt_trichotomy k s.size with hkn | hkn | hkn
      · have b1 : ((k : Int) == s.size) = false := by simp; omega
        have b2 : decide ((s.size : Int) < (k : Int)) = false := by simp; omega
        clear h3 h4
        go_wp2_with (go_at_call 7; (with_reducible refine (HR'.out _).mono ?_); rintro x w5 ⟨rfl, hb5⟩)
        go_roundg (s.size - k)
        case measure => have := hg.out; omega
        case rel => exact ⟨k + 1, by go_num, by omega, by omega, by show _ = _; omega, HW.out.trans (hb5.mono HW.out.size)⟩
      · have b1 : ((k : Int) == s.size) = true := by simp; omega
        have b2 : decide ((s.size : Int) < (k : Int)) = false := by simp; omega
        have b3 : (c' == 3) = false := by simpa using h3 hkn
        clear h3 h4 hkn
        go_wp2_with (go_at_call 7; (with_reducible refine (HR'.out _).mono ?_); rintro x w5 ⟨rfl, hb5⟩)
        go_roundg (s.size - k)
        case measure => have := hg.out; omega
        case rel => exact ⟨k + 1, by go_num, by omega, by omega, by show _ = _; omega, HW.out.trans (hb5.mono HW.out.size)⟩
      · have b1 : ((k : Int) == s.size) = false := by simp; omega
        have b2 : decide ((s.size : Int) < (k : Int)) = true := by simp; omega
        have b3 : (c' == 3) = true := by simpa using h4 hkn
        have b4 : (c' != 3) = false := by rw [bne, b3]; rfl
        clear h3 h4
        go_wp2_with (go_at_call 7; (with_reducible refine (HR'.out _).mono ?_); rintro x w5 ⟨rfl, hb5⟩)
        go_roundg (s.size - k)
        case measure => have := hg.out; omega
        case rel => exact ⟨k + 1, by go_num, by omega, by omega, by show _ = _; omega, HW.out.trans (hb5.mono HW.out.size)⟩
    · go_wp2_with (go_at_call 9; (with_reducible refine (lives_any _).mono ?_); rintro x w5 ⟨rfl, hb5⟩)
      go_ret
      exact ⟨rfl, HW.out.trans (hb5.mono HW.out.size)⟩

set_option maxRecDepth 100000 in
set_option maxHeartbeats 4000000 in
theorem back_b (s : ByteArray) (hs : s.size ≤ 60) (h0 : 0 < s.size) (r : ByteArray) (hne : s.data.toList ≠ r.data.toList) (R1 : Hid (∀ w, Calls Tryd.prog 7 #[.string s] w fun x w' => x = .returned (.tuple #[.string r, .int .i64 0]) ∧ Below w.heap.size w w')) (L1 : Hid (∀ w, Calls Tryd.prog 12 #[.string s] w fun x w' => x = .returned (.int .i64 (s.size : Int)) ∧ Below w.heap.size w w')) (I1 : Hid (∀ w, Calls Tryd.prog 10 #[.string r, .string r] w fun x w' => x = .returned (.bool true) ∧ Below w.heap.size w w')) (k1 : Nat) (b0 : ((k1 : Int) == 0) = false) (O1 : Hid (∀ w, Calls Tryd.prog 11 #[.string r] w fun x w' => x = .returned (.int .u8 (k1 : Int)) ∧ Below w.heap.size w w')) (O2 : Hid (∀ w, Calls Tryd.prog 11 #[.string s] w fun x w' => x = .returned (.int .u8 0) ∧ Below w.heap.size w w')) (hround : ∀ k, 1 ≤ k → k ≤ s.size → ∃ (r' : ByteArray) (c' : Int), (∀ w, Calls Tryd.prog 7 #[.string (s.extract 0 k)] w fun x w' => x = .returned (.tuple #[.string r', .int .i64 c']) ∧ Below w.heap.size w w') ∧ (k = s.size → c' ≠ 3) ∧ (s.size < k → c' = 3)) (w : World) :
    Calls Tryd.prog 4 #[.string s] w fun e w' => e = .returned (.bool true) ∧ Below w.heap.size w w' := by
  have b8 := beq_str hne
  clear hne
  have HB : Hid (Below w.heap.size w w) := Below.refl _ _
  go_enter Tryd.func4, Tryd.ntmps4
  go_wp2_with (first
    | (go_at_call 7; (with_reducible refine (R1.out _).mono ?_); rintro x w' ⟨rfl, hb'⟩; replace HB := Lib.hid (HB.out.trans (hb'.mono HB.out.size)); clear hb')
    | (go_at_call 10; (with_reducible refine (I1.out _).mono ?_); rintro x w' ⟨rfl, hb'⟩; replace HB := Lib.hid (HB.out.trans (hb'.mono HB.out.size)); clear hb')
    | (go_at_call 11; (first | (with_reducible refine (O1.out _).mono ?_) | (with_reducible refine (O2.out _).mono ?_)); rintro x w' ⟨rfl, hb'⟩; replace HB := Lib.hid (HB.out.trans (hb'.mono HB.out.size)); clear hb')
    | (go_at_call 12; (with_reducible refine (L1.out _).mono ?_); rintro x w' ⟨rfl, hb'⟩; replace HB := Lib.hid (HB.out.trans (hb'.mono HB.out.size)); clear hb'))
  go_loopg [6] s.size (fun g s6 wr => ∃ k : Nat, s6 = .int .i64 k ∧ 1 ≤ k ∧ k ≤ s.size + 1 ∧ Hid (g = s.size + 1 - k) ∧ Hid (Below w.heap.size w wr))
  case atStart => exact ⟨1, rfl, by omega, by omega, rfl, HB.out⟩
  case round =>
    obtain ⟨k, rfl, hk1, hk2, hg, HW⟩ := hrel
    by_cases hlt : k ≤ s.size
    · obtain ⟨r', c', hR', h3, h4⟩ := hround k hk1 hlt
      have HR' := Lib.hid hR'; clear hR'
      rcases Nat.lt_trichotomy k s.size with hkn | hkn | hkn
      · have b1 : ((k : Int) == s.size) = false := by simp; omega
        have b2 : decide ((s.size : Int) < (k : Int)) = false := by simp; omega
        clear h3 h4
        go_wp2_with (go_at_call 7; (with_reducible refine (HR'.out _).mono ?_); rintro x w5 ⟨rfl, hb5⟩)
        go_roundg (s.size - k)
        case measure => have := hg.out; omega
        case rel => exact ⟨k + 1, by go_num, by omega, by omega, by show _ = _; omega, HW.out.trans (hb5.mono HW.out.size)⟩
      · have b1 : ((k : Int) == s.size) = true := by simp; omega
        have b2 : decide ((s.size : Int) < (k : Int)) = false := by simp; omega
        have b3 : (c' == 3) = false := by simpa using h3 hkn
        clear h3 h4 hkn
        go_wp2_with (go_at_call 7; (with_reducible refine (HR'.out _).mono ?_); rintro x w5 ⟨rfl, hb5⟩)
        go_roundg (s.size - k)
        case measure => have := hg.out; omega
        case rel => exact ⟨k + 1, by go_num, by omega, by omega, by show _ = _; omega, HW.out.trans (hb5.mono HW.out.size)⟩
      · have b1 : ((k : Int) == s.size) = false := by simp; omega
        have b2 : decide ((s.size : Int) < (k : Int)) = true := by simp; omega
        have b3 : (c' == 3) = true := by simpa using h4 hkn
        have b4 : (c' != 3) = false := by rw [bne, b3]; rfl
        clear h3 h4
        go_wp2_with (go_at_call 7; (with_reducible refine (HR'.out _).mono ?_); rintro x w5 ⟨rfl, hb5⟩)
        go_roundg (s.size - k)
        case measure => have := hg.out; omega
        case rel => exact ⟨k + 1, by go_num, by omega, by omega, by show _ = _; omega, HW.out.trans (hb5.mono HW.out.size)⟩
    · go_wp2_with (go_at_call 9; (with_reducible refine (lives_any _).mono ?_); rintro x w5 ⟨rfl, hb5⟩)
      go_ret
      exact ⟨rfl, HW.out.trans (hb5.mono HW.out.size)⟩

set_option maxRecDepth 100000 in
set_option maxHeartbeats 4000000 in
theorem back_c (s : ByteArray) (hs : s.size ≤ 60) (n : Nat) (hn : n < s.size) (r : ByteArray) (R1 : Hid (∀ w, Calls Tryd.prog 7 #[.string s] w fun x w' => x = .returned (.tuple #[.string r, .int .i64 3]) ∧ Below w.heap.size w w')) (L1 : Hid (∀ w, Calls Tryd.prog 12 #[.string s] w fun x w' => x = .returned (.int .i64 (n : Int)) ∧ Below w.heap.size w w')) (hround : ∀ k, 1 ≤ k → k ≤ s.size → ∃ (r' : ByteArray) (c' : Int), (∀ w, Calls Tryd.prog 7 #[.string (s.extract 0 k)] w fun x w' => x = .returned (.tuple #[.string r', .int .i64 c']) ∧ Below w.heap.size w w') ∧ (k = n → c' ≠ 3) ∧ (n < k → c' = 3)) (w : World) :
    Calls Tryd.prog 4 #[.string s] w fun e w' => e = .returned (.bool true) ∧ Below w.heap.size w w' := by
  have b7 : ((n : Int) == (s.size : Int)) = false := by simp; omega
  have b6 : decide (s.size < n) = false := by simp; omega
  have HB : Hid (Below w.heap.size w w) := Below.refl _ _
  go_enter Tryd.func4, Tryd.ntmps4
  go_wp2_with (first
    | (go_at_call 7; (with_reducible refine (R1.out _).mono ?_); rintro x w' ⟨rfl, hb'⟩; replace HB := Lib.hid (HB.out.trans (hb'.mono HB.out.size)); clear hb')
    | (go_at_call 12; (with_reducible refine (L1.out _).mono ?_); rintro x w' ⟨rfl, hb'⟩; replace HB := Lib.hid (HB.out.trans (hb'.mono HB.out.size)); clear hb'))
  go_loopg [6] s.size (fun g s6 wr => ∃ k : Nat, s6 = .int .i64 k ∧ 1 ≤ k ∧ k ≤ s.size + 1 ∧ Hid (g = s.size + 1 - k) ∧ Hid (Below w.heap.size w wr))
  case atStart => exact ⟨1, rfl, by omega, by omega, rfl, HB.out⟩
  case round =>
    obtain ⟨k, rfl, hk1, hk2, hg, HW⟩ := hrel
    by_cases hlt : k ≤ s.size
    · obtain ⟨r', c', hR', h3, h4⟩ := hround k hk1 hlt
      have HR' := Lib.hid hR'; clear hR'
      rcases Nat.lt_trichotomy k n with hkn | hkn | hkn
      · have b1 : ((k : Int) == n) = false := by simp; omega
        have b2 : decide ((n : Int) < (k : Int)) = false := by simp; omega
        clear h3 h4
        go_wp2_with (go_at_call 7; (with_reducible refine (HR'.out _).mono ?_); rintro x w5 ⟨rfl, hb5⟩)
        go_roundg (s.size - k)
        case measure => have := hg.out; omega
        case rel => exact ⟨k + 1, by go_num, by omega, by omega, by show _ = _; omega, HW.out.trans (hb5.mono HW.out.size)⟩
      · have b1 : ((k : Int) == n) = true := by simp; omega
        have b2 : decide ((n : Int) < (k : Int)) = false := by simp; omega
        have b3 : (c' == 3) = false := by simpa using h3 hkn
        clear h3 h4 hkn
        go_wp2_with (go_at_call 7; (with_reducible refine (HR'.out _).mono ?_); rintro x w5 ⟨rfl, hb5⟩)
        go_roundg (s.size - k)
        case measure => have := hg.out; omega
        case rel => exact ⟨k + 1, by go_num, by omega, by omega, by show _ = _; omega, HW.out.trans (hb5.mono HW.out.size)⟩
      · have b1 : ((k : Int) == n) = false := by simp; omega
        have b2 : decide ((n : Int) < (k : Int)) = true := by simp; omega
        have b3 : (c' == 3) = true := by simpa using h4 hkn
        have b4 : (c' != 3) = false := by rw [bne, b3]; rfl
        clear h3 h4
        go_wp2_with (go_at_call 7; (with_reducible refine (HR'.out _).mono ?_); rintro x w5 ⟨rfl, hb5⟩)
        go_roundg (s.size - k)
        case measure => have := hg.out; omega
        case rel => exact ⟨k + 1, by go_num, by omega, by omega, by show _ = _; omega, HW.out.trans (hb5.mono HW.out.size)⟩
    · go_wp2_with (go_at_call 9; (with_reducible refine (lives_any _).mono ?_); rintro x w5 ⟨rfl, hb5⟩)
      go_ret
      exact ⟨rfl, HW.out.trans (hb5.mono HW.out.size)⟩

set_option maxRecDepth 100000 in
set_option maxHeartbeats 4000000 in
theorem back_d (s : ByteArray) (hs : s.size ≤ 60) (h0 : s.size = 0) (r : ByteArray) (R1 : Hid (∀ w, Calls Tryd.prog 7 #[.string s] w fun x w' => x = .returned (.tuple #[.string r, .int .i64 3]) ∧ Below w.heap.size w w')) (L1 : Hid (∀ w, Calls Tryd.prog 12 #[.string s] w fun x w' => x = .returned (.int .i64 0) ∧ Below w.heap.size w w')) (w : World) :
    Calls Tryd.prog 4 #[.string s] w fun e w' => e = .returned (.bool true) ∧ Below w.heap.size w w' := by
  obtain rfl : s = ⟨#[]⟩ := str_is (List.length_eq_zero_iff.1 h0)
  clear h0 hs
  have HB : Hid (Below w.heap.size w w) := Below.refl _ _
  go_enter Tryd.func4, Tryd.ntmps4
  go_wp2_with (first
    | (go_at_call 7; (with_reducible refine (R1.out _).mono ?_); rintro x w' ⟨rfl, hb'⟩; replace HB := Lib.hid (HB.out.trans (hb'.mono HB.out.size)); clear hb')
    | (go_at_call 12; (with_reducible refine (L1.out _).mono ?_); rintro x w' ⟨rfl, hb'⟩; replace HB := Lib.hid (HB.out.trans (hb'.mono HB.out.size)); clear hb'))
  go_loopg [6] 0 (fun _ s6 wr => s6 = .int .i64 1 ∧ Hid (Below w.heap.size w wr))
  case atStart => exact ⟨rfl, HB.out⟩
  case round =>
    obtain ⟨rfl, HW⟩ := hrel
    go_wp2_with (go_at_call 9; (with_reducible refine (lives_any _).mono ?_); rintro x w5 ⟨rfl, hb5⟩)
    go_ret
    exact ⟨rfl, HW.out.trans (hb5.mono HW.out.size)⟩

set_option maxRecDepth 100000 in
set_option maxHeartbeats 4000000 in
theorem back_e (s : ByteArray) (hs : s.size ≤ 60) (h0 : 0 < s.size) (r : ByteArray) (R1 : Hid (∀ w, Calls Tryd.prog 7 #[.string s] w fun x w' => x = .returned (.tuple #[.string r, .int .i64 9]) ∧ Below w.heap.size w w')) (L1 : Hid (∀ w, Calls Tryd.prog 12 #[.string s] w fun x w' => x = .returned (.int .i64 (s.size : Int)) ∧ Below w.heap.size w w')) (hround : ∀ k, 1 ≤ k → k ≤ s.size → ∃ (r' : ByteArray) (c' : Int), (∀ w, Calls Tryd.prog 7 #[.string (s.extract 0 k)] w fun x w' => x = .returned (.tuple #[.string r', .int .i64 c']) ∧ Below w.heap.size w w') ∧ (k = s.size → c' ≠ 3) ∧ (s.size < k → c' = 3)) (w : World) :
    Calls Tryd.prog 4 #[.string s] w fun e w' => e = .returned (.bool true) ∧ Below w.heap.size w w' := by
  have HB : Hid (Below w.heap.size w w) := Below.refl _ _
  go_enter Tryd.func4, Tryd.ntmps4
  go_wp2_with (first
    | (go_at_call 7; (with_reducible refine (R1.out _).mono ?_); rintro x w' ⟨rfl, hb'⟩; replace HB := Lib.hid (HB.out.trans (hb'.mono HB.out.size)); clear hb')
    | (go_at_call 12; (with_reducible refine (L1.out _).mono ?_); rintro x w' ⟨rfl, hb'⟩; replace HB := Lib.hid (HB.out.trans (hb'.mono HB.out.size)); clear hb'))
  go_loopg [6] s.size (fun g s6 wr => ∃ k : Nat, s6 = .int .i64 k ∧ 1 ≤ k ∧ k ≤ s.size + 1 ∧ Hid (g = s.size + 1 - k) ∧ Hid (Below w.heap.size w wr))
  case atStart => exact ⟨1, rfl, by omega, by omega, rfl, HB.out⟩
  case round =>
    obtain ⟨k, rfl, hk1, hk2, hg, HW⟩ := hrel
    by_cases hlt : k ≤ s.size
    · obtain ⟨r', c', hR', h3, h4⟩ := hround k hk1 hlt
      have HR' := Lib.hid hR'; clear hR'
      rcases Nat.lt_trichotomy k s.size with hkn | hkn | hkn
      · have b1 : ((k : Int) == s.size) = false := by simp; omega
        have b2 : decide ((s.size : Int) < (k : Int)) = false := by simp; omega
        clear h3 h4
        go_wp2_with (go_at_call 7; (with_reducible refine (HR'.out _).mono ?_); rintro x w5 ⟨rfl, hb5⟩)
        go_roundg (s.size - k)
        case measure => have := hg.out; omega
        case rel => exact ⟨k + 1, by go_num, by omega, by omega, by show _ = _; omega, HW.out.trans (hb5.mono HW.out.size)⟩
      · have b1 : ((k : Int) == s.size) = true := by simp; omega
        have b2 : decide ((s.size : Int) < (k : Int)) = false := by simp; omega
        have b3 : (c' == 3) = false := by simpa using h3 hkn
        clear h3 h4 hkn
        go_wp2_with (go_at_call 7; (with_reducible refine (HR'.out _).mono ?_); rintro x w5 ⟨rfl, hb5⟩)
        go_roundg (s.size - k)
        case measure => have := hg.out; omega
        case rel => exact ⟨k + 1, by go_num, by omega, by omega, by show _ = _; omega, HW.out.trans (hb5.mono HW.out.size)⟩
      · have b1 : ((k : Int) == s.size) = false := by simp; omega
        have b2 : decide ((s.size : Int) < (k : Int)) = true := by simp; omega
        have b3 : (c' == 3) = true := by simpa using h4 hkn
        have b4 : (c' != 3) = false := by rw [bne, b3]; rfl
        clear h3 h4
        go_wp2_with (go_at_call 7; (with_reducible refine (HR'.out _).mono ?_); rintro x w5 ⟨rfl, hb5⟩)
        go_roundg (s.size - k)
        case measure => have := hg.out; omega
        case rel => exact ⟨k + 1, by go_num, by omega, by omega, by show _ = _; omega, HW.out.trans (hb5.mono HW.out.size)⟩
    · go_wp2_with (go_at_call 9; (with_reducible refine (lives_any _).mono ?_); rintro x w5 ⟨rfl, hb5⟩)
      go_ret
      exact ⟨rfl, HW.out.trans (hb5.mono HW.out.size)⟩

theorem backlaw_walk (s : ByteArray) (w : World) :
    Calls Tryd.prog 4 #[.string s] w fun e w' => e = .returned (.bool true) ∧ Below w.heap.size w w' := by
  by_cases hbig : 60 < s.size
  · go_enter Tryd.func4, Tryd.ntmps4
    go_wp2_with (go_at_call 9; refine (lives_any _).mono ?_; rintro e w1 ⟨rfl, hb1⟩)
    go_ret
    exact ⟨rfl, hb1⟩
  · have hs : s.size ≤ 60 := by omega
    have hs' : s.size ≤ 549755813888 := by omega
    have hl : s.data.toList.length = s.size := rfl
    obtain ⟨r, hr⟩ := str_ex (readD s.data.toList).1
    obtain ⟨c, hc⟩ : ∃ c, (readD s.data.toList).2 = c := ⟨_, rfl⟩
    obtain ⟨n, hn⟩ : ∃ n, (spl s.data.toList).long = n := ⟨_, rfl⟩
    have hle := long_le s.data.toList
    rw [hn] at hle
    have R1 := fun w => iread_at s r c hs' (by rw [hr, ← hc]) w
    have L1 := fun w => ilong_at s hs' n hn w
    have HRo : ∀ k, 1 ≤ k → k ≤ s.size → _ := fun k h1 h2 => back_round s hs n k hn h1 h2
    rcases code_cases s.data.toList with ⟨h3, h4⟩ | ⟨h3, h4, h5⟩
    · obtain rfl : c = 3 := by rw [← hc]; exact h3
      rw [hn] at h4
      by_cases h0 : n < s.size
      · exact back_c s hs n h0 r R1 L1 HRo w
      · obtain rfl : n = 0 := by omega
        exact back_d s hs (by omega) r R1 L1 w
    · rw [hn] at h4 h5
      obtain rfl : n = s.size := by omega
      rcases h3 with h3 | h3
      · obtain rfl : c = 0 := by rw [← hc]; exact h3
        have hrd : readD s.data.toList = (r.data.toList, 0) := by rw [hr, ← hc]
        have hrr := read_read hrd
        have hrs : r.size ≤ 549755813888 := by
          have h1 : r.data.toList.length = r.size := rfl
          have h2 := read_len s.data.toList
          rw [← hr] at h2; omega
        obtain ⟨k1, hk1⟩ : ∃ k1, ofD r.data.toList = k1 := ⟨_, rfl⟩
        have b0 : ((k1 : Int) == 0) = false := by have := of_pos hrr.1; simp; omega
        have I1 := fun w => is_v r r hrs true (decide_eq_true hrr.1) w
        have O1 := fun w => iof_at r hrs k1 hk1 w
        by_cases he : s.data.toList = r.data.toList
        · obtain rfl := str_of he
          exact back_a s hs (by omega) R1 L1 I1 k1 b0 O1 HRo w
        · have hO : ofD s.data.toList = 0 := by
            rw [ofD, if_neg]; rw [hrd]; intro q; injection q with q _; exact he q.symm
          exact back_b s hs (by omega) r he R1 L1 I1 k1 b0 O1 (fun w => iof_at s hs' 0 hO w) HRo w
      · obtain rfl : c = 9 := by rw [← hc]; exact h3
        exact back_e s hs (by omega) r R1 L1 HRo w

end Go.Proofs.YtnoghelkcbjfiaaDoor
