/- Walks over the reference of chapter 10: plain, Bare, Write; the law TkeysWrite; no statement of the seat is proved here. -/
import Derived.Test.YtflfedfghnnaeaaGreatDoorKyAr
import Derived.Test.YtflfedfghnnaeaaGreatDoorTqV
namespace Go.Proofs.YtflfedfghnnaeaaGreatDoor
open Go.RowKit

def letL : List UInt8 := [97, 98, 99, 100, 101, 102, 103, 104, 105, 106, 107, 108, 109, 110, 111, 112, 113, 114, 115, 116, 117, 118, 119, 120, 121, 122, 65, 66, 67, 68, 69, 70, 71, 72, 73, 74, 75, 76, 77, 78, 79, 80, 81, 82, 83, 84, 85, 86, 87, 88, 89, 90, 48, 49, 50, 51, 52, 53, 54, 55, 56, 57, 95, 45]
theorem let_has : ∀ c : UInt8, bareB c.toNat = letL.contains c := u8_all (by decide +kernel)
set_option maxRecDepth 100000 in
set_option maxHeartbeats 2000000 in
theorem rplain_any (c : UInt8) (w : World) : Calls Tryz.prog 26 #[.int .u8 (c.toNat : Int)] w fun e w' => e = .returned (.bool (bareB c.toNat)) ∧ w = w' := by
  obtain ⟨L, hL⟩ : ∃ L : ByteArray, L = ⟨letL.toArray⟩ := ⟨_, rfl⟩
  have HL : Hid ((⟨#[97, 98, 99, 100, 101, 102, 103, 104, 105, 106, 107, 108, 109, 110, 111, 112, 113, 114, 115, 116, 117, 118, 119, 120, 121, 122, 65, 66, 67, 68, 69, 70, 71, 72, 73, 74, 75, 76, 77, 78, 79, 80, 81, 82, 83, 84, 85, 86, 87, 88, 89, 90, 48, 49, 50, 51, 52, 53, 54, 55, 56, 57, 95, 45]⟩ : ByteArray) = L) := hL.symm
  have hsz : Hid (L.size = 64) := by show _ = _; rw [hL]; rfl
  have hl : ∀ j (h : j < L.size), L[j] ∈ letL := fun j h => by
    have h1 : j < L.data.toList.length := h
    have h2 : L[j] = L.data.toList[j] := rfl
    rw [h2]
    have h3 : L.data.toList = letL := by rw [hL]
    rw [← h3]; exact List.getElem_mem h1
  have hm : ∀ x ∈ letL, ∃ j, ∃ h : j < L.size, L[j] = x := fun x hx => by
    have h3 : L.data.toList = letL := by rw [hL]
    rw [← h3] at hx
    obtain ⟨j, hj, rfl⟩ := List.mem_iff_getElem.1 hx
    exact ⟨j, hj, rfl⟩
  have HLL := Lib.hid hl; have HM := Lib.hid hm
  have hLs : L.size ≤ 64 := by have := hsz.out; omega
  clear hL hl hm
  obtain ⟨bb, hbb⟩ : ∃ bb, bareB c.toNat = bb := ⟨_, rfl⟩
  rw [hbb]
  have HB := Lib.hid hbb; clear hbb
  go_enter Tryz.func26, Tryz.ntmps26
  go_wp2
  rw [HL.out]
  go_loopg [4] 65 (fun q s4 wr => ∃ k : Nat, s4 = .int .i64 (k : Int) ∧ k ≤ L.size ∧ Hid (q = 65 - k) ∧ Hid (∀ j (h : j < L.size), j < k → L[j] ≠ c) ∧ w = wr)
  case atStart => exact ⟨0, rfl, Nat.zero_le _, rfl, fun j h hj => absurd hj (by omega), rfl⟩
  case round =>
    obtain ⟨k, rfl, hk, hq, hno, rfl⟩ := hrel
    by_cases hlt : k < L.size
    · have hki : (k : Int) < (L.size : Int) := by omega
      by_cases heq : L[k] = c
      · have hres : Hid (bb = true) := by
          show _ = _
          rw [← HB.out, let_has]
          have := HLL.out k hlt
          rw [heq] at this
          simpa using this
        have be : ((L[k].toNat : Int) == (c.toNat : Int)) = true := by rw [heq]; simp
        clear heq
        go_wp2
        go_ret
        exact ⟨by rw [hres.out]; rfl, rfl⟩
      · have hne : L[k].toNat ≠ c.toNat := fun e => heq (UInt8.toNat_inj.1 e)
        have be : ((L[k].toNat : Int) == (c.toNat : Int)) = false := by simp; omega
        have hno' : Hid (∀ j (h : j < L.size), j < k + 1 → L[j] ≠ c) := fun j h hj => by
          by_cases hjk : j = k
          · subst hjk; exact heq
          · exact hno.out j h (by omega)
        clear heq hne
        go_wp2
        go_roundg (65 - (k + 1))
        case measure => have := hq.out; have := hsz.out; omega
        case rel => exact ⟨k + 1, by go_num, by omega, rfl, hno', rfl⟩
    · have hres : Hid (bb = false) := by
        show _ = _
        rw [← HB.out, let_has]
        cases hc : letL.contains c
        · rfl
        · have : c ∈ letL := by simpa using hc
          obtain ⟨j, hj, e⟩ := HM.out c this
          exact absurd e (hno.out j hj (by omega))
      go_wp2
      go_ret
      exact ⟨by rw [hres.out]; rfl, rfl⟩

set_option maxRecDepth 100000 in
set_option maxHeartbeats 2000000 in
theorem rbare_is (s : ByteArray) (hs : s.size ≤ 1073740000) (w : World) : Calls Tryz.prog 13 #[.string s] w fun e w' => e = .returned (.bool (bareW s)) ∧ w = w' := by
  obtain ⟨bb, hbb⟩ : ∃ bb, bareW s = bb := ⟨_, rfl⟩
  rw [hbb]
  rw [bareW_eq] at hbb
  have HB := Lib.hid hbb; clear hbb
  go_enter Tryz.func13, Tryz.ntmps13
  go_wp2
  go_loopg [3] (s.size + 1) (fun q s3 wr => ∃ k : Nat, s3 = .int .i64 (k : Int) ∧ k ≤ s.size ∧ Hid (q = s.size + 1 - k) ∧ Hid (∀ j (h : j < s.size), j < k → bareB s[j].toNat = true) ∧ w = wr)
  case atStart => exact ⟨0, rfl, Nat.zero_le _, rfl, fun j h hj => absurd hj (by omega), rfl⟩
  case round =>
    obtain ⟨k, rfl, hk, hq, hal, rfl⟩ := hrel
    by_cases hlt : k < s.size
    · have hki : (k : Int) < (s.size : Int) := by omega
      have hbc := fun w => rplain_any s[k] w
      cases hbk : bareB s[k].toNat
      · have hres : Hid (bb = false) := by
          show _ = _
          rw [← HB.out]
          cases h : (s.data.toList.all fun c => bareB c.toNat)
          · simp
          · have := List.all_eq_true.1 h s[k] (List.mem_iff_getElem.2 ⟨k, hlt, rfl⟩)
            rw [hbk] at this; cases this
        rw [hbk] at hbc
        have HBC := Lib.hid hbc
        clear hbc hbk
        go_wp2_with (go_at_call 26; (with_reducible refine (HBC.out _).mono ?_); rintro e w2 ⟨rfl, rfl⟩)
        go_ret
        exact ⟨by rw [hres.out]; rfl, rfl⟩
      · have hal' : Hid (∀ j (h : j < s.size), j < k + 1 → bareB s[j].toNat = true) := fun j h hj => by
          by_cases hjk : j = k
          · subst hjk; exact hbk
          · exact hal.out j h (by omega)
        rw [hbk] at hbc
        have HBC := Lib.hid hbc
        clear hbc hbk
        go_wp2_with (go_at_call 26; (with_reducible refine (HBC.out _).mono ?_); rintro e w2 ⟨rfl, rfl⟩)
        go_roundg (s.size + 1 - (k + 1))
        case measure => have := hq.out; omega
        case rel => exact ⟨k + 1, by go_num, by omega, rfl, hal', rfl⟩
    · have hres : Hid (bb = decide (0 < s.size)) := by
        show _ = _
        rw [← HB.out]
        have h : (s.data.toList.all fun c => bareB c.toNat) = true := List.all_eq_true.2 fun c hc => by
          obtain ⟨j, hj, rfl⟩ := List.mem_iff_getElem.1 hc
          exact hal.out j hj (by have : j < s.size := hj; omega)
        rw [h, Bool.and_true]
        have hl : s.data.toList.length = s.size := rfl
        cases hd : s.data.toList with
        | nil => rw [hd] at hl; have h0 : s.size = 0 := hl.symm; rw [h0]; rfl
        | cons x r => rw [hd] at hl; have h0 : s.size = r.length + 1 := hl.symm; rw [h0, decide_eq_true (Nat.succ_pos _)]; rfl
      by_cases h0 : 0 < s.size
      · have h0i : (0 : Int) < (s.size : Int) := by omega
        have d0 : decide ((0 : Int) < (s.size : Int)) = true := by simp; omega
        have hb2 : Hid (bb = true) := by show _ = _; rw [hres.out]; simpa using h0
        go_wp2
        go_ret
        exact ⟨by rw [hb2.out]; rfl, rfl⟩
      · have d0 : decide ((0 : Int) < (s.size : Int)) = false := decide_eq_false (by omega)
        have hb2 : Hid (bb = false) := by show _ = _; rw [hres.out, decide_eq_false h0]
        go_wp2
        go_ret
        exact ⟨by rw [hb2.out]; rfl, rfl⟩

/-- The first words, as they are written, with dots between. -/
def jnL (xs : List ByteArray) (k : Nat) : List UInt8 := Lib.join (((xs.take k).map keyW).map (·.data.toList)) [46]
theorem joinTail_snoc (y : List UInt8) : ∀ r : List (List UInt8), Lib.joinTail [46] (r ++ [y]) = Lib.joinTail [46] r ++ (46 :: y) := by
  intro r
  induction r with
  | nil => simp [Lib.joinTail]
  | cons x r ih =>
    have e1 : Lib.joinTail [46] (x :: r ++ [y]) = ([46] ++ x) ++ Lib.joinTail [46] (r ++ [y]) := rfl
    have e2 : Lib.joinTail [46] (x :: r) = ([46] ++ x) ++ Lib.joinTail [46] r := rfl
    rw [e1, e2, ih, List.append_assoc, List.append_assoc, List.append_assoc]
theorem jnL_next (xs : List ByteArray) (k : Nat) (h : k < xs.length) : jnL xs (k + 1) = (if k = 0 then [] else jnL xs k ++ [46]) ++ (keyW xs[k]).data.toList := by
  unfold jnL
  rw [List.take_succ_eq_append_getElem h, List.map_append, List.map_append]
  simp only [List.map_cons, List.map_nil]
  cases k with
  | zero => simp [Lib.join_cons, Lib.joinTail]
  | succ k =>
    rw [if_neg (by omega)]
    cases xs with
    | nil => cases h
    | cons z xs =>
      rw [List.take_succ_cons, List.map_cons, List.map_cons, List.cons_append, Lib.join_cons, Lib.join_cons, joinTail_snoc]
      simp only [List.append_assoc, List.cons_append, List.nil_append]
theorem jnL_all (xs : List ByteArray) : jnL xs xs.length = keyL xs := by unfold jnL keyL; rw [List.take_length]
theorem app_list (a b : ByteArray) : (a ++ b).data.toList = a.data.toList ++ b.data.toList := by simp [ByteArray.data_append]
theorem keyW_len (s : ByteArray) : (keyW s).data.toList.length ≤ 6 * s.size + 2 := by
  unfold keyW
  split
  · have : s.data.toList.length = s.size := rfl
    omega
  · have hl : ∀ l : List UInt8, (l.flatMap wrB).length ≤ 6 * l.length := by
      intro l
      induction l with
      | nil => simp
      | cons c l ih => have := wrB_len c; simp at ih ⊢; omega
    have h1 := hl s.data.toList
    have h2 : s.data.toList.length = s.size := rfl
    have h3 := writeQ_len s.data.toList
    show (writeQ s.data.toList).toArray.toList.length ≤ _
    rw [List.toList_toArray]; omega

set_option maxRecDepth 100000 in
set_option maxHeartbeats 4000000 in
theorem rwrite10_is (xs : List ByteArray) (hs : ∀ s ∈ xs, s.size ≤ 100) (hn : xs.length ≤ 100) (n c b o : Nat) (hnl : n = xs.length) (w : World) (hM : TxA w b o xs) :
    Calls Tryz.prog 15 #[.slice (some ⟨b, o, none⟩) n c] w fun e w' => e = .returned (.string ⟨(keyL xs).toArray⟩) ∧ Below w.heap.size w w' := by
  have HS := Lib.hid hs; have HN := Lib.hid hnl; have HM := Lib.hid hM
  have n1 : n ≤ 100 := by omega
  clear hs hnl hM hn
  go_enter Tryz.func15, Tryz.ntmps15
  go_wp2
  go_loopg [3, 4] n (fun q s3 s4 wr => ∃ (k : Nat) (J : ByteArray), s3 = .string J ∧ s4 = .int .i64 (k : Int) ∧ k ≤ n ∧ J.size ≤ 700 * k ∧ Hid (q = n - k) ∧ Hid (J.data.toList = jnL xs k) ∧ Hid (Below w.heap.size w wr))
  case atStart => exact ⟨0, ⟨#[]⟩, rfl, rfl, by omega, Nat.zero_le _, by show _ = _; omega, rfl, Below.refl _ _⟩
  case round =>
    obtain ⟨k, J, rfl, rfl, hk, hJz, hq, hJ, hb⟩ := hrel
    by_cases hlt : k < n
    · have hkl : k < xs.length := by have := HN.out; omega
      have hki : (k : Int) < (n : Int) := by omega
      obtain ⟨X, hX⟩ : ∃ X, xs[k] = X := ⟨_, rfl⟩
      have e1 : wr.cell? ⟨b, o + k, none⟩ = some (.string X) := by
        have h := (HM.out.keep hb.out (Nat.le_refl _)).2 k hkl
        rw [hX] at h; exact h
      have hXs : X.size ≤ 100 := by rw [← hX]; exact HS.out _ (List.getElem_mem hkl)
      have hjn := jnL_next xs k hkl
      rw [hX] at hjn
      have hkw := keyW_len X
      have HJN := Lib.hid hjn
      have hbc := fun w => rbare_is X (by omega) w
      clear hjn hX hkl
      cases hbb : bareW X
      · have hkk : keyW X = ⟨(writeQ X.data.toList).toArray⟩ := by rw [keyW, hbb]; rfl
        have hwr := fun w => rwrite_any X (by omega) w
        rw [hbb] at hbc
        rw [← hkk] at hwr
        obtain ⟨Z, hZ⟩ : ∃ Z, keyW X = Z := ⟨_, rfl⟩
        rw [hZ] at hwr HJN hkw
        have hZs : Z.size ≤ 602 := by have : Z.data.toList.length = Z.size := rfl; omega
        have HBC := Lib.hid hbc; have HWR := Lib.hid hwr
        clear hbc hwr hbb hkk hZ hkw
        by_cases hk0 : k = 0
        · have d9 : decide ((0 : Int) < (k : Int)) = false := by simp; omega
          have d10 : decide (0 < k) = false := by simp; omega
          have HK0 := Lib.hid hk0; clear hk0
          go_wp2_with (first
            | (go_at_call 13; (with_reducible refine (HBC.out _).mono ?_); rintro e w2 ⟨rfl, rfl⟩)
            | (go_at_call 30; (with_reducible refine (HWR.out _).mono ?_); rintro e w3 ⟨rfl, hb3⟩))
          go_roundg (n - (k + 1))
          case measure => have := hq.out; omega
          case rel => exact ⟨k + 1, _, rfl, by go_num, by omega, by rw [ByteArray.size_append]; omega, rfl, by show _ = _; rw [app_list, HJN.out, if_pos HK0.out, hJ.out, HK0.out]; rfl, hb.out.trans (hb3.mono hb.out.size)⟩
        · have d9 : decide ((0 : Int) < (k : Int)) = true := by simp; omega
          have d10 : decide (0 < k) = true := by simp; omega
          have HK0 := Lib.hid hk0; clear hk0
          go_wp2_with (first
            | (go_at_call 13; (with_reducible refine (HBC.out _).mono ?_); rintro e w2 ⟨rfl, rfl⟩)
            | (go_at_call 30; (with_reducible refine (HWR.out _).mono ?_); rintro e w3 ⟨rfl, hb3⟩))
          go_roundg (n - (k + 1))
          case measure => have := hq.out; omega
          case rel => exact ⟨k + 1, _, rfl, by go_num, by omega, by rw [ByteArray.size_append, ByteArray.size_append]; show J.size + 1 + Z.size ≤ _; omega, rfl, by show _ = _; rw [app_list, app_list, HJN.out, if_neg HK0.out, hJ.out], hb.out.trans (hb3.mono hb.out.size)⟩
      · have hkk : keyW X = X := by rw [keyW, hbb]; rfl
        rw [hbb] at hbc
        rw [hkk] at HJN
        have HBC := Lib.hid hbc
        clear hbc hbb hkk hkw
        by_cases hk0 : k = 0
        · have d9 : decide ((0 : Int) < (k : Int)) = false := by simp; omega
          have d10 : decide (0 < k) = false := by simp; omega
          have HK0 := Lib.hid hk0; clear hk0
          go_wp2_with (go_at_call 13; (with_reducible refine (HBC.out _).mono ?_); rintro e w2 ⟨rfl, rfl⟩)
          go_roundg (n - (k + 1))
          case measure => have := hq.out; omega
          case rel => exact ⟨k + 1, _, rfl, by go_num, by omega, by rw [ByteArray.size_append]; omega, rfl, by show _ = _; rw [app_list, HJN.out, if_pos HK0.out, hJ.out, HK0.out]; rfl, hb.out⟩
        · have d9 : decide ((0 : Int) < (k : Int)) = true := by simp; omega
          have d10 : decide (0 < k) = true := by simp; omega
          have HK0 := Lib.hid hk0; clear hk0
          go_wp2_with (go_at_call 13; (with_reducible refine (HBC.out _).mono ?_); rintro e w2 ⟨rfl, rfl⟩)
          go_roundg (n - (k + 1))
          case measure => have := hq.out; omega
          case rel => exact ⟨k + 1, _, rfl, by go_num, by omega, by rw [ByteArray.size_append, ByteArray.size_append]; show J.size + 1 + X.size ≤ _; omega, rfl, by show _ = _; rw [app_list, app_list, HJN.out, if_neg HK0.out, hJ.out], hb.out⟩
    · have hkn : k = n := by omega
      have hJS : J = ⟨(keyL xs).toArray⟩ := by
        apply ByteArray.ext
        apply Array.toList_inj.1
        rw [hJ.out, hkn, HN.out, jnL_all]
      have HJS := Lib.hid hJS; clear hJS hkn
      go_wp2
      go_ret
      exact ⟨by rw [HJS.out]; rfl, hb.out⟩

end Go.Proofs.YtflfedfghnnaeaaGreatDoor
