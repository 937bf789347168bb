/- Walks over package dates: digits, clock, after, zone; no statement of the seat is proved here. -/
import Derived.Test.YtgchhogdbigafaaDoorDtA
import Derived.Test.YtgchhogdbigafaaDoorDtN
import Derived.Test.YtgchhogdbigafaaDoorDtW
import Derived.Test.YtgchhogdbigafaaDoorShelf
namespace Go.Proofs.YtgchhogdbigafaaDoor
open Go.RowKit

theorem u8_all {p : UInt8 → Prop} (h : ∀ n : Fin 256, p (UInt8.ofNat n.val)) (c : UInt8) : p c := by
  have := h ⟨c.toNat, c.toNat_lt⟩
  simpa using this
theorem digs_has : ∀ c : UInt8, ([48, 49, 50, 51, 52, 53, 54, 55, 56, 57] : List UInt8).contains c = dgN c.toNat := u8_all (by decide +kernel)
theorem trimL_is (s u : ByteArray) (hu : u.data.toList = s.data.toList.dropWhile fun c => dgN c.toNat) (w : World) :
    Calls Tryd.prog 59 #[.string s, .string ⟨#[48, 49, 50, 51, 52, 53, 54, 55, 56, 57]⟩] w fun e w' => e = .returned (.string u) ∧ Below w.heap.size w w' := by
  have h := Any.strings_TrimLeft_laid Tryd.lays161 (by kernel_rfl) s ⟨#[48, 49, 50, 51, 52, 53, 54, 55, 56, 57]⟩ w (by decide) (ascii_of_all (by decide))
  have e : (⟨(Lib.trimLeftS s.data.toList (⟨#[48, 49, 50, 51, 52, 53, 54, 55, 56, 57]⟩ : ByteArray).data.toList).toArray⟩ : ByteArray) = u := by
    refine (str_is ?_).symm
    rw [hu]
    unfold Lib.trimLeftS
    congr 1
    funext c
    exact (digs_has c).symm
  rw [e] at h
  exact h
theorem take_while (p : UInt8 → Bool) (l : List UInt8) : l.take (l.takeWhile p).length = l.takeWhile p := by
  have h : l.takeWhile p ++ l.dropWhile p = l := List.takeWhile_append_dropWhile
  calc l.take (l.takeWhile p).length = (l.takeWhile p ++ l.dropWhile p).take (l.takeWhile p).length := by rw [h]
    _ = _ := List.take_left
theorem split_while (p : UInt8 → Bool) (l : List UInt8) : l.take (l.length - (l.dropWhile p).length) = l.takeWhile p := by
  have h : l.takeWhile p ++ l.dropWhile p = l := List.takeWhile_append_dropWhile
  have hl : l.length = (l.takeWhile p).length + (l.dropWhile p).length := by rw [← List.length_append, h]
  rw [hl, Nat.add_sub_cancel]
  exact take_while p l

set_option maxHeartbeats 400000 in
theorem digits_is (s t : ByteArray) (hs : s.size ≤ 1099511627776) (ht : t.data.toList = s.data.toList.takeWhile fun c => dgN c.toNat) (w : World) :
    Calls Tryd.prog 48 #[.string s] w fun e w' => e = .returned (.string t) ∧ Below w.heap.size w w' := by
  obtain ⟨u, hu⟩ : ∃ u : ByteArray, u.data.toList = s.data.toList.dropWhile fun c => dgN c.toNat := ⟨⟨(s.data.toList.dropWhile fun c => dgN c.toNat).toArray⟩, rfl⟩
  have hle : u.size ≤ s.size := by
    have := (List.dropWhile_sublist (fun c : UInt8 => dgN c.toNat) (l := s.data.toList)).length_le
    rw [← hu] at this; exact this
  obtain ⟨k, hk⟩ : ∃ k, s.size = u.size + k := ⟨s.size - u.size, by omega⟩
  have HR : Hid (t.data.toList = (s.extract 0 k).data.toList) := by
    show _ = _
    rw [ht, ext_list, List.drop_zero, Nat.sub_zero, ← split_while, ← hu]
    show _ = List.take k _
    congr 1
    have h1 : s.data.toList.length = s.size := rfl
    have h2 : u.data.toList.length = u.size := rfl
    omega
  have hk' : k ≤ s.size := by omega
  have HU := Lib.hid hu; clear hu ht
  have hki : ((s.size : Int) - (u.size : Int)) = (k : Int) := by omega
  clear hk
  go_enter Tryd.func48, Tryd.ntmps48
  go_wp2_with (go_at_call 59; (with_reducible refine (trimL_is s u HU.out _).mono ?_); rintro e w1 ⟨rfl, hb1⟩)
  go_ret
  exact ⟨ret_str HR.out.symm, hb1⟩

theorem ext2 {s : ByteArray} (_h : 8 ≤ s.size) : ((s.extract 8 s.size).extract 1 (s.size - 8)).data.toList = s.data.toList.drop 9 := by
  rw [ext_list, ext_end, List.drop_drop, List.take_of_length_le (by rw [List.length_drop, size_list]; omega)]
theorem str_full {t : ByteArray} (h : 0 < t.size) : t.toList.isEmpty = false ∧ ¬ t.toList = [] := by
  rw [ByteArray.toList_eq]
  have hl : t.data.toList.length = t.size := rfl
  cases he : t.data.toList with
  | nil => rw [he] at hl; simp at hl; omega
  | cons a l => simp
theorem take1_bt (l : List UInt8) (i : Nat) (c : UInt8) : decide ((l.drop i).take 1 = [c]) = decide (bt l i = c.toNat) := by
  rcases Nat.lt_or_ge i l.length with h | h
  · have e : (l.drop i).take 1 = [l[i]] := by rw [List.drop_eq_getElem_cons h]; rfl
    rw [e, bt_lt h, Bool.eq_iff_iff, decide_eq_true_iff, decide_eq_true_iff]
    constructor
    · intro q; injection q with q; rw [q]
    · intro q; rw [UInt8.toNat_inj.1 q]
  · rw [List.drop_eq_nil_of_le h, bt_ge h]
    have := c.toNat_lt
    simp; omega
set_option maxHeartbeats 400000 in
theorem clock_is0 (s t p : ByteArray) (hs : s.size ≤ 1099511627776) (ht : t.data.toList = formL s.data.toList timeF) (hp : p.data.toList = (s.data.toList.drop 9).take (if isC s.data.toList 0 then partN s.data.toList 8 else 0)) (w : World) :
    Calls Tryd.prog 35 #[.string s] w fun e w' => e = .returned (.tuple #[.string t, .string p]) ∧ Below w.heap.size w w' := by
  have HT := Lib.hid ht; clear ht
  have HP := Lib.hid hp; clear hp
  have hF : Hid (∀ w, Calls Tryd.prog 34 #[.string s, .string ⟨#[57, 57, 58, 57, 57, 58, 57, 57]⟩] w fun e w' => e = .returned (.string t) ∧ Below w.heap.size w w') :=
    fun w => form_is s ⟨#[57, 57, 58, 57, 57, 58, 57, 57]⟩ t hs (by decide) (by decide) HT.out w
  cases hC : isC s.data.toList 0
  · have h0 : t.data.toList = [] := by rw [HT.out, formL, if_neg]; rw [← List.drop_zero (l := s.data.toList), fit_tm, hC]; simp
    have h1 : p.data.toList = [] := by rw [HP.out, hC]; simp
    obtain rfl : t = ⟨#[]⟩ := str_is h0
    obtain rfl : p = ⟨#[]⟩ := str_is h1
    clear h0 h1 HP HT
    go_enter Tryd.func35, Tryd.ntmps35
    go_wp2_with (go_at_call 34; (with_reducible refine (hF.out _).mono ?_); rintro e w1 ⟨rfl, hb1⟩)
    go_ret2
    exact ⟨rfl, hb1⟩
  · have h8 := isC_len hC
    have hts : t.data.toList = s.data.toList.take 8 := by rw [HT.out, formL, if_pos]; rfl; rw [← List.drop_zero (l := s.data.toList), fit_tm, hC]
    have hsz : t.size = 8 := by have := congrArg List.length hts; rw [List.length_take] at this; show t.data.toList.length = 8; omega
    have h8s : 8 ≤ s.size := by have : s.data.toList.length = s.size := rfl; omega
    clear h8
    obtain ⟨n1, n2⟩ := str_full (t := t) (by omega)
    obtain ⟨b, hb⟩ : ∃ b, Hid (decide (bt s.data.toList 8 = 46) = b) := ⟨decide (bt s.data.toList 8 = 46), rfl⟩
    have hH : Hid (∀ w, Calls Tryd.prog 16 #[.string (s.extract 8 s.size), .string ⟨#[46]⟩] w fun e w' => e = .returned (.bool b) ∧ w = w') := fun w => by
      refine has_is (s.extract 8 s.size) ⟨#[46]⟩ b ?_ (by rw [ByteArray.size_extract]; omega) (by decide) w
      rw [ext_end, ← hb.out]
      show decide ((s.data.toList.drop 8).take 1 = [46]) = _
      rw [take1_bt]; rfl
    cases b
    · have h1 : p.data.toList = [] := by
        have h46 : ¬ bt s.data.toList 8 = 46 := of_decide_eq_false hb.out
        rw [HP.out, if_pos hC, partN, if_neg h46]; rfl
      obtain rfl : p = ⟨#[]⟩ := str_is h1
      clear h1 HP HT hts
      go_enter Tryd.func35, Tryd.ntmps35
      go_wp2_with (first
        | (go_at_call 34; (with_reducible refine (hF.out _).mono ?_); rintro e w1 ⟨rfl, hb1⟩)
        | (go_at_call 16; (with_reducible refine (hH.out _).mono ?_); rintro e w2 ⟨rfl, rfl⟩))
      go_ret2
      exact ⟨rfl, hb1⟩
    · have h1 : p.data.toList = (s.data.toList.drop 9).takeWhile fun c => dgN c.toNat := by
        have h46 : bt s.data.toList 8 = 46 := of_decide_eq_true hb.out
        rw [HP.out, if_pos hC, partN, if_pos h46]; exact take_while _ _
      have h9 : 1 ≤ s.size - 8 := by
        have h46 : bt s.data.toList 8 = 46 := of_decide_eq_true hb.out
        have := bt_in (show bt s.data.toList 8 < 256 by omega)
        rw [size_list] at this
        omega
      have hD : Hid (∀ w, Calls Tryd.prog 48 #[.string ((s.extract 8 s.size).extract 1 (s.size - 8))] w fun e w' => e = .returned (.string p) ∧ Below w.heap.size w w') := fun w =>
        digits_is _ p (by rw [ByteArray.size_extract, ByteArray.size_extract]; omega) (by rw [h1, ext2 h8s]) w
      clear h1 HP HT hts
      go_enter Tryd.func35, Tryd.ntmps35
      go_wp2_with (first
        | (go_at_call 34; (with_reducible refine (hF.out _).mono ?_); rintro e w1 ⟨rfl, hb1⟩)
        | (go_at_call 16; (with_reducible refine (hH.out _).mono ?_); rintro e w2 ⟨rfl, rfl⟩)
        | (go_at_call 48; (with_reducible refine (hD.out _).mono ?_); rintro e w2 ⟨rfl, hb2⟩))
      go_ret2
      exact ⟨rfl, hb1.trans (hb2.mono hb1.size)⟩

set_option maxHeartbeats 400000 in
theorem after_is (t p : ByteArray) (ht : t.size ≤ 1099511627776) (hp : p.size ≤ 1099511627776) (w : World) :
    Calls Tryd.prog 36 #[.string t, .string p] w fun e w' => e = .returned (.int .i64 ((t.size : Int) + (pN p.size : Nat))) ∧ w = w' := by
  rcases Nat.eq_zero_or_pos p.size with h | h
  · obtain rfl : p = ⟨#[]⟩ := str_is (List.length_eq_zero_iff.1 h)
    have e : (pN (ByteArray.mk #[]).size : Nat) = 0 := rfl
    rw [e]; clear e h
    go_enter Tryd.func36, Tryd.ntmps36
    go_wp2
    go_ret
    exact ⟨ret_int (by simp), rfl⟩
  · obtain ⟨n1, n2⟩ := str_full h
    have e : Hid ((t.size : Int) + (pN p.size : Nat) = (t.size : Int) + 1 + (p.size : Int)) := by show _ = _; rw [pN, if_neg (by omega)]; omega
    go_enter Tryd.func36, Tryd.ntmps36
    go_wp2
    go_ret
    exact ⟨ret_int e.out.symm, rfl⟩

set_option maxHeartbeats 2000000 in
/-- zone: what a text begins with. -/
theorem zone_is (s z : ByteArray) (hs : s.size ≤ 1099511627776) (hz : z.data.toList = s.data.toList.take (zoneN s.data.toList 0)) (w : World) :
    Calls Tryd.prog 38 #[.string s] w fun e w' => e = .returned (.string z) ∧ Below w.heap.size w w' := by
  have HZ := Lib.hid hz; clear hz
  rcases Nat.eq_zero_or_pos s.size with h | h
  · obtain rfl : s = ⟨#[]⟩ := str_is (List.length_eq_zero_iff.1 h)
    obtain rfl : z = ⟨#[]⟩ := str_is (by rw [HZ.out]; simp)
    clear h HZ
    go_enter Tryd.func38, Tryd.ntmps38
    go_wp2
    go_ret
    exact ⟨rfl, Below.refl _ _⟩
  · have hl : 0 < s.data.toList.length := h
    have hb0 : bt s.data.toList 0 = s[0].toNat := bt_lt hl
    obtain ⟨n1, n2⟩ := str_full h
    have hF : ∀ u : ByteArray, u.data.toList = formL (s.data.toList.drop 1) zoneF → Hid (∀ w, Calls Tryd.prog 34 #[.string (s.extract 1 s.size), .string ⟨#[57, 57, 58, 57, 57]⟩] w fun e w' => e = .returned (.string u) ∧ Below w.heap.size w w') := fun u hu w =>
      form_is _ ⟨#[57, 57, 58, 57, 57]⟩ u (by rw [ByteArray.size_extract]; omega) (by decide) (by decide) (by rw [ext_end]; exact hu) w
    rcases zoneN_cases s.data.toList 0 with hz | ⟨hz, h1⟩ | ⟨hz, h1, h2⟩
    · obtain rfl : z = ⟨#[]⟩ := str_is (by rw [HZ.out, hz]; simp)
      clear HZ
      have hn : ¬ (bt s.data.toList 0 = 90 ∨ bt s.data.toList 0 = 122) ∧ ¬ ((bt s.data.toList 0 = 43 ∨ bt s.data.toList 0 = 45) ∧ isZ s.data.toList 1 = true) := by
        unfold zoneN at hz
        constructor
        · intro q; rw [if_pos q] at hz; omega
        · intro q; rw [if_neg (by omega), if_pos q] at hz; omega
      rw [hb0] at hn
      obtain ⟨h3, h4⟩ := hn
      have b1 : ((s[0].toNat : Int) == 90) = false := by simp; omega
      have b2 : ((s[0].toNat : Int) == 122) = false := by simp; omega
      clear hb0
      by_cases h5 : s[0].toNat = 43 ∨ s[0].toNat = 45
      · have hu := hF ⟨#[]⟩ (by rw [formL, if_neg]; rw [fit_zn]; exact fun q => h4 ⟨h5, q⟩)
        clear h4 h3 hF
        rcases h5 with h5 | h5
        · have b3 : ((s[0].toNat : Int) == 43) = true := by simp; omega
          clear h5
          go_enter Tryd.func38, Tryd.ntmps38
          go_wp2_with (go_at_call 34; (with_reducible refine (hu.out _).mono ?_); rintro e w1 ⟨rfl, hb1⟩)
          go_ret
          exact ⟨rfl, hb1⟩
        · have b3 : ((s[0].toNat : Int) == 43) = false := by simp; omega
          have b4 : ((s[0].toNat : Int) == 45) = true := by simp; omega
          clear h5
          go_enter Tryd.func38, Tryd.ntmps38
          go_wp2_with (go_at_call 34; (with_reducible refine (hu.out _).mono ?_); rintro e w1 ⟨rfl, hb1⟩)
          go_ret
          exact ⟨rfl, hb1⟩
      · have b3 : ((s[0].toNat : Int) == 43) = false := by simp; omega
        have b4 : ((s[0].toNat : Int) == 45) = false := by simp; omega
        clear h5 h4 h3 hF
        go_enter Tryd.func38, Tryd.ntmps38
        go_wp2
        go_ret
        exact ⟨rfl, Below.refl _ _⟩
    · have HE : Hid (z.data.toList = (s.extract 0 1).data.toList) := by show _ = _; rw [HZ.out, hz, ext_list]; simp
      rw [hb0] at h1
      clear hb0 hF HZ
      rcases h1 with h1 | h1
      · have b1 : ((s[0].toNat : Int) == 90) = true := by simp; omega
        clear h1
        go_enter Tryd.func38, Tryd.ntmps38
        go_wp2
        go_ret
        exact ⟨ret_str HE.out.symm, Below.refl _ _⟩
      · have b1 : ((s[0].toNat : Int) == 90) = false := by simp; omega
        have b2 : ((s[0].toNat : Int) == 122) = true := by simp; omega
        clear h1
        go_enter Tryd.func38, Tryd.ntmps38
        go_wp2
        go_ret
        exact ⟨ret_str HE.out.symm, Below.refl _ _⟩
    · have HE : Hid (z.data.toList = (s.extract 0 6).data.toList) := by show _ = _; rw [HZ.out, hz, ext_list]; simp
      have h6 := isZ_len h2
      have h6s : 6 ≤ s.size := by have : s.data.toList.length = s.size := rfl; omega
      obtain ⟨u, hu, hun⟩ : ∃ u : ByteArray, Hid (∀ w, Calls Tryd.prog 34 #[.string (s.extract 1 s.size), .string ⟨#[57, 57, 58, 57, 57]⟩] w fun e w' => e = .returned (.string u) ∧ Below w.heap.size w w') ∧ 0 < u.size := by
        have e : ((s.extract 1 6)).data.toList = formL (s.data.toList.drop 1) zoneF := by
          rw [ext_list, formL, if_pos (by rw [fit_zn]; exact h2)]; rfl
        exact ⟨s.extract 1 6, hF _ e, by rw [ByteArray.size_extract]; omega⟩
      obtain ⟨m1, m2⟩ := str_full hun
      rw [hb0] at h1
      clear hb0 hF HZ hun h6 h2
      rcases h1 with h1 | h1
      · have b1 : ((s[0].toNat : Int) == 90) = false := by simp; omega
        have b2 : ((s[0].toNat : Int) == 122) = false := by simp; omega
        have b3 : ((s[0].toNat : Int) == 43) = true := by simp; omega
        clear h1
        go_enter Tryd.func38, Tryd.ntmps38
        go_wp2_with (go_at_call 34; (with_reducible refine (hu.out _).mono ?_); rintro e w1 ⟨rfl, hb1⟩)
        go_ret
        exact ⟨ret_str HE.out.symm, hb1⟩
      · have b1 : ((s[0].toNat : Int) == 90) = false := by simp; omega
        have b2 : ((s[0].toNat : Int) == 122) = false := by simp; omega
        have b3 : ((s[0].toNat : Int) == 43) = false := by simp; omega
        have b4 : ((s[0].toNat : Int) == 45) = true := by simp; omega
        clear h1
        go_enter Tryd.func38, Tryd.ntmps38
        go_wp2_with (go_at_call 34; (with_reducible refine (hu.out _).mono ?_); rintro e w1 ⟨rfl, hb1⟩)
        go_ret
        exact ⟨ret_str HE.out.symm, hb1⟩

end Go.Proofs.YtgchhogdbigafaaDoor
