/- The reference's Normal and Cmp, the law's is, fails, lives; no statement of the seat is proved here. -/
import Derived.Test.YtghjiddcbbnhpaaGreatDoorInH
namespace Go.Proofs.YtghjiddcbbnhpaaGreatDoor
open Go.RowKit

theorem beq_str (a b : ByteArray) : (a.toList == b.toList) = decide (a = b) := by
  rw [ByteArray.toList_eq, ByteArray.toList_eq, Bool.eq_iff_iff, beq_iff_eq, decide_eq_true_iff]
  exact ⟨str_eq, fun e => by rw [e]⟩
theorem read_ex (s : ByteArray) : ∃ (r : ByteArray) (c : Int), readI s.data.toList = (r.data.toList, c) := by
  obtain ⟨r, hr⟩ := str_ex (readI s.data.toList).1
  exact ⟨r, (readI s.data.toList).2, by rw [hr]⟩

theorem rnorm_is (s : ByteArray) (hs : s.size ≤ 50000) (b : Bool) (hb : normB s.data.toList = b) (w : World) :
    Calls Tryz.prog 32 #[.string s] w fun e w' => e = .returned (.bool b) ∧ Below w.heap.size w w' := by
  obtain ⟨r, c, hr⟩ := read_ex s
  have HC := Lib.hid (rread_is s r c hs hr)
  unfold normB at hb
  rw [hr] at hb
  by_cases h0 : c = 0
  · subst h0
    have he : (r.toList == s.toList) = b := by
      rw [beq_str, ← hb]
      exact decide_eq_decide.2 ⟨fun e => by rw [e], fun e => str_eq (congrArg Prod.fst e)⟩
    clear hb hr
    go_enter Tryz.func32, Tryz.ntmps32
    go_wp2_with (go_at_call 10; refine (HC.out _).mono ?_; rintro e w1 ⟨rfl, hb1⟩)
    go_ret
    exact ⟨rfl, hb1⟩
  · have hc : (c == 0) = false := by simpa using h0
    have hf : b = false := by rw [← hb]; exact decide_eq_false fun e => h0 (congrArg Prod.snd e)
    subst hf
    clear hb hr h0
    go_enter Tryz.func32, Tryz.ntmps32
    go_wp2_with (go_at_call 10; refine (HC.out _).mono ?_; rintro e w1 ⟨rfl, hb1⟩)
    go_ret
    exact ⟨rfl, hb1⟩

theorem is_is (s want : ByteArray) (hs : s.size ≤ 50000) (b : Bool) (hb : decide (readI s.data.toList = (want.data.toList, 0)) = b) (w : World) (hG : Gl w) :
    Calls Tryz.prog 17 #[.string s, .string want] w fun e w' => e = .returned (.bool b) ∧ Below w.heap.size w w' := by
  obtain ⟨r, c, hr⟩ := read_ex s
  have HC := Lib.hid (iread_is s r c hs hr w hG)
  rw [hr] at hb
  clear hG
  by_cases h0 : r = want
  · have he : (r.toList == want.toList) = true := by rw [beq_str, decide_eq_true h0]
    have hc : (c == 0) = b := by
      rw [← hb, Bool.eq_iff_iff, beq_iff_eq, decide_eq_true_iff]
      exact ⟨fun e => by rw [e, h0], fun e => congrArg Prod.snd e⟩
    clear hb hr h0
    go_enter Tryz.func17, Tryz.ntmps17
    go_wp2_with (go_at_call 9; refine HC.out.mono ?_; rintro e w1 ⟨rfl, hb1⟩)
    go_ret
    exact ⟨by first | rfl | exact ret_bool hc, hb1⟩
  · have he : (r.toList == want.toList) = false := by rw [beq_str, decide_eq_false h0]
    have hf : b = false := by rw [← hb]; exact decide_eq_false fun e => h0 (str_eq (congrArg Prod.fst e))
    subst hf
    clear hb hr h0
    go_enter Tryz.func17, Tryz.ntmps17
    go_wp2_with (go_at_call 9; refine HC.out.mono ?_; rintro e w1 ⟨rfl, hb1⟩)
    go_ret
    exact ⟨rfl, hb1⟩
theorem fails_is (s : ByteArray) (k : Int) (hs : s.size ≤ 50000) (b : Bool) (hb : decide (readI s.data.toList = ([], k)) = b) (w : World) (hG : Gl w) :
    Calls Tryz.prog 18 #[.string s, .int .i64 k] w fun e w' => e = .returned (.bool b) ∧ Below w.heap.size w w' := by
  obtain ⟨r, c, hr⟩ := read_ex s
  have HC := Lib.hid (iread_is s r c hs hr w hG)
  rw [hr] at hb
  clear hG
  by_cases h0 : r = ⟨#[]⟩
  · have he : r.toList.isEmpty = true := by rw [h0, ByteArray.toList_eq]; rfl
    have hc : (c == k) = b := by
      rw [← hb, Bool.eq_iff_iff, beq_iff_eq, decide_eq_true_iff]
      exact ⟨fun e => by rw [e, h0], fun e => congrArg Prod.snd e⟩
    clear hb hr h0
    go_enter Tryz.func18, Tryz.ntmps18
    go_wp2_with (go_at_call 9; refine HC.out.mono ?_; rintro e w1 ⟨rfl, hb1⟩)
    go_ret
    exact ⟨by first | rfl | exact ret_bool hc, hb1⟩
  · have he : r.toList.isEmpty = false := by
      rw [ByteArray.toList_eq]
      cases hl : r.data.toList with
      | nil => exact absurd (str_eq hl) h0
      | cons c l => rfl
    have hf : b = false := by rw [← hb]; exact decide_eq_false fun e => h0 (str_eq (congrArg Prod.fst e))
    subst hf
    clear hb hr h0
    go_enter Tryz.func18, Tryz.ntmps18
    go_wp2_with (go_at_call 9; refine HC.out.mono ?_; rintro e w1 ⟨rfl, hb1⟩)
    go_ret
    exact ⟨rfl, hb1⟩

theorem tail_ext {s : ByteArray} (_h : 0 < s.size) : (s.extract 1 s.size).data.toList = s.data.toList.tail := by
  rw [ext_drop, List.drop_one]
theorem minus_at {s : ByteArray} (h : 0 < s.size) : (((s[0].toNat : Int)) == 45) = minusB s.data.toList := by
  unfold minusB
  rw [head_at h, Bool.eq_iff_iff, beq_iff_eq, decide_eq_true_iff]
  constructor
  · intro e; rw [show s[0] = 45 from UInt8.toNat_inj.1 (show s[0].toNat = 45 by omega)]
  · intro e; rw [Option.some.inj e]; rfl
theorem norm_ne {s : ByteArray} (h : normB s.data.toList = true) : 0 < s.size := by
  obtain ⟨z, _, e⟩ := (norm_iff _).1 h
  rw [← size_list, e]
  unfold Lib.itoa
  split
  · simp
  · exact List.length_pos_iff.2 (dec_ne _)

set_option maxRecDepth 100000 in
set_option maxHeartbeats 4000000 in
theorem rcmp_is (a b : ByteArray) (ha : a.size ≤ 50000) (hb : b.size ≤ 50000) (w : World) :
    Calls Tryz.prog 12 #[.string a, .string b] w fun e w' => e = .returned (.int .i64 (cmpR a.data.toList b.data.toList)) ∧ Below w.heap.size w w' := by
  obtain ⟨na, hna⟩ : ∃ x, normB a.data.toList = x := ⟨_, rfl⟩
  obtain ⟨nb, hnb⟩ : ∃ x, normB b.data.toList = x := ⟨_, rfl⟩
  have HA := Lib.hid (rnorm_is a ha na hna)
  have HB := Lib.hid (rnorm_is b hb nb hnb)
  cases na
  · have HR : Hid (cmpR a.data.toList b.data.toList = 0) := by show _ = _; unfold cmpR; rw [if_pos (.inl hna)]
    clear hna hnb
    go_enter Tryz.func12, Tryz.ntmps12
    go_wp2_with (go_at_call 32; first
      | ((with_reducible refine (HA.out _).mono ?_); rintro e w1 ⟨rfl, hb1⟩)
      | ((with_reducible refine (HB.out _).mono ?_); rintro e w2 ⟨rfl, hb2⟩))
    go_ret
    exact ⟨by rw [HR.out]; rfl, hb1⟩
  · cases nb
    · have HR : Hid (cmpR a.data.toList b.data.toList = 0) := by show _ = _; unfold cmpR; rw [if_pos (.inr (.inl hnb))]
      have hnb0 := hnb
      clear hnb
      have hab : (a.toList == b.toList) = false := by rw [beq_str]; exact decide_eq_false fun e => by subst e; rw [hna] at hnb0; cases hnb0
      · clear hna hnb0
        go_enter Tryz.func12, Tryz.ntmps12
        go_wp2_with (go_at_call 32; first
          | ((with_reducible refine (HA.out _).mono ?_); rintro e w1 ⟨rfl, hb1⟩)
          | ((with_reducible refine (HB.out _).mono ?_); rintro e w2 ⟨rfl, hb2⟩))
        go_ret
        exact ⟨by rw [HR.out]; rfl, hb1.trans (hb2.mono hb1.size)⟩
    · by_cases hab : a = b
      · subst hab
        have HR : Hid (cmpR a.data.toList a.data.toList = 0) := by show _ = _; unfold cmpR; rw [if_pos (.inr (.inr rfl))]
        have he : (a.toList == a.toList) = true := beq_self_eq_true _
        clear hna hnb
        go_enter Tryz.func12, Tryz.ntmps12
        go_wp2_with (go_at_call 32; first
          | (have hq := hb1; (with_reducible refine (HA.out _).mono ?_); rintro e w2 ⟨rfl, hb2⟩)
          | ((with_reducible refine (HA.out _).mono ?_); rintro e w1 ⟨rfl, hb1⟩))
        go_ret
        exact ⟨by rw [HR.out]; rfl, hb1.trans (hb2.mono hb1.size)⟩
      · have he : (a.toList == b.toList) = false := by rw [beq_str, decide_eq_false hab]
        have hcond : ¬ (normB a.data.toList = false ∨ normB b.data.toList = false ∨ a.data.toList = b.data.toList) := by
          rw [hna, hnb]; rintro (e | e | e)
          · cases e
          · cases e
          · exact hab (str_eq e)
        have ha0 := norm_ne hna
        have hb0 := norm_ne hnb
        have xa := minus_at ha0
        have xb := minus_at hb0
        obtain ⟨m, hm⟩ : ∃ x, minusB a.data.toList = x := ⟨_, rfl⟩
        obtain ⟨n, hn⟩ : ∃ x, minusB b.data.toList = x := ⟨_, rfl⟩
        rw [hm] at xa
        rw [hn] at xb
        cases m
        · cases n
          · skip
            obtain ⟨v, hv⟩ : ∃ v, overL a.data.toList b.data.toList = v := ⟨_, rfl⟩
            have HO := Lib.hid (fun w => over_is _ _ v hv w)
            have HR : Hid (cmpR a.data.toList b.data.toList = if v = true then 1 else -1) := by show _ = _; unfold cmpR; rw [if_neg hcond, hm, hn]; simp [hv]
            clear hna hnb hm hn hcond hab hv
            go_enter Tryz.func12, Tryz.ntmps12
            go_wp2_with (go_at_call 32; first
              | ((with_reducible refine (HA.out _).mono ?_); rintro e w1 ⟨rfl, hb1⟩)
              | ((with_reducible refine (HB.out _).mono ?_); rintro e w2 ⟨rfl, hb2⟩))
            have C : Hid (∀ n : Later w2, Calls Tryz.prog 30 #[.string a, .string b] n.at_ fun e w'' => e = .returned (.bool v) ∧ ∃ m : Later w2, w'' = m.at_) := fun n => (HO.out n.at_).mono fun e w' h => ⟨h.1, n, h.2.symm⟩
            cases v
            · refine wp_region_later w2 (by kernel_rfl) (by kernel_rfl) (Below.refl _ _) ?_
              repeat (go_big_quiet_step ((go_at_call 30; with_reducible exact C.out _)))
              refine wpQuiet_nil ?_
              rintro _ ⟨⟨w3, hb3⟩, rfl⟩
              go_wp2
              go_ret
              exact ⟨by rw [HR.out]; rfl, (hb1.trans (hb2.mono hb1.size)).trans (hb3.mono (hb1.trans (hb2.mono hb1.size)).size)⟩
            · refine wp_region_later w2 (by kernel_rfl) (by kernel_rfl) (Below.refl _ _) ?_
              repeat (go_big_quiet_step ((go_at_call 30; with_reducible exact C.out _)))
              refine wpQuiet_nil ?_
              rintro _ ⟨⟨w3, hb3⟩, rfl⟩
              go_wp2
              go_ret
              exact ⟨by rw [HR.out]; rfl, (hb1.trans (hb2.mono hb1.size)).trans (hb3.mono (hb1.trans (hb2.mono hb1.size)).size)⟩
          · skip
            have HR : Hid (cmpR a.data.toList b.data.toList = 1) := by show _ = _; unfold cmpR; rw [if_neg hcond, hm, hn]; rfl
            clear hna hnb hm hn hcond hab
            go_enter Tryz.func12, Tryz.ntmps12
            go_wp2_with (go_at_call 32; first
              | ((with_reducible refine (HA.out _).mono ?_); rintro e w1 ⟨rfl, hb1⟩)
              | ((with_reducible refine (HB.out _).mono ?_); rintro e w2 ⟨rfl, hb2⟩))
            go_ret
            exact ⟨by rw [HR.out]; rfl, hb1.trans (hb2.mono hb1.size)⟩
        · cases n
          · skip
            have HR : Hid (cmpR a.data.toList b.data.toList = -1) := by show _ = _; unfold cmpR; rw [if_neg hcond, hm, hn]; rfl
            clear hna hnb hm hn hcond hab
            go_enter Tryz.func12, Tryz.ntmps12
            go_wp2_with (go_at_call 32; first
              | ((with_reducible refine (HA.out _).mono ?_); rintro e w1 ⟨rfl, hb1⟩)
              | ((with_reducible refine (HB.out _).mono ?_); rintro e w2 ⟨rfl, hb2⟩))
            go_ret
            exact ⟨by rw [HR.out]; rfl, hb1.trans (hb2.mono hb1.size)⟩
          · skip
            obtain ⟨v, hv⟩ : ∃ v, overL (b.extract 1 b.size).data.toList (a.extract 1 a.size).data.toList = v := ⟨_, rfl⟩
            have HO := Lib.hid (fun w => over_is _ _ v hv w)
            rw [tail_ext hb0, tail_ext ha0] at hv
            have HR : Hid (cmpR a.data.toList b.data.toList = if v = true then 1 else -1) := by show _ = _; unfold cmpR; rw [if_neg hcond, hm, hn]; simp [hv]
            clear hna hnb hm hn hcond hab hv
            go_enter Tryz.func12, Tryz.ntmps12
            go_wp2_with (go_at_call 32; first
              | ((with_reducible refine (HA.out _).mono ?_); rintro e w1 ⟨rfl, hb1⟩)
              | ((with_reducible refine (HB.out _).mono ?_); rintro e w2 ⟨rfl, hb2⟩))
            have C : Hid (∀ n : Later w2, Calls Tryz.prog 30 #[.string (b.extract 1 b.size), .string (a.extract 1 a.size)] n.at_ fun e w'' => e = .returned (.bool v) ∧ ∃ m : Later w2, w'' = m.at_) := fun n => (HO.out n.at_).mono fun e w' h => ⟨h.1, n, h.2.symm⟩
            cases v
            · refine wp_region_later w2 (by kernel_rfl) (by kernel_rfl) (Below.refl _ _) ?_
              repeat (go_big_quiet_step ((go_at_call 30; with_reducible exact C.out _)))
              refine wpQuiet_nil ?_
              rintro _ ⟨⟨w3, hb3⟩, rfl⟩
              go_wp2
              go_ret
              exact ⟨by rw [HR.out]; rfl, (hb1.trans (hb2.mono hb1.size)).trans (hb3.mono (hb1.trans (hb2.mono hb1.size)).size)⟩
            · refine wp_region_later w2 (by kernel_rfl) (by kernel_rfl) (Below.refl _ _) ?_
              repeat (go_big_quiet_step ((go_at_call 30; with_reducible exact C.out _)))
              refine wpQuiet_nil ?_
              rintro _ ⟨⟨w3, hb3⟩, rfl⟩
              go_wp2
              go_ret
              exact ⟨by rw [HR.out]; rfl, (hb1.trans (hb2.mono hb1.size)).trans (hb3.mono (hb1.trans (hb2.mono hb1.size)).size)⟩

end Go.Proofs.YtghjiddcbbnhpaaGreatDoor
