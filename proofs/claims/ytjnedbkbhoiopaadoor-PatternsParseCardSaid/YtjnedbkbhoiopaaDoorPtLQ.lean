/- The walk over the law PatternsParse; no statement of the seat is proved here. -/
import Derived.Test.YtjnedbkbhoiopaaDoorPtRG
import Derived.Test.YtjnedbkbhoiopaaDoorPtRW
import Derived.Test.YtjnedbkbhoiopaaDoorPtPg
namespace Go.Proofs.YtjnedbkbhoiopaaDoor
open Go.RowKit

set_option maxRecDepth 100000 in
set_option maxHeartbeats 16000000 in
theorem parselaw_walk (s : ByteArray) (LA : Option Addr) (n cap : Nat) (w : World) (hM : PathsIs w LA n) :
    Calls Tryd.prog 5 #[.string s, .slice LA n cap] w fun e w' => e = .returned (.bool true) ∧ Below w.heap.size w w' := by
  have LV := Lib.hid (fun w => lives_any w)
  by_cases hbig : 2000 < s.size
  · go_enter Tryd.func5, Tryd.ntmps5
    go_wp2_with (go_at_call 8; (with_reducible refine (LV.out _).mono ?_); rintro e w1 ⟨rfl, hb1⟩)
    go_ret
    exact ⟨rfl, hb1⟩
  · by_cases hbig2 : 20 < n
    · go_enter Tryd.func5, Tryd.ntmps5
      go_wp2_with (go_at_call 8; (with_reducible refine (LV.out _).mono ?_); rintro e w1 ⟨rfl, hb1⟩)
      go_ret
      exact ⟨rfl, hb1⟩
    · have hs : s.size ≤ 2000 := by omega
      have hn20 : n ≤ 20 := by omega
      obtain ⟨ls, hls, hP⟩ := hM
      have HP := Lib.hid hP; have HN := Lib.hid hls
      obtain ⟨i0, hi0, hz0, hz1, hz2⟩ := info_parts step4_info
      have Hi := Lib.hid hi0; have Hz0 := Lib.hid hz0; have Hz1 := Lib.hid hz1; have Hz2 := Lib.hid hz2
      obtain ⟨⟨X, Y⟩, hw⟩ : ∃ x, wholeL s.data.toList = x := ⟨_, rfl⟩
      have WA := Lib.hid (fun w => whole_is s (by omega) X Y hw w)
      have WB := Lib.hid (fun w => rwhole_is s (by omega) X Y hw w)
      obtain ⟨Z, hZ⟩ : ∃ Z : ByteArray, (⟨(spellL s.data.toList).toArray⟩ : ByteArray) = Z := ⟨_, rfl⟩
      have sa := fun w => spell_is s (by omega) w
      have sb := fun w => rspell_is s (by omega) w
      rw [hZ] at sa sb
      have SA := Lib.hid sa; have SB := Lib.hid sb
      have PA := Lib.hid (fun w => parse_is s (by omega) w)
      have PB2 := Lib.hid (fun w => rparse_is s (by omega) w)
      obtain ⟨r, hr⟩ : ∃ r, parseL s.data.toList = r := ⟨_, rfl⟩
      have hpw : ∀ ps, r = .ok ps → (∀ p ∈ ps, okW s.data.toList p) ∧ ps.length ≤ 512 := fun ps e => ⟨parse_words (by rw [hr, e]), parse_len (by rw [hr, e])⟩
      rw [hr] at PA PB2
      obtain ⟨XB, hXB⟩ : ∃ XB : ByteArray, (⟨X.toArray⟩ : ByteArray) = XB := ⟨_, rfl⟩
      rw [hXB] at WA WB
      clear hP hls hw hZ sa sb hr hXB hi0 hz0 hz1 hz2
      cases r with
      | error k =>
        go_enter Tryd.func5, Tryd.ntmps5
        go_wp2_with (first
          | (go_at_call 13; (with_reducible refine (WA.out _).mono ?_); rintro e w1 ⟨rfl, hb1⟩)
          | (go_at_call 14; (with_reducible refine (WB.out _).mono ?_); rintro e w2 ⟨rfl, hb2⟩; have HB2 := Lib.hid (onB hb1 hb2); clear hb1 hb2)
          | (go_at_call 15; (with_reducible refine (SA.out _).mono ?_); rintro e w3 ⟨rfl, hb3⟩; have HB3 := Lib.hid (onB HB2.out hb3); clear hb3)
          | (go_at_call 16; (with_reducible refine (SB.out _).mono ?_); rintro e w4 ⟨rfl, hb4⟩; have HB4 := Lib.hid (onB HB3.out hb4); clear hb4)
          | (go_at_call 9; (with_reducible refine (PA.out _).mono ?_); rintro e w5 ⟨hr5, hb5⟩; have hr5' := (show _ = _ from hr5); subst hr5'; have HB5 := Lib.hid (onB (onB HB4.out hb5) (below_new1 w5 (.cells #[.int .i64 3, .int .i64 (k : Int)] 27))); have hf5 := heap_new1 w5 (.cells #[.int .i64 3, .int .i64 (k : Int)] 27); clear hr5 hb5)
          | (go_at_call 17; (with_reducible refine (PB2.out _).mono ?_); rintro e w6 ⟨hr6, hb6⟩; have hr6' := (show _ = _ from hr6); subst hr6'; have HB6 := Lib.hid (onB (onB HB5.out hb6) (below_new1 w6 (.cells #[.int .i64 3, .int .i64 (k : Int)] 27))); have hf6 := blk_later hf5 hb6 (blk_lt hf5); have a0 := blk_cell hf6 0; have a1 := blk_cell hf6 1; have hlt6 := blk_lt hf6; clear hr6 hb6 hf5 hf6)
          | (go_at_call 8; (with_reducible refine (LV.out _).mono ?_); rintro e w7 ⟨rfl, hb7⟩))
        go_ret
        exact ⟨rfl, onB HB6.out hb7⟩
      | ok ps =>
        obtain ⟨hpw1, hpl⟩ := hpw ps rfl
        have htx : (ps.flatMap Pat.text).length ≤ 20000 * 512 := by
          have := texts_len ps (fun p hp => pat_text_len (hpw1 p hp) (by rw [bal]; exact hs))
          omega
        have HPW := Lib.hid hpw1
        obtain ⟨T, hT⟩ : ∃ T : ByteArray, (⟨(textL ps).toArray⟩ : ByteArray) = T := ⟨_, rfl⟩
        have TA : Hid (∀ (W : World) (base b c : Nat) (A : Option Addr) (q : List (Pat × Value)), PB W base b A c q → ps = q.map (·.1) → Calls Tryd.prog 11 #[.pointer (some ⟨b, 0, none⟩)] W fun e w' => e = .returned (.string T) ∧ Below W.heap.size W w') := fun W base b c A q hP hq => by
          have := text_is base b A c q W hP (by rw [← hq]; omega)
          rw [← hq, hT] at this
          exact this
        have TB : Hid (∀ (W : World) (A : Option Addr) (c : Nat), RM W A ps → Calls Tryd.prog 18 #[.slice A ps.length c] W fun e w' => e = .returned (.string T) ∧ Below W.heap.size W w') := fun W A c hM => by
          have := rtext_is A ps.length c ps rfl (fun p hp => by have := HPW.out p hp; unfold okW at this; rw [bal] at this; omega) hpl W hM
          rw [hT] at this
          exact this
        clear hT htx hpw hpw1
        go_enter Tryd.func5, Tryd.ntmps5
        go_upto_region 15 with (first
          | (go_at_call 13; (with_reducible refine (WA.out _).mono ?_); rintro e w1 ⟨rfl, hb1⟩)
          | (go_at_call 14; (with_reducible refine (WB.out _).mono ?_); rintro e w2 ⟨rfl, hb2⟩; have HB2 := Lib.hid (onB hb1 hb2); clear hb1 hb2)
          | (go_at_call 15; (with_reducible refine (SA.out _).mono ?_); rintro e w3 ⟨rfl, hb3⟩; have HB3 := Lib.hid (onB HB2.out hb3); clear hb3)
          | (go_at_call 16; (with_reducible refine (SB.out _).mono ?_); rintro e w4 ⟨rfl, hb4⟩; have HB4 := Lib.hid (onB HB3.out hb4); clear hb4)
          | (go_at_call 9; (with_reducible refine (PA.out _).mono ?_); rintro e w5 ⟨⟨base, b, A, c, q, hpq, rfl, hP⟩, hb5⟩; have HB5 := Lib.hid (onB (onB HB4.out hb5) (below_new1 w5 (.cells #[.int .i64 0, .int .i64 0] 27))); have hf5 := heap_new1 w5 (.cells #[.int .i64 0, .int .i64 0] 27); have HP5 := Lib.hid (hP.keep (below_new1 w5 (.cells #[.int .i64 0, .int .i64 0] 27)) (Nat.le_refl _)); have HPQ := Lib.hid hpq; clear hP hb5 hpq)
          | (go_at_call 17; (with_reducible refine (PB2.out _).mono ?_); rintro e w6 ⟨⟨A6, c6, rfl, hM6⟩, hb6⟩; have HB6 := Lib.hid (onB (onB HB5.out hb6) (below_new1 w6 (.cells #[.int .i64 0, .int .i64 0] 27))); have hf6 := blk_later hf5 hb6 (blk_lt hf5); have a0 := blk_cell hf6 0; have a1 := blk_cell hf6 1; have hlt6 := blk_lt hf6; have HP6 := Lib.hid ((HP5.out.keep hb6 (Nat.le_refl _)).keep (below_new1 w6 (.cells #[.int .i64 0, .int .i64 0] 27)) (Nat.le_refl _)); have HM6 := Lib.hid (hM6.keep (below_new1 w6 (.cells #[.int .i64 0, .int .i64 0] 27))); clear hM6 hb6 hf5 hf6)
          | (go_at_call 11; (with_reducible refine (TA.out _ _ _ _ _ _ HP6.out HPQ.out).mono ?_); rintro e w7 ⟨rfl, hb7⟩; have HB7 := Lib.hid (onB HB6.out hb7); have HP7 := Lib.hid (HP6.out.keep hb7 (Nat.le_refl _)); have HM7 := Lib.hid (HM6.out.keep hb7); clear hb7)
          | (go_at_call 18; (with_reducible refine (TB.out _ _ _ HM7.out).mono ?_); rintro e w8 ⟨rfl, hb8⟩; have HB8 := Lib.hid (onB HB7.out hb8); have HP8 := Lib.hid (HP7.out.keep hb8 (Nat.le_refl _)); have HM8 := Lib.hid (HM7.out.keep hb8); have hql : q.length = ps.length := (by have := congrArg List.length HPQ.out; simp at this; omega); have LN := len_is b true A q.length c w8 HP8.out.1; rw [hql] at LN; have LN8 := Lib.hid LN; clear hb8 LN)
          | (go_at_call 12; (with_reducible refine Calls.mono LN8.out ?_); rintro e w9 ⟨rfl, rfl⟩))
        -- LOOPS
        have hql' : q.length = ps.length := by have := congrArg List.length HPQ.out; simp at this; omega
        go_wp2
        go_loopg [13] n (fun qq s13 wr => ∃ i : Nat, s13 = .int .i64 (i : Int) ∧ i ≤ n ∧ Hid (qq = n - i) ∧ Hid (Below w8.heap.size w8 wr))
        case atStart => exact ⟨0, rfl, by omega, by show _ = _; omega, Below.refl _ _⟩
        case round =>
          obtain ⟨i, rfl, hi, hq, HBi⟩ := hrel
          have HBr := HBi
          by_cases hlt : i < n
          · have hil : i < ls.length := by have := HN.out; omega
            obtain ⟨g, off, bb, pc, rfl, hg, hc, hPM⟩ := HP.out i hil
            obtain ⟨pa, hpa⟩ : ∃ pa, ls[i] = pa := ⟨_, rfl⟩
            rw [hpa] at hc hPM
            have hcr := cell_later (onB HB8.out HBi.out) hc
            have hPMr := hPM.keep (onB HB8.out HBi.out) (Nat.le_refl _)
            clear hpa hc hPM hg hil
            by_cases hbg : 100 < pa.length
            · go_wp2_with (go_at_call 8; (with_reducible refine (LV.out _).mono ?_); rintro e w9 ⟨rfl, hb9⟩)
              go_ret
              exact ⟨rfl, onB HB8.out (onB HBi.out hb9)⟩
            · obtain ⟨mv, hmv⟩ : ∃ mv, matchL ps (pa.map PS4.step) = mv := ⟨_, rfl⟩
              have HMV := Lib.hid hmv
              have hbg' : pa.length ≤ 100 := by omega
              clear hmv hbg
              by_cases hm0 : pa.length = 0
              · obtain rfl : pa = [] := List.eq_nil_of_length_eq_zero hm0
                replace hcr : wr.cell? ⟨g, off + i, none⟩ = some (.slice bb 0 pc) := hcr
                have hnone : ∀ (W : World) (B : Option Addr), PM W B [] := fun W B j hj => absurd hj (by simp)
                have C1 : Hid (∀ m' : Later wr, Calls Tryd.prog 10 #[.pointer (some ⟨b, 0, none⟩), .slice none 0 0] m'.at_ fun e w'' => e = .returned (.bool mv) ∧ ∃ m'' : Later wr, w'' = m''.at_) := fun m' => calls_later (by
                  have := match_is base b A c q m'.at_ (HP8.out.keep (onB HBr.out m'.below) (Nat.le_refl _)) none 0 [] (hnone _ _) (by simp) (by rw [hql']; omega) 0 rfl
                  rw [← HPQ.out, HMV.out] at this
                  exact this.mono fun e w' h => ⟨h.1, onB m'.below h.2⟩)
                have C2 : Hid (∀ m' : Later wr, Calls Tryd.prog 19 #[.slice A6 ps.length c6, .slice bb 0 pc] m'.at_ fun e w'' => e = .returned (.bool mv) ∧ ∃ m'' : Later wr, w'' = m''.at_) := fun m' => calls_later (by
                  have := rmatch_is A6 ps.length c6 ps rfl (by omega) bb 0 pc [] rfl (by omega) m'.at_ (HM8.out.keep (onB HBr.out m'.below)) (hnone _ _)
                  rw [HMV.out] at this
                  exact this.mono fun e w' h => ⟨h.1, onB m'.below h.2⟩)
                have l0 := later_cell hcr
                have hii : (i : Int) < (n : Int) := by omega
                have hii0 : (0 : Int) ≤ (i : Int) := by omega
                clear hnone hPMr hbg' hm0
                cases bb
                all_goals (
                  go_upto_region 21 with (fail)
                  refine wp_region_later wr (by kernel_rfl) (by kernel_rfl) (Below.refl _ _) ?_
                  repeat (go_big_quiet_step ((first | (go_at_call 10; with_reducible exact C1.out _) | (go_at_call 19; with_reducible exact C2.out _))))
                  refine wpQuiet_nil ?_
                  intro w4 hw4
                  obtain ⟨⟨w4', hb4⟩, e4⟩ := hw4
                  have e5 : w4 = w4' := e4
                  subst e5
                  clear e4 C1 C2 l0
                  have HB4 := Lib.hid hb4
                  clear hb4
                  go_wp2
                  go_loopg [15] 0 (fun qq s15 wq => ∃ k : Nat, s15 = .int .i64 (k : Int) ∧ k ≤ 0 ∧ Hid (qq = 0 - k) ∧ Hid (Below w4.heap.size w4 wq))
                  case atStart => exact ⟨0, rfl, by omega, rfl, Below.refl _ _⟩
                  case round =>
                    obtain ⟨k, rfl, hk, hqq, HBq⟩ := hrel
                    obtain rfl : k = 0 := by omega
                    go_wp2
                    go_roundg (n - (i + 1))
                    case measure => have := hq.out; omega
                    case rel => exact ⟨i + 1, by go_num, by omega, rfl, onB HBi.out (onB HB4.out HBq.out)⟩)

              · obtain ⟨AD, rfl⟩ : ∃ AD, bb = some AD := by
                  cases bb with
                  | none => have := (hPMr.none rfl rfl).1; omega
                  | some AD => exact ⟨AD, rfl⟩
                go_upto_region 21 with (at_builtin; refine wpList_append_growsW (by simp [Region.wanted]) (.const (.slice none 0 0)) (.tmp 102) 31 rfl 50 i0 _ 4 48 Tryd.underlying31 Hi.out Hz0.out Hz1.out Hz2.out rfl (by decide) none 0 0 [] (by simp [Act.eval]) (fun _ => ⟨rfl, rfl⟩) rfl (by rintro _ ⟨⟩) AD pa.length pc (rowP pa) (by simp [Act.eval]) (rowP_len pa) (hPMr.olds _ rfl) rowP_one (by omega) (by simp only [maxLen]; omega) (by omega) ?_; intro v' w3 hown3 hg3; obtain ⟨A3, c3, rfl, hc3⟩ := own_slice hown3; have HA3 := Lib.hid hown3; have HG3 := Lib.hid (below_grown hg3 (by rintro _ ⟨⟩) (Below.refl _ _) (Nat.le_refl _)); clear hown3 hg3)
                have ha3 := HA3.out
                rw [Nat.zero_add, List.nil_append] at ha3
                have HT3 := Lib.hid (PM.of_own ha3 rfl)
                obtain ⟨g3, cur3, rfl, _, _, _⟩ := (OwnS.of_own ha3).at_ (by omega)
                clear ha3 HA3
                have HB3 := Lib.hid (HG3.out)
                have hc3 := cell_later HB3.out hcr
                have hPM3 := hPMr.keep HB3.out (Nat.le_refl _)
                have HPM3 := Lib.hid hPM3
                have hbw := Lib.hid (onB HBr.out HB3.out)
                have C1 : Hid (∀ m' : Later w3, Calls Tryd.prog 10 #[.pointer (some ⟨b, 0, none⟩), .slice (some ⟨g3, 0, none⟩) pa.length c3] m'.at_ fun e w'' => e = .returned (.bool mv) ∧ ∃ m'' : Later w3, w'' = m''.at_) := fun m' => calls_later (by
                  have := match_is base b A c q m'.at_ (HP8.out.keep (onB hbw.out m'.below) (Nat.le_refl _)) (some ⟨g3, 0, none⟩) c3 pa (HT3.out.keep m'.below (Nat.le_refl _)) (by omega) (by rw [hql']; omega) pa.length rfl
                  rw [← HPQ.out, HMV.out] at this
                  exact this.mono fun e w' h => ⟨h.1, onB m'.below h.2⟩)
                have C2 : Hid (∀ m' : Later w3, Calls Tryd.prog 19 #[.slice A6 ps.length c6, .slice (some AD) pa.length pc] m'.at_ fun e w'' => e = .returned (.bool mv) ∧ ∃ m'' : Later w3, w'' = m''.at_) := fun m' => calls_later (by
                  have := rmatch_is A6 ps.length c6 ps rfl (by omega) (some AD) pa.length pc pa rfl (by omega) m'.at_ (HM8.out.keep (onB hbw.out m'.below)) (HPM3.out.keep m'.below (Nat.le_refl _))
                  rw [HMV.out] at this
                  exact this.mono fun e w' h => ⟨h.1, onB m'.below h.2⟩)
                have l0 := later_cell hc3
                have hii : (i : Int) < (n : Int) := by omega
                have hii0 : (0 : Int) ≤ (i : Int) := by omega
                clear hc3 hPM3
                refine wp_region_later w3 (by kernel_rfl) (by kernel_rfl) (Below.refl _ _) ?_
                repeat (go_big_quiet_step ((first | (go_at_call 10; with_reducible exact C1.out _) | (go_at_call 19; with_reducible exact C2.out _))))
                refine wpQuiet_nil ?_
                intro w4 hw4
                obtain ⟨⟨w4', hb4⟩, e4⟩ := hw4
                have e5 : w4 = w4' := e4
                subst e5
                clear e4 C1 C2 l0
                have HB4 := Lib.hid (onB HB3.out hb4)
                have HT4 := Lib.hid (HT3.out.keep hb4 (Nat.le_refl _))
                have HPM4 := Lib.hid (HPM3.out.keep hb4 (Nat.le_refl _))
                have hc4 := Lib.hid (cell_later HB4.out hcr)
                clear hb4
                go_wp2
                go_loopg [15] pa.length (fun qq s15 wq => ∃ k : Nat, s15 = .int .i64 (k : Int) ∧ k ≤ pa.length ∧ Hid (qq = pa.length - k) ∧ Hid (Below w4.heap.size w4 wq))
                case atStart => exact ⟨0, rfl, by omega, by show _ = _; omega, Below.refl _ _⟩
                case round =>
                  obtain ⟨k, rfl, hk, hqq, HBq⟩ := hrel
                  by_cases hkl : k < pa.length
                  · obtain ⟨g1, o1, e1, _, m0, m1, m2, m3⟩ := (HT4.out.keep HBq.out (Nat.le_refl _)) k hkl
                    obtain ⟨g2, o2, e2, _, n0, n1, n2, n3⟩ := (HPM4.out.keep HBq.out (Nat.le_refl _)) k hkl
                    obtain ⟨x, hx⟩ : ∃ x, pa[k] = x := ⟨_, rfl⟩
                    rw [hx] at m0 m1 m2 m3 n0 n1 n2 n3
                    have l0 := later_cell m0; have l1 := later_cell m1; have l2 := later_cell m2; have l3 := later_cell m3
                    have r0 := later_cell n0; have r1 := later_cell n1; have r2 := later_cell n2; have r3 := later_cell n3
                    have lc := later_cell (cell_later HBq.out hc4.out)
                    rw [e2] at lc
                    have seq := fun W => step_same x.k x.t x.d x.a W
                    have hkk : (k : Int) < (pa.length : Int) := by omega
                    have hkk0 : (0 : Int) ≤ (k : Int) := by omega
                    obtain ⟨rfl, rfl⟩ : g3 = g1 ∧ 0 = o1 := by cases e1; exact ⟨rfl, rfl⟩
                    obtain rfl : AD = ⟨g2, o2, none⟩ := Option.some.inj e2
                    simp only [Nat.zero_add] at l0 l1 l2 l3
                    clear m0 m1 m2 m3 n0 n1 n2 n3 hx
                    go_wp2
                    refine wp_region_later wr (by kernel_rfl) (by kernel_rfl) (Below.refl _ _) ?_
                    repeat (go_big_quiet_step (fail))
                    refine wpQuiet_nil ?_
                    intro w6' hw6
                    obtain ⟨⟨w6'', hb6⟩, e4⟩ := hw6
                    have e5 : w6' = w6'' := e4
                    subst e5
                    clear e4 l0 l1 l2 l3 r0 r1 r2 r3 lc seq
                    go_wp2
                    go_roundg (pa.length - (k + 1))
                    case measure => have := hqq.out; omega
                    case rel => exact ⟨k + 1, by go_num, by omega, rfl, onB HBq.out hb6⟩
                  · go_wp2
                    go_roundg (n - (i + 1))
                    case measure => have := hq.out; omega
                    case rel => exact ⟨i + 1, by go_num, by omega, rfl, onB HBi.out (onB HB4.out HBq.out)⟩
          · go_wp2_with (go_at_call 8; (with_reducible refine (LV.out _).mono ?_); rintro e w9 ⟨rfl, hb9⟩)
            go_ret
            exact ⟨rfl, onB HB8.out (onB HBi.out hb9)⟩

end Go.Proofs.YtjnedbkbhoiopaaDoor
