/- The reference's Read of chapter 06; no statement of the seat is proved here. -/
import Derived.Test.YtncldnghhpdolaaGreatDoorFlD
import Derived.Test.YtncldnghhpdolaaGreatDoorFlE
import Derived.Test.YtncldnghhpdolaaGreatDoorDcRS
namespace Go.Proofs.YtncldnghhpdolaaGreatDoor
open Go.RowKit

theorem sig_cases {c : UInt8} (h : isSig c = true) : c = 43 ∨ (c ≠ 43 ∧ c = 45) := by
  have := u8_allB (p := fun c => !isSig c || (decide (c = 43) || (decide (c ≠ 43) && decide (c = 45)))) (by decide +kernel) c
  simp only [h, Bool.not_true, Bool.false_or, Bool.or_eq_true, Bool.and_eq_true, decide_eq_true_eq] at this
  exact this
theorem sig_casesF {c : UInt8} (h : isSig c = false) : c ≠ 43 ∧ c ≠ 45 := by
  constructor <;> (rintro rfl; revert h; decide)
theorem exp_cases {c : UInt8} (h : isExp c = true) : c = 101 ∨ (c ≠ 101 ∧ c = 69) := by
  have := u8_allB (p := fun c => !isExp c || (decide (c = 101) || (decide (c ≠ 101) && decide (c = 69)))) (by decide +kernel) c
  simp only [h, Bool.not_true, Bool.false_or, Bool.or_eq_true, Bool.and_eq_true, decide_eq_true_eq] at this
  exact this
theorem exp_casesF {c : UInt8} (h : isExp c = false) : c ≠ 101 ∧ c ≠ 69 := by
  constructor <;> (rintro rfl; revert h; decide)
theorem u8_yes {c n : UInt8} (h : c = n) : (((c.toNat : Int)) == ((n.toNat : Nat) : Int)) = true := by rw [u8_beq]; simpa using h
theorem u8_no {c n : UInt8} (h : c ≠ n) : (((c.toNat : Int)) == ((n.toNat : Nat) : Int)) = false := by rw [u8_beq]; simpa using h
theorem sign_of {s : ByteArray} (h : hdB isSig s.data.toList = true) : ∃ h0 : 0 < s.size, isSig s[0] = true ∧ signR s.data.toList = if s[0] = 45 then [45] else [] := by
  obtain ⟨h0, h1⟩ := hd_yes (q := 0) (s := s) rfl h
  refine ⟨h0, h1, ?_⟩
  unfold signR
  rw [head_at h0]
  simp
theorem sign_none {l : List UInt8} (h : hdB isSig l = false) : signR l = [] := by
  unfold signR
  rw [if_neg]
  intro e
  cases l with
  | nil => cases e
  | cons c r => injection e with e; subst e; cases h

set_option maxRecDepth 100000 in
set_option maxHeartbeats 16000000 in
theorem rread06_is (s r : ByteArray) (c : Int) (hs : s.size ≤ 100000) (hr : fltR s.data.toList = (r.data.toList, c)) (w : World) :
    Calls Tryz.prog 9 #[.string s] w fun e w' => e = .returned (.tuple #[.string r, .int .i64 c]) ∧ Below w.heap.size w w' := by
  rw [fltR_pl] at hr
  have HR := Lib.hid hr; clear hr
  obtain ⟨b, hb⟩ : ∃ m, Hid (hdB isSig s.data.toList = m) := ⟨_, rfl⟩
  obtain ⟨q0, hq0⟩ : ∃ m, Hid (i0R s.data.toList = m) := ⟨_, rfl⟩
  obtain ⟨SG, hSG⟩ : ∃ m : ByteArray, Hid (m.data.toList = signR s.data.toList) := str_ex _
  have hq0s : q0 ≤ s.size := by rw [← hq0.out]; exact i0_le _
  have hSGs : SG.size ≤ 1 := by
    have : SG.data.toList.length ≤ 1 := by rw [hSG.out]; unfold signR; split <;> simp
    exact this
  go_enter Tryz.func9, Tryz.ntmps9
  go_upto_region 3 with (fail)
  go_cut [25] from 13 to 25 (fun s25 w' => s25 = .bool b ∧ w' = w)
  case first =>
    cases b
    · rcases hd_not (q := 0) (s := s) rfl hb.out with h | ⟨h, hh⟩
      · go_wp2
        go_meet
        case rel => exact ⟨rfl, rfl⟩
      · obtain ⟨h1, h2⟩ := sig_casesF hh
        have g1 : (((s[0]'h).toNat : Int) == 43) = false := u8_no h1
        have g2 : (((s[0]'h).toNat : Int) == 45) = false := u8_no h2
        clear hh h1 h2
        go_wp2
        go_meet
        case rel => exact ⟨rfl, rfl⟩
    · obtain ⟨h, hh⟩ := hd_yes (q := 0) (s := s) rfl hb.out
      rcases sig_cases hh with h1 | ⟨h1, h2⟩
      · have g1 : (((s[0]'h).toNat : Int) == 43) = true := u8_yes h1
        clear hh h1
        go_wp2
        go_meet
        case rel => exact ⟨rfl, rfl⟩
      · have g1 : (((s[0]'h).toNat : Int) == 43) = false := u8_no h1
        have g2 : (((s[0]'h).toNat : Int) == 45) = true := u8_yes h2
        clear hh h1 h2
        go_wp2
        go_meet
        case rel => exact ⟨rfl, rfl⟩
  case rest =>
    obtain ⟨rfl, rfl⟩ := hcut
    go_upto_if 25 with (fail)
    go_cut [4, 5] from 26 to 28 (fun s4 s5 w' => s4 = .int .i64 (q0 : Int) ∧ s5 = .string SG ∧ w' = wc)
    case first =>
      have e0 := hq0.out
      unfold i0R at e0
      rw [hb.out] at e0
      cases b
      · have e1 : SG = ⟨#[]⟩ := str_eq (by rw [hSG.out, sign_none hb.out])
        go_wp2
        go_meet
        case rel => exact ⟨by rw [← e0]; rfl, by rw [e1], rfl⟩
      · obtain ⟨h, hh, hx⟩ := sign_of hb.out
        by_cases h5 : s[0] = 45
        · have g1 : (((s[0]'h).toNat : Int) == 45) = true := u8_yes h5
          have e1 : SG = ⟨#[45]⟩ := str_eq (by rw [hSG.out, hx, if_pos h5])
          clear hh hx h5
          go_wp2
          go_meet
          case rel => exact ⟨by rw [← e0]; rfl, by rw [e1], rfl⟩
        · have g1 : (((s[0]'h).toNat : Int) == 45) = false := u8_no h5
          have e1 : SG = ⟨#[]⟩ := str_eq (by rw [hSG.out, hx, if_neg h5])
          clear hh hx h5
          go_wp2
          go_meet
          case rel => exact ⟨by rw [← e0]; rfl, by rw [e1], rfl⟩
    case rest =>
      obtain ⟨rfl, rfl, rfl⟩ := hcut
      have hBl : (s.extract q0 s.size).data.toList = s.data.toList.drop (i0R s.data.toList) := by rw [ext_end, hq0.out]
      by_cases c1 : (s.extract q0 s.size).data.toList = infL
      · have x1 : ((s.extract q0 s.size).toList == [105, 110, 102]) = true := beq_lit c1
        have hr := HR.out
        rw [← hBl, if_pos c1] at hr
        injection hr with h1 h2
        obtain rfl : SG ++ ⟨#[105, 110, 102]⟩ = r := str_eq (by rw [app_list, hSG.out]; exact h1)
        subst h2
        have x2 : ¬ 9223372036854775807 < SG.size + 3 := by omega
        clear h1 c1 hBl HR hSG hb hq0
        go_wp2
        go_ret2
        exact ⟨rfl, Below.refl _ _⟩
      · have x1 : ((s.extract q0 s.size).toList == [105, 110, 102]) = false := beq_litF c1
        by_cases c2 : (s.extract q0 s.size).data.toList = nanL
        · have x2 : ((s.extract q0 s.size).toList == [110, 97, 110]) = true := beq_lit c2
          have hr := HR.out
          rw [← hBl, if_neg c1, if_pos c2] at hr
          injection hr with h1 h2
          obtain rfl : ⟨#[110, 97, 110]⟩ = r := str_eq h1
          subst h2
          clear h1 c1 c2 hBl HR hSG hb hq0
          go_wp2
          go_ret2
          exact ⟨rfl, Below.refl _ _⟩
        · have x2 : ((s.extract q0 s.size).toList == [110, 97, 110]) = false := beq_litF c2
          have hr := HR.out
          rw [← hBl, if_neg c1, if_neg c2] at hr
          clear HR
          have HR := Lib.hid hr; clear hr
          obtain ⟨N1, hN1⟩ : ∃ m : ByteArray, Hid (m.data.toList = n1R s.data.toList) := str_ex _
          obtain ⟨e1, he1⟩ : ∃ m, Hid (e1R s.data.toList = m) := ⟨_, rfl⟩
          have he1s : e1 ≤ s.size := by rw [← he1.out]; exact e1_le _
          have hN1s : N1.size ≤ s.size := by
            have : N1.data.toList.length ≤ s.data.toList.length := by rw [hN1.out]; exact Nat.le_trans (runD_le _) (by rw [List.length_drop]; omega)
            exact this
          have R1 := Lib.hid (rrun_is s N1 q0 e1 (q0 : Int) rfl (by omega) hq0s (by rw [← he1.out, ← hq0.out]; rfl) (by rw [hN1.out, ← hq0.out]; rfl))
          clear c1 c2 hBl
          go_upto_region 12 with (go_at_call 21; refine (R1.out _).mono ?_; rintro e w' ⟨rfl, hw'⟩; rw [hw'])
          clear x1 x2 R1
          obtain ⟨bd, hbd⟩ : ∃ m, Hid (decide (n1R s.data.toList = [] ∨ (1 < (n1R s.data.toList).length ∧ (n1R s.data.toList).head? = some 48)) = m) := ⟨_, rfl⟩
          go_cut [56] from 45 to 56 (fun s56 w' => s56 = .bool bd ∧ w' = wc)
          case first =>
            have e := hbd.out
            rw [← hN1.out] at e
            by_cases h0 : N1.data.toList = []
            · have o1 : N1.toList.isEmpty = true := by rw [ByteArray.toList_eq, h0]; rfl
              have o2 : N1.toList = [] := by rw [ByteArray.toList_eq, h0]
              have eb : bd = true := by rw [← e]; exact decide_eq_true (.inl h0)
              subst eb
              clear e h0
              go_wp2
              go_meet
              case rel => exact ⟨rfl, rfl⟩
            · have o1 := full_of h0
              have hp : 0 < N1.size := by
                have := List.length_pos_iff.2 h0
                exact this
              have hh := head_at hp
              rw [hh] at e
              by_cases h1 : N1[0] = 48
              · have g1 : (((N1[0]'hp).toNat : Int) == 48) = true := u8_yes h1
                by_cases h2 : 1 < N1.size
                · have g2 : decide ((1 : Int) < (N1.size : Int)) = true := decide_eq_true (by omega)
                  have eb : bd = true := by rw [← e]; exact decide_eq_true (.inr ⟨h2, by rw [h1]⟩)
                  subst eb
                  clear e h0 hh h1
                  go_wp2
                  go_meet
                  case rel => exact ⟨rfl, rfl⟩
                · have g2 : decide ((1 : Int) < (N1.size : Int)) = false := decide_eq_false (by omega)
                  have eb : bd = false := by rw [← e]; exact decide_eq_false (fun k => k.elim h0 fun k => h2 k.1)
                  subst eb
                  clear e h0 hh h1
                  go_wp2
                  go_meet
                  case rel => exact ⟨rfl, rfl⟩
              · have g1 : (((N1[0]'hp).toNat : Int) == 48) = false := u8_no h1
                have eb : bd = false := by rw [← e]; exact decide_eq_false (fun k => k.elim h0 fun k => h1 (Option.some.inj k.2))
                subst eb
                clear e h0 hh h1
                go_wp2
                go_meet
                case rel => exact ⟨rfl, rfl⟩
          case rest =>
            obtain ⟨rfl, rfl⟩ := hcut
            have hr := HR.out
            cases bd
            · rw [if_neg (of_decide_eq_false hbd.out)] at hr
              clear HR hbd
              have HR := Lib.hid hr; clear hr
              obtain ⟨pt, hpt⟩ : ∃ m, Hid (ptR s.data.toList = m) := ⟨_, rfl⟩
              have x1 : ¬ 9223372036854775807 < SG.size + N1.size := by omega
              go_upto_region 16 with (fail)
              go_cut [69] from 60 to 69 (fun s69 w' => s69 = .bool pt ∧ w' = wc)
              case first =>
                have e := hpt.out
                unfold ptR at e
                rw [he1.out] at e
                cases pt
                · rcases hd_not (q := e1) (s := s) rfl e with h | ⟨h, hh⟩
                  · have g0 : decide ((e1 : Int) < (s.size : Int)) = false := decide_eq_false (by omega)
                    clear e
                    go_wp2
                    go_meet
                    case rel => exact ⟨rfl, rfl⟩
                  · have g0 : decide ((e1 : Int) < (s.size : Int)) = true := decide_eq_true (by omega)
                    have g1 : (((s[e1]'h).toNat : Int) == 46) = false := u8_no (by unfold isDot at hh; simpa using hh)
                    clear e hh
                    go_wp2
                    go_meet
                    case rel => exact ⟨rfl, rfl⟩
                · obtain ⟨h, hh⟩ := hd_yes (q := e1) (s := s) rfl e
                  have g0 : decide ((e1 : Int) < (s.size : Int)) = true := decide_eq_true (by omega)
                  have g1 : (((s[e1]'h).toNat : Int) == 46) = true := u8_yes (by unfold isDot at hh; simpa using hh)
                  clear e hh
                  go_wp2
                  go_meet
                  case rel => exact ⟨rfl, rfl⟩
              case rest =>
                obtain ⟨rfl, rfl⟩ := hcut
                clear x1 hw'
                go_upto_if 69 with (fail)
                obtain ⟨P2, hP2⟩ : ∃ m : ByteArray, Hid (m.data.toList = p2R s.data.toList) := str_ex _
                have hP2s : P2.size ≤ s.size := by
                  have : P2.data.toList.length ≤ s.data.toList.length := by rw [hP2.out]; exact Nat.le_trans (runD_le _) (by rw [List.length_drop]; omega)
                  exact this
                obtain ⟨e2, he2⟩ : ∃ m, Hid (e2R s.data.toList = m) := ⟨_, rfl⟩
                have hE1 : pt = true → e1 + 1 ≤ s.size := fun h => by
                  have := hpt.out
                  rw [h] at this
                  have := hd_drop this
                  rw [he1.out] at this
                  exact this
                have R2 := fun (h : pt = true) => Lib.hid (rrun_is s P2 (e1 + 1) e2 ((e1 : Int) + 1) (by omega) (by omega) (hE1 h) (by rw [← he2.out, ← he1.out]; rfl) (by rw [hP2.out, ← he1.out]; rfl))
                by_cases hv : pt = true ∧ P2.data.toList = []
                · obtain ⟨rfl, h0⟩ := hv
                  have R2 := R2 rfl
                  have o1 : P2.toList.isEmpty = true := by rw [ByteArray.toList_eq, h0]; rfl
                  have o2 : P2.toList = [] := by rw [ByteArray.toList_eq, h0]
                  have hr := HR.out
                  rw [if_pos ⟨hpt.out, by rw [← hP2.out]; exact h0⟩] at hr
                  injection hr with h1 h2
                  obtain rfl : ⟨#[]⟩ = r := str_eq h1
                  subst h2
                  clear h1 HR hN1 hP2 he1 he2 hSG hb hq0 h0 hE1 hpt
                  go_wp2_with (go_at_call 21; refine (R2.out _).mono ?_; rintro e w' ⟨rfl, hw'⟩; rw [hw'])
                  go_ret2
                  exact ⟨rfl, Below.refl _ _⟩
                · have hr := HR.out
                  rw [if_neg (by rw [hpt.out, ← hP2.out]; exact hv)] at hr
                  clear HR
                  have HR := Lib.hid hr; clear hr
                  obtain ⟨T2, hT2⟩ : ∃ m : ByteArray, Hid (m.data.toList = t2R s.data.toList) := str_ex _
                  obtain ⟨k2, hk2⟩ : ∃ m, Hid (k2R s.data.toList = m) := ⟨_, rfl⟩
                  have hk2s : k2 ≤ s.size := by rw [← hk2.out]; exact k2_le _
                  have y1 : ¬ 9223372036854775807 < SG.size + N1.size + 1 := by omega
                  have y2 : ¬ 9223372036854775807 < SG.size + N1.size + 1 + P2.size := by omega
                  have HV := Lib.hid hv; clear hv
                  go_cut [4, 7, 8] from 70 to 83 (fun s4 s7 s8 w' => s4 = .int .i64 (k2 : Int) ∧ s7 = .string T2 ∧ s8 = .bool pt ∧ w' = wc)
                  case first =>
                    cases pt
                    · have z1 : e1 = k2 := by rw [← hk2.out]; unfold k2R; rw [if_neg (by rw [hpt.out]; decide), he1.out]
                      have z2 : SG ++ N1 = T2 := str_eq (by rw [app_list, hT2.out, hSG.out, hN1.out]; unfold t2R; rw [if_neg (by rw [hpt.out]; decide), List.append_nil])
                      clear hE1 R2
                      go_wp2
                      go_meet
                      case rel => exact ⟨(by first | rfl | rw [z1]), (by first | rfl | rw [z2]), rfl, rfl⟩
                    · have R2 := R2 rfl
                      have z1 : e2 = k2 := by rw [← hk2.out]; unfold k2R; rw [if_pos hpt.out, he2.out]
                      have z2 : SG ++ N1 ++ ⟨#[46]⟩ ++ P2 = T2 := str_eq (by rw [app_list, app_list, app_list, hT2.out, hSG.out, hN1.out, hP2.out]; unfold t2R; rw [if_pos hpt.out]; simp)
                      have h0 : P2.data.toList ≠ [] := fun e => HV.out ⟨rfl, e⟩
                      have o1 := full_of h0
                      clear hE1 h0
                      go_wp2_with (go_at_call 21; refine (R2.out _).mono ?_; rintro e w' ⟨rfl, hw'⟩; rw [hw'])
                      go_meet
                      case rel => exact ⟨(by first | rfl | rw [z1]), (by first | rfl | rw [z2]), rfl, rfl⟩
                  case rest =>
                    obtain ⟨rfl, rfl, rfl, rfl⟩ := hcut
                    clear y1 y2 R2 hE1 HV
                    have hT2s : T2.size ≤ 200002 := by
                      have h1 : T2.data.toList.length = T2.size := rfl
                      have h2 : SG.data.toList.length = SG.size := rfl
                      have h3 : N1.data.toList.length = N1.size := rfl
                      have h4 : P2.data.toList.length = P2.size := rfl
                      rw [← h1, hT2.out]
                      unfold t2R
                      rw [← hSG.out, ← hN1.out, ← hP2.out, List.length_append, List.length_append, h2, h3]
                      split
                      · rw [List.length_cons, h4]; omega
                      · simp; omega
                    clear hP2 hP2s he2 hN1 he1 hSG hq0 hb
                    obtain ⟨ra, hra⟩ : ∃ m, Hid (raR s.data.toList = m) := ⟨_, rfl⟩
                    go_upto_region 23 with (fail)
                    go_cut [99] from 84 to 99 (fun s99 w' => s99 = .bool ra ∧ w' = wc)
                    case first =>
                      have e := hra.out
                      unfold raR at e
                      rw [hk2.out] at e
                      cases ra
                      · rcases hd_not (q := k2) (s := s) rfl e with h | ⟨h, hh⟩
                        · have g0 : decide ((k2 : Int) < (s.size : Int)) = false := decide_eq_false (by omega)
                          clear e
                          go_wp2
                          go_meet
                          case rel => exact ⟨rfl, rfl⟩
                        · obtain ⟨h1, h2⟩ := exp_casesF hh
                          have g0 : decide ((k2 : Int) < (s.size : Int)) = true := decide_eq_true (by omega)
                          have g1 : (((s[k2]'h).toNat : Int) == 101) = false := u8_no h1
                          have g2 : (((s[k2]'h).toNat : Int) == 69) = false := u8_no h2
                          clear e hh h1 h2
                          go_wp2
                          go_meet
                          case rel => exact ⟨rfl, rfl⟩
                      · obtain ⟨h, hh⟩ := hd_yes (q := k2) (s := s) rfl e
                        have g0 : decide ((k2 : Int) < (s.size : Int)) = true := decide_eq_true (by omega)
                        rcases exp_cases hh with h1 | ⟨h1, h2⟩
                        · have g1 : (((s[k2]'h).toNat : Int) == 101) = true := u8_yes h1
                          clear e hh h1
                          go_wp2
                          go_meet
                          case rel => exact ⟨rfl, rfl⟩
                        · have g1 : (((s[k2]'h).toNat : Int) == 101) = false := u8_no h1
                          have g2 : (((s[k2]'h).toNat : Int) == 69) = true := u8_yes h2
                          clear e hh h1 h2
                          go_wp2
                          go_meet
                          case rel => exact ⟨rfl, rfl⟩
                    case rest =>
                      obtain ⟨rfl, rfl⟩ := hcut
                      go_upto_if 99 with (fail)
                      cases ra
                      · have hr := HR.out
                        rw [if_neg (by rw [hra.out]; decide), hk2.out, hpt.out, size_list] at hr
                        clear HR hra
                        by_cases h1 : k2 < s.size ∨ pt = false
                        · rw [if_pos h1] at hr
                          injection hr with h2 h3
                          obtain rfl : ⟨#[]⟩ = r := str_eq h2
                          subst h3
                          clear h2 hk2 hT2 hpt
                          by_cases h2 : k2 < s.size
                          · have g0 : decide ((k2 : Int) < (s.size : Int)) = true := decide_eq_true (by omega)
                            clear h1
                            go_wp2
                            go_ret2
                            exact ⟨rfl, Below.refl _ _⟩
                          · have g0 : decide ((k2 : Int) < (s.size : Int)) = false := decide_eq_false (by omega)
                            obtain rfl : pt = false := h1.resolve_left h2
                            clear h1
                            go_wp2
                            go_ret2
                            exact ⟨rfl, Below.refl _ _⟩
                        · rw [if_neg h1] at hr
                          have g0 : s.size ≤ k2 := by omega
                          obtain rfl : pt = true := by
                            cases pt
                            · exact absurd (.inr rfl) h1
                            · rfl
                          have HRD := Lib.hid (rread_is T2 r c (by omega) (by rw [hT2.out]; exact hr))
                          clear h1 hr hk2 hT2 hpt
                          go_wp2_with (go_at_call 22; refine (HRD.out _).mono ?_; rintro e w' ⟨rfl, hb'⟩)
                          go_ret2
                          exact ⟨rfl, hb'⟩
                      · have hr := HR.out
                        rw [if_pos hra.out] at hr
                        clear HR
                        have HR := Lib.hid hr; clear hr
                        obtain ⟨P3, hP3⟩ : ∃ m : ByteArray, Hid (m.data.toList = p3R s.data.toList) := str_ex _
                        have hP3s : P3.size ≤ s.size := by
                          have : P3.data.toList.length ≤ s.data.toList.length := by rw [hP3.out]; exact Nat.le_trans (runD_le _) (by rw [List.length_drop]; omega)
                          exact this
                        obtain ⟨e3, he3⟩ : ∃ m, Hid (e3R s.data.toList = m) := ⟨_, rfl⟩
                        obtain ⟨sb, hsb⟩ : ∃ m, Hid (sbR s.data.toList = m) := ⟨_, rfl⟩
                        obtain ⟨k3, hk3⟩ : ∃ m, Hid (k3R s.data.toList = m) := ⟨_, rfl⟩
                        obtain ⟨T4, hT4⟩ : ∃ m : ByteArray, Hid (m.data.toList = t2R s.data.toList ++ (101 :: sgR s.data.toList)) := str_ex _
                        have HK : Hid (k3 = if sb = true then k2 + 1 + 1 else k2 + 1) := by
                          show _ = _
                          rw [← hk3.out]; unfold k3R; rw [hsb.out, hk2.out]
                        have hk2l : k2 < s.size := by have := hd_drop hra.out; rw [hk2.out] at this; exact this
                        have hk3s : k3 ≤ s.size := by rw [← hk3.out]; exact k3_le _ hra.out
                        have he3s : e3 ≤ s.size := by rw [← he3.out]; exact e3_le _ hra.out
                        have R3 := Lib.hid (rrun_is s P3 k3 e3 (k3 : Int) rfl (by omega) hk3s (by rw [← he3.out, ← hk3.out]; rfl) (by rw [hP3.out, ← hk3.out]; rfl))
                        have y1 : ¬ 9223372036854775807 < T2.size + 1 := by omega
                        clear he3s hk3s
                        go_upto_region 26 with (fail)
                        go_cut [119] from 104 to 119 (fun s119 w' => s119 = .bool sb ∧ w' = wc)
                        case first =>
                          have e := hsb.out
                          unfold sbR at e
                          rw [hk2.out] at e
                          cases sb
                          · rcases hd_not (q := k2 + 1) (s := s) rfl e with h | ⟨h, hh⟩
                            · have g0 : decide ((k2 : Int) + 1 < (s.size : Int)) = false := decide_eq_false (by omega)
                              clear e
                              go_wp2
                              go_meet
                              case rel => exact ⟨rfl, rfl⟩
                            · obtain ⟨h1, h2⟩ := sig_casesF hh
                              have g0 : decide ((k2 : Int) + 1 < (s.size : Int)) = true := decide_eq_true (by omega)
                              have g1 : (((s[k2 + 1]'h).toNat : Int) == 43) = false := u8_no h1
                              have g2 : (((s[k2 + 1]'h).toNat : Int) == 45) = false := u8_no h2
                              clear e hh h1 h2
                              go_wp2
                              go_meet
                              case rel => exact ⟨rfl, rfl⟩
                          · obtain ⟨h, hh⟩ := hd_yes (q := k2 + 1) (s := s) rfl e
                            have g0 : decide ((k2 : Int) + 1 < (s.size : Int)) = true := decide_eq_true (by omega)
                            rcases sig_cases hh with h1 | ⟨h1, h2⟩
                            · have g1 : (((s[k2 + 1]'h).toNat : Int) == 43) = true := u8_yes h1
                              clear e hh h1
                              go_wp2
                              go_meet
                              case rel => exact ⟨rfl, rfl⟩
                            · have g1 : (((s[k2 + 1]'h).toNat : Int) == 43) = false := u8_no h1
                              have g2 : (((s[k2 + 1]'h).toNat : Int) == 45) = true := u8_yes h2
                              clear e hh h1 h2
                              go_wp2
                              go_meet
                              case rel => exact ⟨rfl, rfl⟩
                        case rest =>
                          obtain ⟨rfl, rfl⟩ := hcut
                          clear y1
                          go_upto_if 119 with (fail)
                          go_cut [4, 7] from 120 to 128 (fun s4 s7 w' => s4 = .int .i64 (k3 : Int) ∧ s7 = .string T4 ∧ w' = wc)
                          case first =>
                            cases sb
                            · have z1 : (k2 : Int) + 1 = (k3 : Int) := by have := HK.out; rw [if_neg (by decide)] at this; omega
                              have z2 : T2 ++ ⟨#[101]⟩ = T4 := str_eq (by rw [app_list, hT4.out, hT2.out]; unfold sgR; rw [if_neg (by rw [hsb.out]; decide)])
                              clear R3
                              go_wp2
                              go_meet
                              case rel => exact ⟨(by first | rfl | rw [z1]), (by first | rfl | rw [z2]), rfl⟩
                            · have hk1 : k2 + 1 < s.size := by have := hsb.out; unfold sbR at this; rw [hk2.out] at this; exact hd_drop this
                              have z1 : (k2 : Int) + 1 + 1 = (k3 : Int) := by have := HK.out; rw [if_pos rfl] at this; omega
                              have z2 : T2 ++ ⟨#[101]⟩ ++ s.extract (k2 + 1) (k2 + 1 + 1) = T4 := str_eq (by
                                rw [app_list, app_list, hT4.out, hT2.out, ext_list]; unfold sgR; rw [if_pos hsb.out, hk2.out, show k2 + 1 + 1 - (k2 + 1) = 1 by omega]; simp)
                              have Z1 := Lib.hid z1
                              have Z2 := Lib.hid z2
                              have y2 : ¬ 9223372036854775807 < T2.size + 1 + (min (k2 + 1 + 1) s.size - (k2 + 1)) := by omega
                              have s1 : (0 : Int) ≤ (k2 : Int) + 1 := by omega
                              have s2 : (k2 : Int) + 1 + 1 ≤ (s.size : Int) := by omega
                              have s3 : (k2 : Int) + 1 ≤ (k2 : Int) + 1 + 1 := by omega
                              clear R3 z1 z2
                              go_wp2
                              go_meet
                              case rel => exact ⟨by rw [← Z1.out], by rw [← Z2.out], rfl⟩
                          case rest =>
                            obtain ⟨rfl, rfl, rfl⟩ := hcut
                            have hT4s : T4.size ≤ 200004 := by
                              have h1 : T4.data.toList.length = T4.size := rfl
                              have h2 : T2.data.toList.length = T2.size := rfl
                              rw [← h1, hT4.out, ← hT2.out, List.length_append, h2, List.length_cons]
                              unfold sgR
                              split
                              · rw [List.length_take]; omega
                              · simp; omega
                            have hr := HR.out
                            rw [← hP3.out, he3.out] at hr
                            clear HR hT2 HK hk3 hsb hk2 hra hpt
                            by_cases h0 : P3.data.toList = []
                            · have o1 : P3.toList.isEmpty = true := by rw [ByteArray.toList_eq, h0]; rfl
                              have o2 : P3.toList = [] := by rw [ByteArray.toList_eq, h0]
                              rw [if_pos h0] at hr
                              injection hr with h2 h3
                              obtain rfl : ⟨#[]⟩ = r := str_eq h2
                              subst h3
                              clear h2 h0 hP3 hT4
                              go_wp2_with (go_at_call 21; refine (R3.out _).mono ?_; rintro e w' ⟨rfl, hw'⟩; rw [hw'])
                              go_ret2
                              exact ⟨rfl, Below.refl _ _⟩
                            · have o1 := full_of h0
                              have y1 : ¬ 9223372036854775807 < T4.size + P3.size := by omega
                              rw [if_neg h0] at hr
                              by_cases h1 : e3 < s.size
                              · have g0 : decide ((e3 : Int) < (s.size : Int)) = true := decide_eq_true (by omega)
                                rw [if_pos (show e3 < s.data.toList.length from h1)] at hr
                                injection hr with h2 h3
                                obtain rfl : ⟨#[]⟩ = r := str_eq h2
                                subst h3
                                clear h2 h0 hP3 hT4
                                go_wp2_with (go_at_call 21; refine (R3.out _).mono ?_; rintro e w' ⟨rfl, hw'⟩; rw [hw'])
                                go_ret2
                                exact ⟨rfl, Below.refl _ _⟩
                              · have g0 : decide ((e3 : Int) < (s.size : Int)) = false := decide_eq_false (by omega)
                                rw [if_neg (show ¬ e3 < s.data.toList.length from h1)] at hr
                                have HRD := Lib.hid (rread_is (T4 ++ P3) r c (by rw [ByteArray.size_append]; omega) (by rw [app_list, hT4.out]; rw [← hr]; simp))
                                clear hr h0 hP3 hT4
                                go_wp2_with (first
                                  | (go_at_call 21; refine (R3.out _).mono ?_; rintro e w' ⟨rfl, hw'⟩; rw [hw'])
                                  | (go_at_call 22; refine (HRD.out _).mono ?_; rintro e w' ⟨rfl, hb'⟩))
                                go_ret2
                                exact ⟨rfl, hb'⟩
            · rw [if_pos (of_decide_eq_true hbd.out)] at hr
              injection hr with h1 h2
              obtain rfl : ⟨#[]⟩ = r := str_eq h1
              subst h2
              clear h1 HR hbd hN1 he1 hSG hb hq0
              go_wp2
              go_ret2
              exact ⟨rfl, Below.refl _ _⟩

end Go.Proofs.YtncldnghhpdolaaGreatDoor
