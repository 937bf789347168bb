/- inarchref06.Less, and that the program's is the same; no statement of the seat is proved here. -/
import Derived.Test.YtncldnghhpdolaaGreatDoorFlG
import Derived.Test.YtncldnghhpdolaaGreatDoorDcRL
namespace Go.Proofs.YtncldnghhpdolaaGreatDoor
open Go.RowKit

theorem lessT_no1 {a b : List UInt8} (h : parseD a = none) : lessT a b = false := by unfold lessT; rw [h]
theorem lessT_no2 {a b : List UInt8} (h : parseD b = none) : lessT a b = false := by unfold lessT; rw [h]; cases parseD a <;> rfl
theorem lessT_self (a : List UInt8) : lessT a a = false := by
  unfold lessT
  cases parseD a with
  | none => rfl
  | some x => exact less_self x
/-- A normal form's rank, and what it is. -/
theorem rank_cases (l : List UInt8) :
    (l = nanL ∧ rankL l = 3 ∧ isR l = true ∧ parseD l = none) ∨ (l = infL ∧ rankL l = 2 ∧ isR l = true ∧ parseD l = none) ∨ (l = 45 :: infL ∧ rankL l = 0 ∧ isR l = true ∧ parseD l = none) ∨
    (l ≠ nanL ∧ l ≠ infL ∧ l ≠ 45 :: infL ∧ ((rankL l = 1 ∧ isR l = true ∧ ∃ d, parseD l = some d) ∨ (rankL l = -1 ∧ isR l = false ∧ parseD l = none))) := by
  by_cases h1 : l = nanL
  · subst h1; exact .inl ⟨rfl, by unfold rankL; rw [if_pos rfl], by decide +kernel, by decide +kernel⟩
  · by_cases h2 : l = infL
    · subst h2; exact .inr (.inl ⟨rfl, by unfold rankL; rw [if_neg h1, if_pos rfl], by decide +kernel, by decide +kernel⟩)
    · by_cases h3 : l = 45 :: infL
      · subst h3
        have hp : parseD (45 :: infL) = none := by decide +kernel
        exact .inr (.inr (.inl ⟨rfl, by unfold rankL; rw [if_neg h1, if_neg h2, hp, if_neg (by decide), if_pos rfl], by decide +kernel, hp⟩))
      · refine .inr (.inr (.inr ⟨h1, h2, h3, ?_⟩))
        have hi : isR l = normL l := by
          unfold isR
          rw [decide_eq_false h1, decide_eq_false h2, decide_eq_false h3]; simp
        have hr : rankL l = if (parseD l).isSome then 1 else -1 := by
          unfold rankL
          rw [if_neg h1, if_neg h2, if_neg h3]
        rw [hi, hr, ← parse_norm]
        cases h : parseD l with
        | none => exact .inr ⟨rfl, rfl, rfl⟩
        | some d => exact .inl ⟨rfl, rfl, d, rfl⟩
/-- Does the first one stand ahead, as the reference says it? -/
def lessR (a b : List UInt8) : Bool :=
  if !isR a || (!isR b || (decide (a = b) || (decide (a = nanL) || (decide (b = 45 :: infL) || (decide (a = infL) && !decide (b = nanL)))))) then false
  else if decide (a = 45 :: infL) || (decide (b = nanL) || decide (b = infL)) then true else lessT a b
theorem less_eq (a b : List UInt8) : lessP a b = lessR a b := by
  unfold lessP lessR
  rcases rank_cases a with ⟨ha, r1, i1, p1⟩ | ⟨ha, r1, i1, p1⟩ | ⟨ha, r1, i1, p1⟩ | ⟨n1, n2, n3, ⟨r1, i1, d1, p1⟩ | ⟨r1, i1, p1⟩⟩ <;>
    rcases rank_cases b with ⟨hb, r2, i2, p2⟩ | ⟨hb, r2, i2, p2⟩ | ⟨hb, r2, i2, p2⟩ | ⟨m1, m2, m3, ⟨r2, i2, d2, p2⟩ | ⟨r2, i2, p2⟩⟩ <;>
    rw [r1, r2, i1, i2]
  all_goals try (rw [lessT_no1 p1])
  all_goals try (rw [lessT_no2 p2])
  all_goals try subst ha
  all_goals try subst hb
  all_goals try (first | rfl | (simp_all; done) | decide)
  · rw [decide_eq_false (Ne.symm m3), decide_eq_false m3, decide_eq_false m1]; rfl
  · rw [decide_eq_false n1, decide_eq_false n2, decide_eq_false n3]; rfl
  · by_cases e : a = b
    · subst e
      rw [lessT_self, decide_eq_true (rfl : a = a)]; rfl
    · rw [decide_eq_false e, decide_eq_false n1, decide_eq_false n2, decide_eq_false n3, decide_eq_false m1, decide_eq_false m2, decide_eq_false m3]
      simp

set_option maxRecDepth 100000 in
set_option maxHeartbeats 8000000 in
theorem rless06_is (s t : ByteArray) (hs : s.size ≤ 549755813888) (ht : t.size ≤ 549755813888) (b : Bool) (hb : lessR s.data.toList t.data.toList = b) (w : World) :
    Calls Tryz.prog 11 #[.string s, .string t] w fun e w' => e = .returned (.bool b) ∧ Below w.heap.size w w' := by
  obtain ⟨x, hx⟩ : ∃ x, isR s.data.toList = x := ⟨_, rfl⟩
  obtain ⟨y, hy⟩ : ∃ x, isR t.data.toList = x := ⟨_, rfl⟩
  obtain ⟨l, hl⟩ : ∃ x, lessT s.data.toList t.data.toList = x := ⟨_, rfl⟩
  have HX := Lib.hid (ris06_is s x hs hx)
  have HY := Lib.hid (ris06_is t y ht hy)
  have HL := Lib.hid (rless_is s t hs ht l hl)
  have hbw : Hid (Below w.heap.size w w) := Below.refl w.heap.size w
  have hb2 := Lib.hid hb
  unfold lessR at hb
  rw [hx, hy, hl] at hb
  have HB := Lib.hid hb
  clear hb hb2 hx hy hl
  obtain ⟨v, hv⟩ : ∃ v, (!x || (!y || (decide (s.data.toList = t.data.toList) || (decide (s.data.toList = nanL) || (decide (t.data.toList = 45 :: infL) || (decide (s.data.toList = infL) && !decide (t.data.toList = nanL))))))) = v := ⟨_, rfl⟩
  have HV := Lib.hid hv; clear hv
  go_enter Tryz.func11, Tryz.ntmps11
  go_upto_region 1 with (fail)
  go_cut [33] from 5 to 33 (fun s33 w' => s33 = .bool v ∧ Hid (Below w.heap.size w w'))
  case first =>
    have e := HV.out
    cases x
    · obtain rfl : true = v := e
      go_wp2_with (go_at_call 14; (with_reducible refine (HX.out _).mono ?_); rintro e w' ⟨rfl, hb'⟩; replace hbw := Lib.hid (hbw.out.trans (hb'.mono hbw.out.size)))
      go_meet
      case rel => exact ⟨rfl, hbw.out⟩
    · cases y
      · obtain rfl : true = v := e
        go_wp2_with (go_at_call 14; (first | (with_reducible refine (HX.out _).mono ?_) | (with_reducible refine (HY.out _).mono ?_)); rintro e w' ⟨rfl, hb'⟩; replace hbw := Lib.hid (hbw.out.trans (hb'.mono hbw.out.size)))
        go_meet
        case rel => exact ⟨rfl, hbw.out⟩
      · by_cases h1 : s.data.toList = t.data.toList
        · have c1 : (s.toList == t.toList) = true := beq_strT h1
          rw [decide_eq_true h1] at e
          obtain rfl : true = v := e
          clear h1
          go_wp2_with (go_at_call 14; (first | (with_reducible refine (HX.out _).mono ?_) | (with_reducible refine (HY.out _).mono ?_)); rintro e w' ⟨rfl, hb'⟩; replace hbw := Lib.hid (hbw.out.trans (hb'.mono hbw.out.size)))
          go_meet
          case rel => exact ⟨rfl, hbw.out⟩
        · have c1 : (s.toList == t.toList) = false := beq_str h1
          rw [decide_eq_false h1] at e
          clear h1
          by_cases h2 : s.data.toList = nanL
          · have c2 : (s.toList == [110, 97, 110]) = true := beq_lit h2
            rw [decide_eq_true h2] at e
            obtain rfl : true = v := e
            clear h2
            go_wp2_with (go_at_call 14; (first | (with_reducible refine (HX.out _).mono ?_) | (with_reducible refine (HY.out _).mono ?_)); rintro e w' ⟨rfl, hb'⟩; replace hbw := Lib.hid (hbw.out.trans (hb'.mono hbw.out.size)))
            go_meet
            case rel => exact ⟨rfl, hbw.out⟩
          · have c2 : (s.toList == [110, 97, 110]) = false := beq_litF h2
            rw [decide_eq_false h2] at e
            clear h2
            by_cases h3 : t.data.toList = 45 :: infL
            · have c3 : (t.toList == [45, 105, 110, 102]) = true := beq_lit h3
              rw [decide_eq_true h3] at e
              obtain rfl : true = v := e
              clear h3
              go_wp2_with (go_at_call 14; (first | (with_reducible refine (HX.out _).mono ?_) | (with_reducible refine (HY.out _).mono ?_)); rintro e w' ⟨rfl, hb'⟩; replace hbw := Lib.hid (hbw.out.trans (hb'.mono hbw.out.size)))
              go_meet
              case rel => exact ⟨rfl, hbw.out⟩
            · have c3 : (t.toList == [45, 105, 110, 102]) = false := beq_litF h3
              rw [decide_eq_false h3] at e
              clear h3
              by_cases h4 : s.data.toList = infL
              · have c4 : (s.toList == [105, 110, 102]) = true := beq_lit h4
                rw [decide_eq_true h4] at e
                clear h4
                by_cases h5 : t.data.toList = nanL
                · have c5 : (t.toList == [110, 97, 110]) = true := beq_lit h5
                  rw [decide_eq_true h5] at e
                  obtain rfl : false = v := e
                  have c6 : (t.toList != [110, 97, 110]) = false := by unfold bne; rw [c5]; rfl
                  clear h5
                  go_wp2_with (go_at_call 14; (first | (with_reducible refine (HX.out _).mono ?_) | (with_reducible refine (HY.out _).mono ?_)); rintro e w' ⟨rfl, hb'⟩; replace hbw := Lib.hid (hbw.out.trans (hb'.mono hbw.out.size)))
                  go_meet
                  case rel => exact ⟨rfl, hbw.out⟩
                · have c5 : (t.toList == [110, 97, 110]) = false := beq_litF h5
                  rw [decide_eq_false h5] at e
                  obtain rfl : true = v := e
                  have c6 : (t.toList != [110, 97, 110]) = true := by unfold bne; rw [c5]; rfl
                  clear h5
                  go_wp2_with (go_at_call 14; (first | (with_reducible refine (HX.out _).mono ?_) | (with_reducible refine (HY.out _).mono ?_)); rintro e w' ⟨rfl, hb'⟩; replace hbw := Lib.hid (hbw.out.trans (hb'.mono hbw.out.size)))
                  go_meet
                  case rel => exact ⟨rfl, hbw.out⟩
              · have c4 : (s.toList == [105, 110, 102]) = false := beq_litF h4
                rw [decide_eq_false h4] at e
                obtain rfl : false = v := e
                clear h4
                go_wp2_with (go_at_call 14; (first | (with_reducible refine (HX.out _).mono ?_) | (with_reducible refine (HY.out _).mono ?_)); rintro e w' ⟨rfl, hb'⟩; replace hbw := Lib.hid (hbw.out.trans (hb'.mono hbw.out.size)))
                go_meet
                case rel => exact ⟨rfl, hbw.out⟩
  case rest =>
    obtain ⟨rfl, hbc⟩ := hcut
    have e := HB.out
    rw [HV.out] at e
    clear HV HB HX HY hbw
    cases v
    · rw [if_neg (by decide)] at e
      by_cases h1 : s.data.toList = 45 :: infL
      · have c1 : (s.toList == [45, 105, 110, 102]) = true := beq_lit h1
        rw [decide_eq_true h1, Bool.true_or, if_pos rfl] at e
        subst e
        clear h1
        go_wp2
        go_ret
        exact ⟨rfl, hbc.out⟩
      · have c1 : (s.toList == [45, 105, 110, 102]) = false := beq_litF h1
        rw [decide_eq_false h1, Bool.false_or] at e
        clear h1
        by_cases h2 : t.data.toList = nanL
        · have c2 : (t.toList == [110, 97, 110]) = true := beq_lit h2
          rw [decide_eq_true h2, Bool.true_or, if_pos rfl] at e
          subst e
          clear h2
          go_wp2
          go_ret
          exact ⟨rfl, hbc.out⟩
        · have c2 : (t.toList == [110, 97, 110]) = false := beq_litF h2
          rw [decide_eq_false h2, Bool.false_or] at e
          clear h2
          by_cases h3 : t.data.toList = infL
          · have c3 : (t.toList == [105, 110, 102]) = true := beq_lit h3
            rw [decide_eq_true h3, if_pos rfl] at e
            subst e
            clear h3
            go_wp2
            go_ret
            exact ⟨rfl, hbc.out⟩
          · have c3 : (t.toList == [105, 110, 102]) = false := beq_litF h3
            rw [decide_eq_false h3, if_neg (by decide)] at e
            subst e
            clear h3
            go_wp2_with (go_at_call 26; (with_reducible refine (HL.out _).mono ?_); rintro e w' ⟨rfl, hb'⟩)
            go_ret
            exact ⟨rfl, hbc.out.trans (hb'.mono hbc.out.size)⟩
    · rw [if_pos rfl] at e
      subst e
      go_wp2
      go_ret
      exact ⟨rfl, hbc.out⟩

end Go.Proofs.YtncldnghhpdolaaGreatDoor
