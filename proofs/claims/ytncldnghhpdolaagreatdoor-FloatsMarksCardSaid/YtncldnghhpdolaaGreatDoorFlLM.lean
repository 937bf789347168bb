/- The law FloatsMarks walked; no statement of the seat is proved here. -/
import Derived.Test.YtncldnghhpdolaaGreatDoorFlG
import Derived.Test.YtncldnghhpdolaaGreatDoorFlI
namespace Go.Proofs.YtncldnghhpdolaaGreatDoor
open Go.RowKit

theorem fread_len {s r : ByteArray} {c : Int} (h : fltR s.data.toList = (r.data.toList, c)) : r.size ≤ 2 * s.size + 31 := by
  have h1 := flt_len s.data.toList
  rw [h] at h1
  simp only [size_list] at h1
  exact h1
/-- Between two digits? -/
def btw (s : ByteArray) (i : Nat) : Bool := decide (∃ h : i < s.size, 0 < i ∧ dgB (s[i - 1]'(by omega)) = true ∧ dgB s[i] = true)
theorem take_pred (s : ByteArray) (i : Nat) (h0 : 0 < i) (h : i - 1 < s.size) : s.data.toList.take i = s.data.toList.take (i - 1) ++ [s[i - 1]] := by
  cases i with
  | zero => omega
  | succ j => exact List.take_succ_eq_append_getElem (show j < s.data.toList.length from h)
set_option maxRecDepth 100000 in
set_option maxHeartbeats 8000000 in
theorem markslaw_walk (s : ByteArray) (a : Int) (h0 : 0 ≤ a) (h1 : a ≤ 65535) (w : World) (hG : Gl w) :
    Calls Tryz.prog 4 #[.string s, .int .u16 a] w fun e w' => e = .returned (.bool true) ∧ Below w.heap.size w w' := by
  have HL := Lib.hid (fun w' (hb : Below w.heap.size w w') => lives_any w' (hG.later hb))
  have HG := Lib.hid hG
  have hb : Hid (Below w.heap.size w w) := Below.refl w.heap.size w
  have hz : IntKind.i64.wrap a = a := IntWalk.i64_in _ (by omega)
  by_cases h5 : 300 < s.size
  · have b1 : decide ((300 : Int) < (s.size : Int)) = true := decide_eq_true (by omega)
    clear hG h5 h1
    go_enter Tryz.func4, Tryz.ntmps4
    go_wp2_with (go_at_call 8; (with_reducible refine (HL.out _ hb.out).mono ?_); rintro e w1 ⟨rfl, hb1⟩)
    go_ret
    exact ⟨rfl, hb1⟩
  · have b1 : decide ((300 : Int) < (s.size : Int)) = false := decide_eq_false (by omega)
    by_cases h6 : s.size = 0
    · have b2 : ((s.size : Int) == 0) = true := by simp [h6]
      clear hG h5 h1
      go_enter Tryz.func4, Tryz.ntmps4
      go_wp2_with (go_at_call 8; (with_reducible refine (HL.out _ hb.out).mono ?_); rintro e w1 ⟨rfl, hb1⟩)
      go_ret
      exact ⟨rfl, hb1⟩
    · have b2 : ((s.size : Int) == 0) = false := beq_eq_false_iff_ne.2 (by omega)
      obtain ⟨r, c, hr⟩ := fread_ex s
      have R1 := Lib.hid (fun w hG => fread_is s r c (by omega) ((flt_eq _).trans hr) w hG)
      obtain ⟨i, hi⟩ : ∃ i : Nat, a.tmod ((s.size : Int) + 1) = (i : Int) := ⟨(a.tmod ((s.size : Int) + 1)).toNat, by have := Int.tmod_nonneg ((s.size : Int) + 1) h0; omega⟩
      have his : i ≤ s.size := by have := Int.tmod_lt_of_pos a (show (0 : Int) < (s.size : Int) + 1 by omega); omega
      obtain ⟨M, hM⟩ : ∃ M : ByteArray, s.extract 0 i ++ ⟨#[95]⟩ ++ s.extract i s.size = M := ⟨_, rfl⟩
      have hMl : M.data.toList = s.data.toList.take i ++ 95 :: s.data.toList.drop i := by
        rw [← hM, app_list, app_list, ext_list, ext_end]; simp
      have hMs : M.size = s.size + 1 := by
        have h1 : M.data.toList.length = M.size := rfl
        have h2 : s.data.toList.length = s.size := rfl
        rw [← h1, hMl, List.length_append, List.length_cons, List.length_take, List.length_drop]; omega
      obtain ⟨u, d, hu⟩ := fread_ex M
      have R2 := fun w hG => fread_is M u d (by omega) ((flt_eq _).trans hu) w hG
      have C2 : Hid (∀ n : Later w, Calls Tryz.prog 12 #[.string M] n.at_ fun e w'' => e = .returned (.tuple #[.string u, .int .i64 d]) ∧ ∃ m : Later w, w'' = m.at_) :=
        fun n => calls_later ((R2 n.at_ (hG.later n.below)).mono (fun e w'' h => ⟨h.1, n.below.trans (h.2.mono n.below.size)⟩))
      clear h1 R2
      go_enter Tryz.func4, Tryz.ntmps4
      go_upto_region 5 with (go_at_call 12; (with_reducible refine (R1.out _ (HG.out.later hb.out)).mono ?_); rintro e w' ⟨rfl, hb'⟩; replace hb := Lib.hid (hb.out.trans (hb'.mono hb.out.size)); clear hb')
      have y1 : ¬ 9223372036854775807 < min i s.size + 1 := by omega
      have y2 : ¬ 9223372036854775807 < min i s.size + 1 + (s.size - i) := by omega
      refine wp_region_later w (by kernel_rfl) (by kernel_rfl) hb.out ?_
      repeat (go_big_quiet_step ((go_at_call 12; with_reducible exact C2.out _)))
      refine wpQuiet_nil ?_
      rintro _ ⟨⟨w3, hb3⟩, rfl⟩
      replace hb := Lib.hid hb3
      have F1 : Hid (c = 3 → r.data.toList = []) := fun h => (flt_3 hr).2 (by omega)
      have F2 : Hid (c ≠ 3 → btw s i = true → u = r ∧ d = c) := fun h hbt => by
        unfold btw at hbt
        obtain ⟨k1, k2, k3, k4⟩ := of_decide_eq_true hbt
        have e1 : s.data.toList = s.data.toList.take (i - 1) ++ s[i - 1]'(by omega) :: s[i] :: s.data.toList.drop (i + 1) := by
          rw [← dr_at k1, show s.data.toList.drop i = s.data.toList.drop (i - 1 + 1) by rw [show i - 1 + 1 = i by omega], ← dr_at (show i - 1 < s.size by omega), List.take_append_drop]
        have e2 : M.data.toList = s.data.toList.take (i - 1) ++ s[i - 1]'(by omega) :: 95 :: s[i] :: s.data.toList.drop (i + 1) := by
          rw [hMl, dr_at k1]
          rw [take_pred s i k2 (by omega)]; simp
        have hne : fltR s.data.toList ≠ ([], 3) := fun e => h (by rw [hr] at e; exact congrArg Prod.snd e)
        rw [e1] at hne
        have := mark_between k3 k4 hne
        rw [← e1, ← e2, hr, hu] at this
        injection this with t1 t2
        exact ⟨str_eq t1, t2⟩
      have F3 : Hid (btw s i = false → u = ⟨#[]⟩ ∧ d = 3) := fun hbt => by
        have : fltR M.data.toList = ([], 3) := Classical.byContradiction fun hne => by
          rw [hMl] at hne
          obtain ⟨U, V, x, y, e1, e2, k3, k4⟩ := mark_else hne
          unfold btw at hbt
          refine of_decide_eq_false hbt ?_
          have hl : s.data.toList = U ++ x :: y :: V := by
            rw [← List.take_append_drop i s.data.toList, e1, e2]; simp
          have hU : U.length + 1 = i := by
            have := congrArg List.length e1
            rw [List.length_take, List.length_append] at this
            have h2 : s.data.toList.length = s.size := rfl
            simp at this; omega
          have hsz : i < s.size := by
            rw [← size_list, hl, ← hU]; simp
          refine ⟨hsz, by omega, ?_, ?_⟩
          · have : s.data.toList[i - 1]? = some x := by rw [hl, show i - 1 = U.length by omega]; simp
            rw [List.getElem?_eq_getElem (show i - 1 < s.data.toList.length by rw [size_list]; omega)] at this
            have e : s[i - 1]'(by omega) = x := Option.some.inj this
            rw [e]; exact k3
          · have : s.data.toList[i]? = some y := by rw [hl, show i = U.length + 1 by omega, List.getElem?_append_right (by omega)]; simp
            rw [List.getElem?_eq_getElem (show i < s.data.toList.length by rw [size_list]; omega)] at this
            have e : s[i] = y := Option.some.inj this
            rw [e]; exact k4
        rw [hu] at this
        injection this with t1 t2
        exact ⟨str_eq t1, t2⟩
      obtain ⟨bt, hbt⟩ : ∃ bt, Hid (btw s i = bt) := ⟨_, rfl⟩
      rw [hbt.out] at F2 F3
      clear hr hu hMl hMs hM y1 y2 hi h0 hz
      go_upto_region 6 with (fail)
      go_cut [10] from 43 to 76 (fun s10 w' => s10 = .bool bt ∧ Hid (Below w.heap.size w w'))
      case first =>
        have e := hbt.out
        unfold btw at e
        have lo := fun x : UInt8 => dgB_t (c := x)
        by_cases k1 : 0 < i
        · have d1 : decide ((0 : Int) < (i : Int)) = true := decide_eq_true (by omega)
          by_cases k2 : i < s.size
          · have d2 : decide ((i : Int) < (s.size : Int)) = true := decide_eq_true (by omega)
            have k3 : i - 1 < s.size := by omega
            have s1 : (0 : Int) ≤ (i : Int) - 1 := by omega
            have s2 : (i : Int) - 1 < (s.size : Int) := by omega
            have s3 : ((i : Int) - 1).toNat = i - 1 := by omega
            have s4 : IntKind.i64.wrap ((i : Int) - 1) = (i : Int) - 1 := IntWalk.i64_in _ (by omega)
            by_cases g1 : 48 ≤ (s[i - 1]'k3).toNat
            · have d3 : decide ((48 : Int) ≤ ((s[i - 1]'k3).toNat : Int)) = true := decide_eq_true (by omega)
              by_cases g2 : (s[i - 1]'k3).toNat ≤ 57
              · have d4 : decide (((s[i - 1]'k3).toNat : Int) ≤ 57) = true := decide_eq_true (by omega)
                by_cases g3 : 48 ≤ (s[i]'k2).toNat
                · have d5 : decide ((48 : Int) ≤ ((s[i]'k2).toNat : Int)) = true := decide_eq_true (by omega)
                  by_cases g4 : (s[i]'k2).toNat ≤ 57
                  · have d6 : decide (((s[i]'k2).toNat : Int) ≤ 57) = true := decide_eq_true (by omega)
                    obtain rfl : bt = true := by rw [← e]; exact decide_eq_true ⟨k2, k1, (lo _).2 ⟨g1, g2⟩, (lo _).2 ⟨g3, g4⟩⟩
                    clear e lo g1 g2 g3 g4
                    go_wp2
                    go_meet
                    case rel => exact ⟨rfl, hb⟩
                  · have d6 : decide (((s[i]'k2).toNat : Int) ≤ 57) = false := decide_eq_false (by omega)
                    obtain rfl : bt = false := by rw [← e]; exact decide_eq_false fun ⟨_, _, _, k⟩ => g4 ((lo _).1 k).2
                    clear e lo g1 g2 g3 g4
                    go_wp2
                    go_meet
                    case rel => exact ⟨rfl, hb⟩
                · have d5 : decide ((48 : Int) ≤ ((s[i]'k2).toNat : Int)) = false := decide_eq_false (by omega)
                  obtain rfl : bt = false := by rw [← e]; exact decide_eq_false fun ⟨_, _, _, k⟩ => g3 ((lo _).1 k).1
                  clear e lo g1 g2 g3
                  go_wp2
                  go_meet
                  case rel => exact ⟨rfl, hb⟩
              · have d4 : decide (((s[i - 1]'k3).toNat : Int) ≤ 57) = false := decide_eq_false (by omega)
                obtain rfl : bt = false := by rw [← e]; exact decide_eq_false fun ⟨_, _, k, _⟩ => g2 ((lo _).1 k).2
                clear e lo g1 g2
                go_wp2
                go_meet
                case rel => exact ⟨rfl, hb⟩
            · have d3 : decide ((48 : Int) ≤ ((s[i - 1]'k3).toNat : Int)) = false := decide_eq_false (by omega)
              obtain rfl : bt = false := by rw [← e]; exact decide_eq_false fun ⟨_, _, k, _⟩ => g1 ((lo _).1 k).1
              clear e lo g1
              go_wp2
              go_meet
              case rel => exact ⟨rfl, hb⟩
          · have d2 : decide ((i : Int) < (s.size : Int)) = false := decide_eq_false (by omega)
            obtain rfl : bt = false := by rw [← e]; exact decide_eq_false fun ⟨k, _⟩ => k2 k
            clear e lo
            go_wp2
            go_meet
            case rel => exact ⟨rfl, hb⟩
        · have d1 : decide ((0 : Int) < (i : Int)) = false := decide_eq_false (by omega)
          obtain rfl : bt = false := by rw [← e]; exact decide_eq_false fun ⟨_, k, _⟩ => k1 k
          clear e lo
          go_wp2
          go_meet
          case rel => exact ⟨rfl, hb⟩
      case rest =>
        obtain ⟨rfl, hbc⟩ := hcut
        replace hb := hbc
        clear hbc
        by_cases hc : c = 3
        · have e1 := F1.out hc
          have o1 : r.toList.isEmpty = true := by rw [ByteArray.toList_eq, e1]; rfl
          have o2 : r.toList = [] := by rw [ByteArray.toList_eq, e1]
          subst hc
          clear F1 F2 F3 e1 hbt
          go_wp2_with (go_at_call 8; (with_reducible refine (HL.out _ hb.out).mono ?_); rintro e w' ⟨rfl, hb'⟩; replace hb := Lib.hid (hb.out.trans (hb'.mono hb.out.size)); clear hb')
          go_ret
          exact ⟨rfl, hb.out⟩
        · have c3 : (c == 3) = false := beq_eq_false_iff_ne.2 hc
          cases bt
          · obtain ⟨rfl, rfl⟩ := F3.out rfl
            clear F1 F2 F3 hbt hc
            go_wp2_with (go_at_call 8; (with_reducible refine (HL.out _ hb.out).mono ?_); rintro e w' ⟨rfl, hb'⟩; replace hb := Lib.hid (hb.out.trans (hb'.mono hb.out.size)); clear hb')
            go_ret
            exact ⟨rfl, hb.out⟩
          · obtain ⟨rfl, rfl⟩ := F2.out hc rfl
            have he : (u.toList == u.toList) = true := beq_self_eq_true _
            clear F1 F2 F3 hbt hc
            go_wp2_with (go_at_call 8; (with_reducible refine (HL.out _ hb.out).mono ?_); rintro e w' ⟨rfl, hb'⟩; replace hb := Lib.hid (hb.out.trans (hb'.mono hb.out.size)); clear hb')
            go_ret
            exact ⟨by first | rfl | exact ret_bool (by simp), hb.out⟩

end Go.Proofs.YtncldnghhpdolaaGreatDoor
