/- The walk of the law DatesTimes; no statement of the seat is proved here. -/
import Derived.Test.YtgchhogdbigafaaDoorDtLT
import Derived.Handy
namespace Go.Proofs.YtgchhogdbigafaaDoor
open Go.RowKit

set_option maxRecDepth 100000 in
set_option maxHeartbeats 8000000 in
theorem times_walk (x0 x1 x2 x3 x4 pt ns : Int) (h0 : 0 ≤ x0 ∧ x0 ≤ 255) (h1 : 0 ≤ x1 ∧ x1 ≤ 255) (h2 : 0 ≤ x2 ∧ x2 ≤ 255) (h3 : 0 ≤ x3 ∧ x3 ≤ 255) (h4 : 0 ≤ x4 ∧ x4 ≤ 255) (hp : 0 ≤ pt ∧ pt ≤ 4294967295) (hn : 0 ≤ ns ∧ ns ≤ 255) (w : World) :
    Calls Tryd.prog 3 #[.agg #[.int .u8 x0, .int .u8 x1, .int .u8 x2, .int .u8 x3, .int .u8 x4], .int .u32 pt, .int .u8 ns] w fun e w' => e = .returned (.bool true) ∧ Below w.heap.size w w' := by
  obtain ⟨h, hh, hh1⟩ : ∃ h : Nat, x0 % 100 = (h : Int) ∧ h < 100 := ⟨(x0 % 100).toNat, by omega, by omega⟩
  obtain ⟨m, hm, hm1⟩ : ∃ m : Nat, x1 % 100 = (m : Int) ∧ m < 100 := ⟨(x1 % 100).toNat, by omega, by omega⟩
  obtain ⟨s, hs, hs1⟩ : ∃ s : Nat, x2 % 100 = (s : Int) ∧ s < 100 := ⟨(x2 % 100).toNat, by omega, by omega⟩
  obtain ⟨a, ha, ha1⟩ : ∃ a : Nat, x3 % 100 = (a : Int) ∧ a < 100 := ⟨(x3 % 100).toNat, by omega, by omega⟩
  obtain ⟨b, hb, hb1⟩ : ∃ b : Nat, x4 % 100 = (b : Int) ∧ b < 100 := ⟨(x4 % 100).toNat, by omega, by omega⟩
  obtain ⟨p, hpp, hp1⟩ : ∃ p : Nat, pt % 1000000 = (p : Int) ∧ p < 1000000 := ⟨(pt % 1000000).toNat, by omega, by omega⟩
  obtain ⟨k, hk, hk1⟩ : ∃ k : Nat, ns % 9 = (k : Int) ∧ k ≤ 8 := ⟨(ns % 9).toNat, by omega, by omega⟩
  obtain ⟨SH, hSH⟩ := str_ex (numL h 2)
  obtain ⟨SM, hSM⟩ := str_ex (numL m 2)
  obtain ⟨SS', hSS⟩ := str_ex (numL s 2)
  obtain ⟨SA, hSA⟩ := str_ex (numL a 2)
  obtain ⟨SB, hSB⟩ := str_ex (numL b 2)
  obtain ⟨SP, hSP⟩ := str_ex (numL p 6)
  obtain ⟨SK, hSK⟩ := str_ex (List.replicate k 48)
  obtain ⟨SC, hSC⟩ := str_ex (rstrip (numL p 6))
  have zH := num_sz hSH; have zM := num_sz hSM; have zS := num_sz hSS; have zA := num_sz hSA; have zB := num_sz hSB; have zP := num_sz hSP
  have zK := sz_of hSK (List.length_replicate ..)
  have CH := Lib.hid (fun w => number_at (h : Int) 2 h 2 rfl rfl (by omega) (by omega) SH hSH w)
  have CM := Lib.hid (fun w => number_at (m : Int) 2 m 2 rfl rfl (by omega) (by omega) SM hSM w)
  have CS := Lib.hid (fun w => number_at (s : Int) 2 s 2 rfl rfl (by omega) (by omega) SS' hSS w)
  have CP := Lib.hid (fun w => number_at (p : Int) 6 p 6 rfl rfl (by omega) (by omega) SP hSP w)
  have CT := Lib.hid (fun w => trimR_is SP SC (by omega) (by rw [hSC, hSP]) w)
  have CK := Lib.hid (fun w => rep_is k hk1 SK hSK w)
  have HSH := Lib.hid hSH; have HSM := Lib.hid hSM; have HSS := Lib.hid hSS; have HSA := Lib.hid hSA; have HSB := Lib.hid hSB; have HSP := Lib.hid hSP; have HSK := Lib.hid hSK; have HSC := Lib.hid hSC
  clear hSH hSM hSS hSA hSB hSP hSK hSC
  have HC : Hid (XB (w.alloc (.cells #[.int .u8 x0, .int .u8 x1, .int .u8 x2, .int .u8 x3, .int .u8 x4] 22)) w.heap.size x0 x1 x2 x3 x4) := heap_new1 w _
  have HB : Hid (Below w.heap.size w (w.alloc (.cells #[.int .u8 x0, .int .u8 x1, .int .u8 x2, .int .u8 x3, .int .u8 x4] 22))) := below_new1 w _
  obtain ⟨d0, d1, d2, d3, d4⟩ := HC.out.facts
  obtain ⟨h0, h0'⟩ := h0; obtain ⟨h1, h1'⟩ := h1; obtain ⟨h2, h2'⟩ := h2; obtain ⟨h3, h3'⟩ := h3; obtain ⟨h4, h4'⟩ := h4; obtain ⟨hp, hp'⟩ := hp; obtain ⟨hn, hn'⟩ := hn
  go_enter Tryd.func3, Tryd.ntmps3
  go_wp2_with (go_at_call 4; (first | (with_reducible refine (CH.out _).mono ?_) | (with_reducible refine (CM.out _).mono ?_) | (with_reducible refine (CS.out _).mono ?_)); rintro x w' ⟨rfl, hb'⟩; replace HC := Lib.hid (HC.out.later hb'); replace HB := Lib.hid (HB.out.trans (hb'.mono HB.out.size)); clear hb' d0 d1 d2 d3 d4; obtain ⟨d0, d1, d2, d3, d4⟩ := HC.out.facts)
  have ta : x3.tmod 100 = (a : Int) := by rw [Int.tmod_eq_emod_of_nonneg h3]; exact ha
  have tb : x4.tmod 100 = (b : Int) := by rw [Int.tmod_eq_emod_of_nonneg h4]; exact hb
  have C1 := Lib.hid (later_call (w0 := w') (fun w => number_at (a : Int) 2 a 2 rfl rfl (by omega) (by omega) SA HSA.out w))
  have C2 := Lib.hid (later_call (w0 := w') (fun w => number_at (b : Int) 2 b 2 rfl rfl (by omega) (by omega) SB HSB.out w))
  have Q3 : ∀ n : Later w', n.at_.cell? ⟨w.heap.size, 3, none⟩ = some (.int .u8 x3) := fun n => (HC.out.later n.below).facts.2.2.2.1
  have Q4 : ∀ n : Later w', n.at_.cell? ⟨w.heap.size, 4, none⟩ = some (.int .u8 x4) := fun n => (HC.out.later n.below).facts.2.2.2.2
  refine wp_region_later w' (by kernel_rfl) (by kernel_rfl) (Below.refl _ _) ?_
  repeat (go_big_quiet_step (first
    | (go_at_call 4; with_reducible exact C1.out _)
    | (go_at_call 4; with_reducible exact C2.out _)))
  refine wpQuiet_nil ?_
  rintro _ ⟨⟨w5, hb5⟩, rfl⟩
  replace HC := Lib.hid (HC.out.later hb5); replace HB := Lib.hid (HB.out.trans (hb5.mono HB.out.size)); clear hb5 d0 d1 d2 d3 d4 C1 C2 Q3 Q4 CH CM CS ta tb; obtain ⟨d0, d1, d2, d3, d4⟩ := HC.out.facts
  have hTd : (SH ++ ⟨#[58]⟩ ++ SM ++ ⟨#[58]⟩ ++ SS').data.toList = timL h m s := by
    rw [app_list, app_list, app_list, app_list, HSH.out, HSM.out, HSS.out]; simp [timL]
  have hTs : (SH ++ ⟨#[58]⟩ ++ SM ++ ⟨#[58]⟩ ++ SS').size = 8 := by rw [app_size, app_size, app_size, app_size, zH, zM, zS]; rfl
  have hZd : (SA ++ ⟨#[58]⟩ ++ SB).data.toList = zonL a b := by rw [app_list, app_list, HSA.out, HSB.out]; simp [zonL]
  have hZs : (SA ++ ⟨#[58]⟩ ++ SB).size = 5 := by rw [app_size, app_size, zA, zB]; rfl
  generalize SH ++ ⟨#[58]⟩ ++ SM ++ ⟨#[58]⟩ ++ SS' = TI at *
  generalize SA ++ ⟨#[58]⟩ ++ SB = ZO at *
  have HTd := Lib.hid hTd; have HZd := Lib.hid hZd
  clear hTd hZd HSH HSM HSS HSA HSB zH zM zS zA zB
  have hx : TimeX h m s (SP.data.toList ++ SK.data.toList) SC.data.toList := ⟨hh1, hm1, hs1, by rw [HSP.out, HSK.out]; exact digs_zeros (numL_digs 6 p) k, by
    intro e; have := congrArg List.length e; rw [List.length_append] at this; have h2 : SP.data.toList.length = SP.size := rfl; simp only [List.length_nil] at this; omega, by rw [HSP.out, HSK.out, HSC.out, strip_zeros]⟩
  have HX := Lib.hid hx; clear hx
  have hSCs : SC.size ≤ 6 := by
    have h1 : SC.data.toList.length = SC.size := rfl
    have h2 := rstrip_le (numL p 6)
    rw [HSC.out] at h1; rw [numL_len] at h2; omega
  obtain ⟨WA, hWA⟩ := str_ex (wantL h m s SC.data.toList)
  obtain ⟨TO, hTO⟩ := str_ex (toldL h m s (SP.data.toList ++ SK.data.toList))
  have hWs : WA.size ≤ 15 := by
    have h1 : WA.data.toList.length = WA.size := rfl
    rw [hWA, wantL, List.length_append, timL_len] at h1
    have h2 : SC.data.toList.length = SC.size := rfl
    have h3 : (dotP SC.data.toList).length ≤ SC.data.toList.length + 1 := by unfold dotP; split <;> simp
    omega
  have hTOs : TO.size ≤ 23 := by
    have h1 : TO.data.toList.length = TO.size := rfl
    have h2 : SP.data.toList.length = SP.size := rfl
    have h3 : SK.data.toList.length = SK.size := rfl
    rw [hTO, toldL, List.length_append, timL_len, List.length_cons, List.length_append] at h1
    omega
  have HWA := Lib.hid hWA; have HTO := Lib.hid hTO; clear hWA hTO
  obtain ⟨ok, hok⟩ : ∃ ok, Hid (okX h m s = ok) := ⟨okX h m s, rfl⟩
  obtain ⟨far, hfar⟩ : ∃ far, Hid (zonN a b = far) := ⟨zonN a b, rfl⟩
  have tp : pt.tmod 1000000 = (p : Int) := by rw [Int.tmod_eq_emod_of_nonneg hp]; exact hpp
  have tk : ns.tmod 9 = (k : Int) := by rw [Int.tmod_eq_emod_of_nonneg hn]; exact hk
  go_upto_if 65 with (first
    | (go_at_call 4; (with_reducible refine (CP.out _).mono ?_); rintro x w' ⟨rfl, hb'⟩; replace HC := Lib.hid (HC.out.later hb'); replace HB := Lib.hid (HB.out.trans (hb'.mono HB.out.size)); clear hb' d0 d1 d2 d3 d4; obtain ⟨d0, d1, d2, d3, d4⟩ := HC.out.facts)
    | (go_at_call 5; (with_reducible refine (CT.out _).mono ?_); rintro x w' ⟨rfl, rfl⟩))
  go_cut [14] from 66 to 69 (fun s14 w' => s14 = .string WA ∧ Hid (XB w' w.heap.size x0 x1 x2 x3 x4) ∧ Hid (Below w.heap.size w w'))
  case first =>
    go_wp2
    · have hce : SC.data.toList ≠ [] := by
        have h : (!SC.toList.isEmpty) = true := ‹_›
        rw [ByteArray.toList_eq] at h; intro e; rw [e] at h; exact absurd h (by decide)
      go_meet
      case rel => exact ⟨val_str (by rw [app_list, app_list, HTd.out, HWA.out, wantL, dotP, if_neg hce]; simp), HC.out, HB.out⟩
    · have hce : SC.data.toList = [] := by
        have h : (!SC.toList.isEmpty) = false := ‹_›
        rw [ByteArray.toList_eq] at h; simpa using h
      go_meet
      case rel => exact ⟨val_str (by rw [HTd.out, HWA.out, wantL, dotP, if_pos hce]; simp), HC.out, HB.out⟩
  case rest =>
    obtain ⟨rfl, HC, HB⟩ := hcut
    clear d0 d1 d2 d3 d4
    obtain ⟨d0, d1, d2, d3, d4⟩ := HC.out.facts
    go_upto_region 12 with (go_at_call 6; (with_reducible refine (CK.out _).mono ?_); rintro x w' ⟨rfl, hb'⟩; replace HC := Lib.hid (HC.out.later hb'); replace HB := Lib.hid (HB.out.trans (hb'.mono HB.out.size)); clear hb' d0 d1 d2 d3 d4; obtain ⟨d0, d1, d2, d3, d4⟩ := HC.out.facts)
    have hTOe : TI ++ ⟨#[46]⟩ ++ SP ++ SK = TO := str_of (by rw [app_list, app_list, app_list, HTd.out, HTO.out, toldL]; simp)
    rw [hTOe]
    clear hTOe
    go_cut [16] from 79 to 96 (fun s16 w' => s16 = .bool ok ∧ Hid (XB w' w.heap.size x0 x1 x2 x3 x4) ∧ Hid (Below w.heap.size w w'))
    case first =>
      obtain ⟨e60, he60⟩ : ∃ e60 : Bool, Hid (decide (s = 60) = e60) := ⟨decide (s = 60), rfl⟩
      have b60 : ((s : Int) == 60) = e60 := by rw [← he60.out, Bool.eq_iff_iff]; simp; omega
      cases e60
      all_goals go_wp2
      all_goals (
        go_meet
        case rel =>
          refine ⟨val_bool ?_, HC.out, HB.out⟩
          rw [← hok.out, okX, timeN]
          have he := he60.out
          simp only [decide_eq_true_eq, decide_eq_false_iff_not] at he
          try simp only [beq_iff_eq, beq_eq_false_iff_ne, ne_eq] at *
          first | (symm; exact decide_eq_true (by omega)) | (symm; exact decide_eq_false (by omega)) | (rw [Bool.eq_iff_iff]; simp; omega))
    case rest =>
      obtain ⟨rfl, HC, HB⟩ := hcut
      clear d0 d1 d2 d3 d4
      obtain ⟨d0, d1, d2, d3, d4⟩ := HC.out.facts
      have ta : x3.tmod 100 = (a : Int) := by rw [Int.tmod_eq_emod_of_nonneg h3]; exact ha
      have tb : x4.tmod 100 = (b : Int) := by rw [Int.tmod_eq_emod_of_nonneg h4]; exact hb
      go_upto_region 13 with (fail)
      go_cut [17] from 97 to 108 (fun s17 w' => s17 = .bool far ∧ Hid (Below w.heap.size w w'))
      case first =>
        go_wp2
        all_goals (
          go_meet
          case rel =>
            refine ⟨val_bool ?_, HB.out⟩
            rw [← hfar.out, zonN]
            first | (symm; exact decide_eq_true (by omega)) | (symm; exact decide_eq_false (by omega)) | (rw [Bool.eq_iff_iff]; simp; omega))
      case rest =>
        obtain ⟨rfl, HB⟩ := hcut
        clear d0 d1 d2 d3 d4 ta tb
        cases ok
        · have ho := hok.out
          have F1 := Lib.hid (fun w => fails_v TO 9 (by omega) true (tx_f1 HX.out ho HTO.out) w)
          have F2 := Lib.hid (fun w => fails_v TI 9 (by omega) true (tx_f2 HX.out ho HTd.out) w)
          have F3 := Lib.hid (fun c hc w => cf3 HX.out ho HTO.out hTOs c hc w)
          have F4 := Lib.hid (fun c hc w => cf490 HX.out ho HTO.out hTOs c hc w)
          clear ho
          go_wp2
          go_loopg [19] 3 (fun g s19 wr => ∃ i : Nat, i ≤ 3 ∧ s19 = .int .i64 i ∧ Hid (g = 3 - i) ∧ Hid (Below w.heap.size w wr))
          case atStart => exact ⟨0, by omega, rfl, rfl, HB⟩
          case round =>
            obtain ⟨i, hi, rfl, hg, HB⟩ := hrel
            by_cases hlt : i < 3
            · go_upto_region 18 with (fail)
              go_cut [20] from 113 to 116 (fun s20 w' => ∃ c : UInt8, s20 = .string ⟨#[c]⟩ ∧ Hid (c.toNat = 84 ∨ c.toNat = 116 ∨ c.toNat = 32) ∧ Hid (Below w.heap.size w w'))
              case first =>
                obtain rfl | rfl | rfl : i = 0 ∨ i = 1 ∨ i = 2 := by omega
                · go_wp2
                  go_meet
                  case rel => exact ⟨84, rfl, .inl rfl, HB.out.alloc HB.out.size _⟩
                · go_wp2
                  go_meet
                  case rel => exact ⟨116, rfl, .inr (.inl rfl), HB.out.alloc HB.out.size _⟩
                · go_wp2
                  go_meet
                  case rel => exact ⟨32, rfl, .inr (.inr rfl), HB.out.alloc HB.out.size _⟩
              case rest =>
                obtain ⟨c, rfl, hc, HB⟩ := hcut
                go_wp2_with (go_at_call 7; (first | (with_reducible refine (F1.out _).mono ?_) | (with_reducible refine (F2.out _).mono ?_) | (with_reducible refine (F3.out c hc.out _).mono ?_) | (with_reducible refine (F4.out c hc.out _).mono ?_)); rintro x w' ⟨rfl, hb'⟩; replace HB := Lib.hid (HB.out.trans (hb'.mono HB.out.size)); clear hb')
                go_roundg (3 - (i + 1))
                case measure => have := hg.out; omega
                case rel => exact ⟨i + 1, by omega, by go_num, rfl, HB⟩
            · obtain rfl : i = 3 := by omega
              clear hlt hi
              go_wp2_with (go_at_call 10; (first | (with_reducible refine (lives_any _).mono ?_)); rintro x w' ⟨rfl, hb'⟩; replace HB := Lib.hid (HB.out.trans (hb'.mono HB.out.size)); clear hb')
              go_ret
              exact ⟨rfl, HB.out⟩
        · have ho := hok.out
          have I1 := Lib.hid (fun w => ci1 HX.out ho HTO.out hTOs HWA.out w)
          have O2 := Lib.hid (fun w => co2 HX.out ho hWs HWA.out w)
          have O3 := Lib.hid (fun w => co3 HX.out ho hWs HWA.out w)
          have O4 := Lib.hid (fun w => co4 HX.out ho hWs HWA.out w)
          have I3 := Lib.hid (fun c hc w => ci3 HX.out ho HTO.out hTOs HWA.out c hc w)
          have I4 := Lib.hid (fun c hc w => ci4z HX.out ho HTO.out hTOs HWA.out c hc w)
          clear ho
          go_wp2
          go_loopg [19] 3 (fun g s19 wr => ∃ i : Nat, i ≤ 3 ∧ s19 = .int .i64 i ∧ Hid (g = 3 - i) ∧ Hid (Below w.heap.size w wr))
          case atStart => exact ⟨0, by omega, rfl, rfl, HB⟩
          case round =>
            obtain ⟨i, hi, rfl, hg, HB⟩ := hrel
            by_cases hlt : i < 3
            · go_upto_region 18 with (fail)
              go_cut [20] from 113 to 116 (fun s20 w' => ∃ c : UInt8, s20 = .string ⟨#[c]⟩ ∧ Hid (c.toNat = 84 ∨ c.toNat = 116 ∨ c.toNat = 32) ∧ Hid (Below w.heap.size w w'))
              case first =>
                obtain rfl | rfl | rfl : i = 0 ∨ i = 1 ∨ i = 2 := by omega
                · go_wp2
                  go_meet
                  case rel => exact ⟨84, rfl, .inl rfl, HB.out.alloc HB.out.size _⟩
                · go_wp2
                  go_meet
                  case rel => exact ⟨116, rfl, .inr (.inl rfl), HB.out.alloc HB.out.size _⟩
                · go_wp2
                  go_meet
                  case rel => exact ⟨32, rfl, .inr (.inr rfl), HB.out.alloc HB.out.size _⟩
              case rest =>
                obtain ⟨c, rfl, hc, HB⟩ := hcut
                go_wp2_with (first
                  | (go_at_call 8; (first | (with_reducible refine (I1.out _).mono ?_) | (with_reducible refine (I3.out c hc.out _).mono ?_) | (with_reducible refine (I4.out c hc.out _).mono ?_)); rintro x w' ⟨rfl, hb'⟩; replace HB := Lib.hid (HB.out.trans (hb'.mono HB.out.size)); clear hb')
                  | (go_at_call 9; (first | (with_reducible refine (O2.out _).mono ?_) | (with_reducible refine (O3.out _).mono ?_) | (with_reducible refine (O4.out _).mono ?_)); rintro x w' ⟨rfl, hb'⟩; replace HB := Lib.hid (HB.out.trans (hb'.mono HB.out.size)); clear hb'))
                clear I1 I3 I4 O2 O3 O4
                go_loopg [21] 2 (fun g s21 wr => ∃ k : Nat, k ≤ 2 ∧ s21 = .int .i64 k ∧ Hid (g = 2 - k) ∧ Hid (Below w.heap.size w wr))
                case atStart => exact ⟨0, by omega, rfl, rfl, HB⟩
                case round =>
                  obtain ⟨k, hk2, rfl, hg2, HB⟩ := hrel
                  by_cases hlt2 : k < 2
                  · go_upto_region 27 with (fail)
                    go_cut [22] from 204 to 209 (fun s22 w' => ∃ Z : ByteArray, s22 = .string Z ∧ Z.size ≤ 6 ∧ Hid (∃ z : UInt8, (z.toNat = 43 ∨ z.toNat = 45) ∧ Z = ⟨#[z]⟩ ++ ZO) ∧ Hid (Below w.heap.size w w'))
                    case first =>
                      obtain rfl | rfl : k = 0 ∨ k = 1 := by omega
                      · go_wp2
                        go_meet
                        case rel => exact ⟨_, rfl, sgn_six 43 hZs, ⟨43, .inl rfl, rfl⟩, HB.out.alloc HB.out.size _⟩
                      · go_wp2
                        go_meet
                        case rel => exact ⟨_, rfl, sgn_six 45 hZs, ⟨45, .inr rfl, rfl⟩, HB.out.alloc HB.out.size _⟩
                    case rest =>
                      obtain ⟨Z, rfl, hZz, HZ, HB⟩ := hcut
                      obtain ⟨z, hz, e⟩ := HZ.out
                      have G := fun w => czo HX.out HTO.out hTOs HZd.out hZs z hz w
                      rw [← e] at G
                      replace G := Lib.hid G
                      clear e hz
                      clear z
                      cases far
                      · obtain ⟨z, hz, e⟩ := HZ.out
                        have Z1 := fun w => czf HX.out hok.out ha1 hb1 hfar.out HTO.out hTOs HZd.out hZs c hc.out z hz w
                        rw [← e] at Z1
                        replace Z1 := Lib.hid Z1
                        clear e hz
                        clear z
                        go_wp2_with (go_at_call 7; (first | (with_reducible refine (Z1.out _).mono ?_) | (with_reducible refine (G.out _).mono ?_)); rintro x w' ⟨rfl, hb'⟩; replace HB := Lib.hid (HB.out.trans (hb'.mono HB.out.size)); clear hb')
                        go_roundg (2 - (k + 1))
                        case measure => have := hg2.out; omega
                        case rel => exact ⟨k + 1, by omega, by go_num, rfl, HB⟩
                      · obtain ⟨z, hz, e⟩ := HZ.out
                        have Z1 := fun w => cz HX.out hok.out ha1 hb1 hfar.out HTO.out hTOs HWA.out HZd.out hZs c hc.out z hz w
                        rw [← e] at Z1
                        replace Z1 := Lib.hid Z1
                        clear e hz
                        clear z
                        go_wp2_with (first
                          | (go_at_call 7; (first | (with_reducible refine (G.out _).mono ?_)); rintro x w' ⟨rfl, hb'⟩; replace HB := Lib.hid (HB.out.trans (hb'.mono HB.out.size)); clear hb')
                          | (go_at_call 8; (first | (with_reducible refine (Z1.out _).mono ?_)); rintro x w' ⟨rfl, hb'⟩; replace HB := Lib.hid (HB.out.trans (hb'.mono HB.out.size)); clear hb'))
                        go_roundg (2 - (k + 1))
                        case measure => have := hg2.out; omega
                        case rel => exact ⟨k + 1, by omega, by go_num, rfl, HB⟩
                  · obtain rfl : k = 2 := by omega
                    clear hlt2 hk2
                    go_wp2
                    go_roundg (3 - (i + 1))
                    case measure => have := hg.out; omega
                    case rel => exact ⟨i + 1, by omega, by go_num, rfl, HB⟩
            · obtain rfl : i = 3 := by omega
              clear hlt hi
              go_wp2_with (go_at_call 10; (first | (with_reducible refine (lives_any _).mono ?_)); rintro x w' ⟨rfl, hb'⟩; replace HB := Lib.hid (HB.out.trans (hb'.mono HB.out.size)); clear hb')
              go_ret
              exact ⟨rfl, HB.out⟩

end Go.Proofs.YtgchhogdbigafaaDoor
