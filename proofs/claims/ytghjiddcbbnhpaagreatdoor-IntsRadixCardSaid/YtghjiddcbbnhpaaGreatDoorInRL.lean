/- The law IntsRadix walked; no statement of the seat is proved here. -/
import Derived.Test.YtghjiddcbbnhpaaGreatDoorInC
import Derived.Test.YtghjiddcbbnhpaaGreatDoorInL
import Derived.Test.YtghjiddcbbnhpaaGreatDoorInK
import Derived.Lib.Case
namespace Go.Proofs.YtghjiddcbbnhpaaGreatDoor
open Go.RowKit

theorem up_dig : ∀ c : UInt8, digV (Lib.upperB c) = digV c := u8_all (by decide +kernel)
theorem up_digs {q : Nat} {l : List UInt8} (h : ∀ c ∈ l, digV c < q) : ∀ c ∈ Lib.toUpperA l, digV c < q := fun c hc => by
  obtain ⟨d, hd, rfl⟩ := List.mem_map.1 hc
  rw [up_dig]; exact h d hd
theorem up_val (q : Nat) : ∀ (l : List UInt8) (n : Nat), valQ q n (Lib.toUpperA l) = valQ q n l
  | [], _ => rfl
  | c :: l, n => by
    show valQ q n (Lib.upperB c :: Lib.toUpperA l) = _
    rw [valQ, valQ, up_dig]; exact up_val q l _
theorem dig_ascii : ∀ c : UInt8, digV c < 16 → c.toNat < 128 := by
  have h : ∀ c : UInt8, (decide (digV c < 16) = true → c.toNat < 128) := u8_all (by decide +kernel)
  exact fun c hc => h c (decide_eq_true hc)
/-- A text that the law asks for. -/
def RadT (want x : ByteArray) : Prop := AllT want.data.toList x.data.toList ∧ x.size ≤ 300
theorem trim_dec {z : Int} : Lib.trimPrefix (Lib.itoa z) [45] = Lib.decDigits z.natAbs := by
  unfold Lib.trimPrefix
  by_cases h : z < 0
  · rw [itoa_neg h, if_pos (by simp [Lib.hasPrefix])]; rfl
  · rw [itoa_pos h, if_neg]
    intro e
    cases e2 : Lib.decDigits z.natAbs with
    | nil => exact dec_ne _ e2
    | cons c l =>
      rw [e2] at e
      have := dec_dg z.natAbs c (by rw [e2]; simp)
      simp [Lib.hasPrefix] at e
      subst e
      cases this
theorem trm_is {z : Int} {W D : ByteArray} (hW : W.data.toList = Lib.itoa z) (hD : D.data.toList = Lib.decDigits z.natAbs) (w : World) :
    Calls Tryz.prog 19 #[.string W, .string ⟨#[45]⟩] w fun e w' => e = .returned (.string D) ∧ w = w' := by
  refine (Tryz.strings_TrimPrefix W ⟨#[45]⟩ w).mono ?_
  rintro e w' ⟨rfl, rfl⟩
  have : (⟨(Lib.trimPrefix W.data.toList [45]).toArray⟩ : ByteArray) = D := str_eq (by rw [hW, hD, trim_dec])
  exact ⟨by rw [← this], rfl⟩
theorem upr_is {F U : ByteArray} (hF : ∀ c ∈ F.data.toList, digV c < 16) (hs : F.size ≤ 1000) (hU : U.data.toList = Lib.toUpperA F.data.toList) (w : World) :
    Calls Tryz.prog 21 #[.string F] w fun e w' => e = .returned (.string U) ∧ Below w.heap.size w w' := by
  refine (Tryz.strings_ToUpper_ascii F w (by omega) (fun j b hb => dig_ascii b (hF b (List.mem_of_getElem? hb)))).mono ?_
  rintro e w' ⟨rfl, hb⟩
  have : (⟨(Lib.toUpperA F.data.toList).toArray⟩ : ByteArray) = U := str_eq hU.symm
  exact ⟨by rw [this], hb⟩
theorem app_size (a b : ByteArray) : (a ++ b).size = a.size + b.size := ByteArray.size_append ..

set_option maxRecDepth 100000 in
set_option maxHeartbeats 8000000 in
theorem radixlaw_walk (z a : Int) (hz : I64 z) (ha0 : 0 ≤ a) (ha1 : a < 18446744073709551616) (w : World) (hG : Gl w) (hDb : Db w) :
    Calls Tryz.prog 7 #[.int .i64 z, .int .u64 a] w fun e w' => e = .returned (.bool true) ∧ Below w.heap.size w w' := by
  obtain ⟨W, hW⟩ := str_ex (Lib.itoa z)
  obtain ⟨D, hD⟩ := str_ex (Lib.decDigits z.natAbs)
  have zW : W.size ≤ 21 := by rw [← size_list, hW]; exact itoa_len hz
  have zn : z.natAbs < 18446744073709551616 := by unfold I64 at hz; omega
  have zD0 : 0 < D.size := by rw [← size_list, hD]; exact List.length_pos_iff.2 (dec_ne _)
  have zD : D.size ≤ 21 := by
    rw [← size_list, hD]
    have h1 := itoa_len hz
    by_cases h : z < 0
    · rw [itoa_neg h] at h1; simp at h1; omega
    · rw [itoa_pos h] at h1; exact h1
  have HG := Lib.hid hG
  have CW := Lib.hid (fun w' (hb : Below w.heap.size w w') => fmt_is z hz W hW w' (hG.later hb).tab)
  have CT := Lib.hid (fun w' => trm_is hW hD w')
  have CM := Lib.hid (fun w' => mark_is 10 (by omega) D zD0 (by omega) (by rw [hD]; exact dec_digs _) a ha0 ha1 w')
  have HB : Hid (Below w.heap.size w w) := Below.refl _ _
  have y1 : (⟨#[45]⟩ : ByteArray).size = 1 := rfl
  have y0 : (⟨#[]⟩ : ByteArray).size = 0 := rfl
  by_cases hn : z < 0
  · have bn : decide (z < 0) = true := decide_eq_true hn
    have bm : decide (0 ≤ z) = false := decide_eq_false (by omega)
    have K0 : Hid (RadT W W) := by
      refine ⟨?_, by omega⟩
      have := (way_neg (Dec10.self z.natAbs) (by unfold I64 at hz; omega)).all
      rw [show -((z.natAbs : Nat) : Int) = z by omega] at this
      rw [hW]
      conv => arg 2; rw [itoa_neg hn]
      exact this
    have KM : Hid (∀ O : ByteArray, Marked 10 D.data.toList O.data.toList → O.size ≤ 2 * D.size → RadT W (⟨#[45]⟩ ++ O)) := by
      intro O hM hO
      rw [hD] at hM
      refine ⟨?_, by rw [app_size]; omega⟩
      have := (way_neg (Dec10.of hM) (by unfold I64 at hz; omega)).all
      rw [show -((z.natAbs : Nat) : Int) = z by omega] at this
      rw [hW, app_list]
      exact this
    clear hW hD hG hDb hz hn
    go_enter Tryz.func7, Tryz.ntmps7
    go_wp2_with (first
      | (go_at_call 13; (with_reducible refine (CW.out _ HB.out).mono ?_); rintro x w' ⟨rfl, hb'⟩; replace HB := Lib.hid (HB.out.trans (hb'.mono HB.out.size)); clear hb')
      | (go_at_call 19; (with_reducible refine (CT.out _).mono ?_); rintro x w' ⟨rfl, rfl⟩)
      | (go_at_call 20; (with_reducible refine (CM.out _).mono ?_); rintro x w' ⟨⟨O, rfl, hM, hO⟩, rfl⟩))
    obtain ⟨wq, hwq⟩ : ∃ wq, wq = w' := ⟨w', rfl⟩
    subst hwq
    have H0 := Lib.hid (RX.made (P := RadT W) [W, ⟨#[45]⟩ ++ O] (cs := #[.string W, .string (⟨#[45]⟩ ++ O)]) rfl HB.out (by
      intro x hx
      simp only [List.mem_cons, List.not_mem_nil, or_false] at hx
      rcases hx with rfl | rfl
      · exact K0.out
      · exact KM.out O hM hO) 9)
    clear hM hO K0 KM CW CT CM
    generalize (⟨#[45]⟩ : ByteArray) ++ O = x1 at *
    clear HB
    go_loopw [9] (fun i wr => ∃ j : Nat, j ≤ 2 ∧ i = .int .i64 j ∧ Hid (RX (RadT W) w wr wq.heap.size [W, x1])) (fun i _ => 2 - (intOf i).toNat)
    case atStart => exact ⟨0, by omega, rfl, H0⟩
    case round =>
      obtain ⟨j, hj, rfl, HR⟩ := hrel
      by_cases hlt : j < 2
      · obtain ⟨x, hx⟩ : ∃ x, Hid ([W, x1][j]? = some x) := ⟨[W, x1][j]'(by simp; omega), List.getElem?_eq_getElem _⟩
        have hF := HR.out.all x (List.mem_of_getElem? hx.out)
        have hxz := hF.2
        have z1 : (⟨#[95]⟩ : ByteArray).size = 1 := rfl
        have z2 : (⟨#[95, 95, 49]⟩ : ByteArray).size = 3 := rfl
        have z3 : (⟨#[32]⟩ : ByteArray).size = 1 := rfl
        have z4 : (⟨#[46]⟩ : ByteArray).size = 1 := rfl
        have Q0 := Lib.hid (fun w' h => is_yes x W (by omega) hF.1.r0 w' h)
        have Q1 := Lib.hid (fun w' h => fails_yes (x ++ ⟨#[95]⟩) 3 (by rw [app_size]; omega) (by rw [app_list]; exact hF.1.r1) w' h)
        have Q2 := Lib.hid (fun w' h => fails_yes (x ++ ⟨#[95, 95, 49]⟩) 3 (by rw [app_size]; omega) (by rw [app_list]; exact hF.1.r2) w' h)
        have Q3 := Lib.hid (fun w' h => fails_yes (⟨#[95]⟩ ++ x) 3 (by rw [app_size]; omega) (by rw [app_list]; exact hF.1.r3) w' h)
        have Q4 := Lib.hid (fun w' h => fails_yes (x ++ ⟨#[32]⟩) 3 (by rw [app_size]; omega) (by rw [app_list]; exact hF.1.r4) w' h)
        have Q5 := Lib.hid (fun w' h => fails_yes (x ++ ⟨#[46]⟩) 3 (by rw [app_size]; omega) (by rw [app_list]; exact hF.1.r5) w' h)
        have c0 := HR.out.cell j x hx.out
        clear hF
        go_wp2_with (first
          | (go_at_call 17; (with_reducible refine (Q0.out _ (HG.out.later HR.out.below)).mono ?_); rintro y w' ⟨rfl, hb'⟩; replace HR := Lib.hid (HR.out.later hb'); clear hb' c0; have c0 := HR.out.cell j x hx.out)
          | (go_at_call 18; (first | (with_reducible refine (Q1.out _ (HG.out.later HR.out.below)).mono ?_) | (with_reducible refine (Q2.out _ (HG.out.later HR.out.below)).mono ?_) | (with_reducible refine (Q3.out _ (HG.out.later HR.out.below)).mono ?_) | (with_reducible refine (Q4.out _ (HG.out.later HR.out.below)).mono ?_) | (with_reducible refine (Q5.out _ (HG.out.later HR.out.below)).mono ?_)); rintro y w' ⟨rfl, hb'⟩; replace HR := Lib.hid (HR.out.later hb'); clear hb' c0; have c0 := HR.out.cell j x hx.out))
        go_roundw
        case rel => exact ⟨j + 1, by omega, by go_num, HR⟩
        case measure => simp [intOf]; omega
      · go_wp2_with (go_at_call 8; (with_reducible refine (lives_any _ (HG.out.later HR.out.below)).mono ?_); rintro y w' ⟨rfl, hb'⟩; replace HR := Lib.hid (HR.out.later hb'); clear hb')
        go_ret
        exact ⟨rfl, HR.out.below⟩
  · have bn : decide (z < 0) = false := decide_eq_false hn
    have bm : decide (0 ≤ z) = true := decide_eq_true (by omega)
    obtain ⟨n, rfl⟩ : ∃ n : Nat, z = (n : Int) := ⟨z.toNat, by omega⟩
    have hn63 : n ≤ 9223372036854775807 := by unfold I64 at hz; omega
    obtain ⟨F16, h16⟩ := str_ex (fmtQ 16 n)
    obtain ⟨F8, h8⟩ := str_ex (fmtQ 8 n)
    obtain ⟨F2, h2⟩ := str_ex (fmtQ 2 n)
    obtain ⟨U, hU⟩ := str_ex (Lib.toUpperA F16.data.toList)
    have z16 : F16.size ≤ 64 := by rw [← size_list, h16]; exact fmt_len64 (by omega) (by omega)
    have z8 : F8.size ≤ 64 := by rw [← size_list, h8]; exact fmt_len64 (by omega) (by omega)
    have z2 : F2.size ≤ 64 := by rw [← size_list, h2]; exact fmt_len64 (by omega) (by omega)
    have zU : U.size ≤ 64 := by rw [← size_list, hU]; unfold Lib.toUpperA; rw [List.length_map]; exact z16
    have e16 : 0 < F16.size := by rw [← size_list, h16]; exact List.length_pos_iff.2 (fmt_ne _ _)
    have e8 : 0 < F8.size := by rw [← size_list, h8]; exact List.length_pos_iff.2 (fmt_ne _ _)
    have e2 : 0 < F2.size := by rw [← size_list, h2]; exact List.length_pos_iff.2 (fmt_ne _ _)
    have C16 := Lib.hid (fun w' (hb : Below w.heap.size w w') => fi_16 n (by omega) F16 h16 w' (hDb.later hb))
    have C8 := Lib.hid (fun w' (hb : Below w.heap.size w w') => fi_8 n (by omega) F8 h8 w' (hDb.later hb))
    have C2 := Lib.hid (fun w' (hb : Below w.heap.size w w') => fi_2 n (by omega) F2 h2 w' (hDb.later hb))
    have CU := Lib.hid (fun w' => upr_is (F := F16) (U := U) (by rw [h16]; exact fmt_dig (by omega) (by omega) n) (by omega) hU w')
    have M16 := Lib.hid (fun w' => mark_is 16 (by omega) F16 e16 (by omega) (by rw [h16]; exact fmt_dig (by omega) (by omega) n) a ha0 ha1 w')
    have M8 := Lib.hid (fun w' => mark_is 8 (by omega) F8 e8 (by omega) (by rw [h8]; exact fmt_dig (by omega) (by omega) n) a ha0 ha1 w')
    have M2 := Lib.hid (fun w' => mark_is 2 (by omega) F2 e2 (by omega) (by rw [h2]; exact fmt_dig (by omega) (by omega) n) a ha0 ha1 w')
    have hWd : W.data.toList = Lib.decDigits n := by rw [hW, itoa_nat]
    have hDd : D.data.toList = Lib.decDigits n := hD
    have K0 : Hid (RadT W W) := ⟨by have := (way_bare (Dec10.self n) hn63).all; rw [itoa_nat] at this; rw [hWd]; exact this, by omega⟩
    have KM : Hid (∀ O : ByteArray, Marked 10 D.data.toList O.data.toList → O.size ≤ 2 * D.size → RadT W O) := by
      intro O hM hO
      rw [hDd] at hM
      have := (way_bare (Dec10.of hM) hn63).all
      exact ⟨by rw [hW]; exact this, by omega⟩
    have KP : Hid (RadT W (⟨#[43]⟩ ++ W)) := by
      refine ⟨?_, by rw [app_size]; show 1 + _ ≤ _; omega⟩
      have := (way_pos (Dec10.self n) hn63).all
      rw [app_list, hW]
      conv => arg 2; rw [itoa_nat]
      exact this
    have K16 : Hid (∀ O : ByteArray, Marked 16 F16.data.toList O.data.toList → O.size ≤ 2 * F16.size → RadT W (⟨#[48, 120]⟩ ++ O)) := by
      intro O hM hO
      rw [h16] at hM
      exact ⟨by rw [hW, app_list]; exact (way_q16 hM hn63).all, by rw [app_size]; show 2 + _ ≤ _; omega⟩
    have K8 : Hid (∀ O : ByteArray, Marked 8 F8.data.toList O.data.toList → O.size ≤ 2 * F8.size → RadT W (⟨#[48, 111]⟩ ++ O)) := by
      intro O hM hO
      rw [h8] at hM
      exact ⟨by rw [hW, app_list]; exact (way_q8 hM hn63).all, by rw [app_size]; show 2 + _ ≤ _; omega⟩
    have K2 : Hid (∀ O : ByteArray, Marked 2 F2.data.toList O.data.toList → O.size ≤ 2 * F2.size → RadT W (⟨#[48, 98]⟩ ++ O)) := by
      intro O hM hO
      rw [h2] at hM
      exact ⟨by rw [hW, app_list]; exact (way_q2 hM hn63).all, by rw [app_size]; show 2 + _ ≤ _; omega⟩
    have KU : Hid (RadT W (⟨#[48, 120, 48, 95, 48]⟩ ++ U)) := by
      refine ⟨?_, by rw [app_size]; show 5 + _ ≤ _; omega⟩
      rw [hW, app_list]
      refine (way_up (U := U.data.toList) (by rw [hU, h16]; exact up_digs (fmt_dig (by omega) (by omega) n)) (by rw [hU, up_val, h16, fmt_val (by omega) (by omega)]) (by rw [hU, h16]; intro e; exact fmt_ne 16 n (List.map_eq_nil_iff.1 e)) hn63).all
    have q1 : (⟨#[43]⟩ : ByteArray).size = 1 := rfl
    have q2 : (⟨#[48, 120]⟩ : ByteArray).size = 2 := rfl
    have q3 : (⟨#[48, 111]⟩ : ByteArray).size = 2 := rfl
    have q4 : (⟨#[48, 98]⟩ : ByteArray).size = 2 := rfl
    have q5 : (⟨#[48, 120, 48, 95, 48]⟩ : ByteArray).size = 5 := rfl
    clear hW hD hWd hDd hG hDb hz hn h16 h8 h2 hU
    go_enter Tryz.func7, Tryz.ntmps7
    go_upto_if 24 with (first
      | (go_at_call 13; (with_reducible refine (CW.out _ HB.out).mono ?_); rintro x w' ⟨rfl, hb'⟩; replace HB := Lib.hid (HB.out.trans (hb'.mono HB.out.size)); clear hb')
      | (go_at_call 19; (with_reducible refine (CT.out _).mono ?_); rintro x w' ⟨rfl, rfl⟩)
      | (go_at_call 20; (with_reducible refine (CM.out _).mono ?_); rintro x w' ⟨⟨O, rfl, hM, hO⟩, rfl⟩))
    obtain ⟨wq, hwq⟩ : ∃ wq, wq = w' := ⟨w', rfl⟩
    subst hwq
    have KO : RadT W (⟨#[]⟩ ++ O) := by
      have e : (⟨#[]⟩ : ByteArray) ++ O = O := str_eq (by rw [app_list]; rfl)
      rw [e]; exact KM.out O hM hO
    have hx1 : ((⟨#[]⟩ : ByteArray) ++ O).size ≤ 300 := KO.2
    have H0 := Lib.hid (RX.made (P := RadT W) [W, ⟨#[]⟩ ++ O] (cs := #[.string W, .string (⟨#[]⟩ ++ O)]) rfl HB.out (by
      intro x hx
      simp only [List.mem_cons, List.not_mem_nil, or_false] at hx
      rcases hx with rfl | rfl
      · exact K0.out
      · exact KO) 9)
    have HO := Lib.hid (World.ownsRow_lit (base := w.heap.size) (e := 9) (size := 1) wq #[.string W, .string (⟨#[]⟩ ++ O)] 2 HB.out.size (by simp only [maxLen]; omega) rfl)
    have KO := Lib.hid KO
    clear hM hO KM CW CT CM HB
    generalize (⟨#[]⟩ : ByteArray) ++ O = x1 at *
    obtain ⟨i0, hi, hz0, hz1, hz2⟩ := info_parts str_info
    go_wp2_with (first
      | (go_at_call 13; (first | (with_reducible refine (C16.out _ H0.out.below).mono ?_) | (with_reducible refine (C8.out _ H0.out.below).mono ?_) | (with_reducible refine (C2.out _ H0.out.below).mono ?_)); rintro x w' ⟨rfl, hb'⟩; replace HO := Lib.hid (own_keep HO.out hb' (Nat.le_refl _)); replace H0 := Lib.hid (H0.out.later hb'); clear hb')
      | (go_at_call 21; (with_reducible refine (CU.out _).mono ?_); rintro x w' ⟨rfl, hb'⟩; replace HO := Lib.hid (own_keep HO.out hb' (Nat.le_refl _)); replace H0 := Lib.hid (H0.out.later hb'); clear hb')
      | (go_at_call 20; (with_reducible refine (M16.out _).mono ?_); rintro x w' ⟨⟨O16, rfl, hM16, hO16⟩, rfl⟩)
      | (go_at_call 20; (with_reducible refine (M8.out _).mono ?_); rintro x w' ⟨⟨O8, rfl, hM8, hO8⟩, rfl⟩)
      | (go_at_call 20; (with_reducible refine (M2.out _).mono ?_); rintro x w' ⟨⟨O2, rfl, hM2, hO2⟩, rfl⟩)
      | (at_builtin; refine wpList_append_own_at _ rfl (.tmp 25) (.tmp 47) 35 rfl w.heap.size 9 i0 (.string ⟨#[]⟩) 1 16 Tryz.underlying35 hi hz0 hz1 hz2 rfl (by decide) (.slice (some ⟨wq.heap.size, 0, none⟩) 2 2) 2 [.string W, .string x1] rfl (own_keep HO.out (below_new1 _ _) (Nat.le_refl _)) ⟨w'.heap.size, 0, none⟩ 5 5
          [.string (⟨#[43]⟩ ++ W), .string (⟨#[48, 120]⟩ ++ O16), .string (⟨#[48, 120, 48, 95, 48]⟩ ++ U), .string (⟨#[48, 111]⟩ ++ O8), .string (⟨#[48, 98]⟩ ++ O2)] rfl rfl ?c1 ?c2 ?c3 ?c4 ?c5 ?_))
    case c1 => exact news_at (heap_new1 _ _)
    case c2 => intro u hu; simp at hu; rcases hu with rfl | rfl | rfl | rfl | rfl <;> rfl
    case c3 => simp only [maxLen]; omega
    case c4 => omega
    case c5 => have := H0.out.below.size; simp; omega
    intro v5 w5 ho5 hg5 _ hbk5
    have hb5 : Below w.heap.size w w5 := below_grown hg5 (own_ge HO.out) (H0.out.below.alloc H0.out.below.size _) (by have := H0.out.below.size; simp; omega)
    obtain ⟨g5, c5, rfl, hR5⟩ := RX.own (P := RadT W) [W, x1, ⟨#[43]⟩ ++ W, ⟨#[48, 120]⟩ ++ O16, ⟨#[48, 120, 48, 95, 48]⟩ ++ U, ⟨#[48, 111]⟩ ++ O8, ⟨#[48, 98]⟩ ++ O2] rfl (by omega) ho5 (by
      intro x hx
      simp only [List.mem_cons, List.not_mem_nil, or_false] at hx
      rcases hx with rfl | rfl | rfl | rfl | rfl | rfl | rfl
      · exact K0.out
      · exact KO.out
      · exact KP.out
      · exact K16.out O16 hM16 hO16
      · exact KU.out
      · exact K8.out O8 hM8 hO8
      · exact K2.out O2 hM2 hO2) hb5
    replace H0 := Lib.hid hR5
    clear hR5 hb5 ho5 hg5 hbk5 HO KO K0 KP K16 KU K8 K2 hM16 hM8 hM2 C16 C8 C2 CU M16 M8 M2
    have HB : True := trivial
    generalize (⟨#[43]⟩ : ByteArray) ++ W = x2 at *
    generalize (⟨#[48, 120]⟩ : ByteArray) ++ O16 = x3 at *
    generalize (⟨#[48, 120, 48, 95, 48]⟩ : ByteArray) ++ U = x4 at *
    generalize (⟨#[48, 111]⟩ : ByteArray) ++ O8 = x5 at *
    generalize (⟨#[48, 98]⟩ : ByteArray) ++ O2 = x6 at *
    go_wp2_with fail
    clear HB
    go_loopw [9] (fun i wr => ∃ j : Nat, j ≤ 7 ∧ i = .int .i64 j ∧ Hid (RX (RadT W) w wr g5 [W, x1, x2, x3, x4, x5, x6])) (fun i _ => 7 - (intOf i).toNat)
    case atStart => exact ⟨0, by omega, rfl, H0⟩
    case round =>
      obtain ⟨j, hj, rfl, HR⟩ := hrel
      by_cases hlt : j < 7
      · obtain ⟨x, hx⟩ : ∃ x, Hid ([W, x1, x2, x3, x4, x5, x6][j]? = some x) := ⟨[W, x1, x2, x3, x4, x5, x6][j]'(by simp; omega), List.getElem?_eq_getElem _⟩
        have hF := HR.out.all x (List.mem_of_getElem? hx.out)
        have hxz := hF.2
        have z1 : (⟨#[95]⟩ : ByteArray).size = 1 := rfl
        have z2 : (⟨#[95, 95, 49]⟩ : ByteArray).size = 3 := rfl
        have z3 : (⟨#[32]⟩ : ByteArray).size = 1 := rfl
        have z4 : (⟨#[46]⟩ : ByteArray).size = 1 := rfl
        have Q0 := Lib.hid (fun w' h => is_yes x W (by omega) hF.1.r0 w' h)
        have Q1 := Lib.hid (fun w' h => fails_yes (x ++ ⟨#[95]⟩) 3 (by rw [app_size]; omega) (by rw [app_list]; exact hF.1.r1) w' h)
        have Q2 := Lib.hid (fun w' h => fails_yes (x ++ ⟨#[95, 95, 49]⟩) 3 (by rw [app_size]; omega) (by rw [app_list]; exact hF.1.r2) w' h)
        have Q3 := Lib.hid (fun w' h => fails_yes (⟨#[95]⟩ ++ x) 3 (by rw [app_size]; omega) (by rw [app_list]; exact hF.1.r3) w' h)
        have Q4 := Lib.hid (fun w' h => fails_yes (x ++ ⟨#[32]⟩) 3 (by rw [app_size]; omega) (by rw [app_list]; exact hF.1.r4) w' h)
        have Q5 := Lib.hid (fun w' h => fails_yes (x ++ ⟨#[46]⟩) 3 (by rw [app_size]; omega) (by rw [app_list]; exact hF.1.r5) w' h)
        have c0 := HR.out.cell j x hx.out
        clear hF
        go_wp2_with (first
          | (go_at_call 17; (with_reducible refine (Q0.out _ (HG.out.later HR.out.below)).mono ?_); rintro y w' ⟨rfl, hb'⟩; replace HR := Lib.hid (HR.out.later hb'); clear hb' c0; have c0 := HR.out.cell j x hx.out)
          | (go_at_call 18; (first | (with_reducible refine (Q1.out _ (HG.out.later HR.out.below)).mono ?_) | (with_reducible refine (Q2.out _ (HG.out.later HR.out.below)).mono ?_) | (with_reducible refine (Q3.out _ (HG.out.later HR.out.below)).mono ?_) | (with_reducible refine (Q4.out _ (HG.out.later HR.out.below)).mono ?_) | (with_reducible refine (Q5.out _ (HG.out.later HR.out.below)).mono ?_)); rintro y w' ⟨rfl, hb'⟩; replace HR := Lib.hid (HR.out.later hb'); clear hb' c0; have c0 := HR.out.cell j x hx.out))
        go_roundw
        case rel => exact ⟨j + 1, by omega, by go_num, HR⟩
        case measure => simp [intOf]; omega
      · go_wp2_with (go_at_call 8; (with_reducible refine (lives_any _ (HG.out.later HR.out.below)).mono ?_); rintro y w' ⟨rfl, hb'⟩; replace HR := Lib.hid (HR.out.later hb'); clear hb')
        go_ret
        exact ⟨rfl, HR.out.below⟩

end Go.Proofs.YtghjiddcbbnhpaaGreatDoor
