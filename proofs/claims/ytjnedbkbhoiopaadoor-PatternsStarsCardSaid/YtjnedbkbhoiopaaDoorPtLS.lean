/- The walk over the law PatternsStars; no statement of the seat is proved here. (Printed by wip/tools/genPtLS.py.) -/
import Derived.Test.YtjnedbkbhoiopaaDoorPtY
namespace Go.Proofs.YtjnedbkbhoiopaaDoor
open Go.RowKit

theorem LS.bel1 {w W : World} {z : Array Value} {B A : Option Addr} {kb cb ka c : Nat} {ts : List ByteArray} {q : List PS4} (h : LS w W z B kb cb ts A ka c q) : w.heap.size + 1 ≤ W.heap.size := blk_lt h.box
theorem rem_key (x : PS4) : ((x.k.toNat : Int) % 2 == 0) = isKey x := by
  unfold isKey
  rw [Bool.eq_iff_iff, beq_iff_eq, decide_eq_true_iff]; omega

set_option maxRecDepth 100000 in
set_option maxHeartbeats 16000000 in
theorem starslaw_walk (PA : Option Addr) (n pc : Nat) (l : List PS4) (hn : n = l.length) (st : Int) (_hst : 0 ≤ st ∧ st < 4294967296) (z0 z1 : Int) (hz0' : 0 ≤ z0 ∧ z0 < 256) (hz1' : 0 ≤ z1 ∧ z1 < 256) (w : World) (hM : PM w PA l) :
    Calls Tryd.prog 7 #[.slice PA n pc, .int .u32 st, .agg #[.int .u8 z0, .int .u8 z1]] w fun e w' => e = .returned (.bool true) ∧ Below w.heap.size w w' := by
  have LV := Lib.hid (fun w => lives_any w)
  by_cases hbig : 20 < n
  · go_enter Tryd.func7, Tryd.ntmps7
    go_wp2_with (go_at_call 8; (with_reducible refine (LV.out _).mono ?_); rintro e w1 ⟨rfl, hb1⟩)
    go_ret
    exact ⟨rfl, (below_new1 w _).trans (hb1.mono (by simp))⟩
  · have hn20 : n ≤ 20 := by omega
    have HM := Lib.hid hM; have HN := Lib.hid hn
    obtain ⟨i0, hi0, hz0, hz1, hz2⟩ := info_parts step4_info
    obtain ⟨s0, hs0, ss0, ss1, ss2⟩ := info_parts string_info
    have Hi := Lib.hid hi0; have Hz0 := Lib.hid hz0; have Hz1 := Lib.hid hz1; have Hz2 := Lib.hid hz2
    have Si := Lib.hid hs0; have Sz0 := Lib.hid ss0; have Sz1 := Lib.hid ss1; have Sz2 := Lib.hid ss2
    have HOB := Lib.hid (heap_new1 w (.cells #[.int .u8 z0, .int .u8 z1] 56))
    have KC := Lib.hid (fun s w => keyL_is s w); have IC := Lib.hid (fun s d w => idL_is s d w)
    have WC := Lib.hid (fun s (h : ByteArray.size s ≤ 60) w => encS_is s h w)
    clear hM hn hi0 hz0 hz1 hz2 hbig hs0 ss0 ss1 ss2
    go_enter Tryd.func7, Tryd.ntmps7
    go_wp2
    go_loopg [7, 8, 9] n (fun q s7 s8 s9 wr => ∃ (k : Nat) (B : Option Addr) (cb : Nat) (A : Option Addr) (c : Nat) (ts : List ByteArray) (ps : List Pat), s9 = .int .i64 (k : Int) ∧ s7 = .slice B k cb ∧ s8 = .slice A k c ∧ k ≤ n ∧ Hid (q = n - k) ∧ Hid (SR (l.take k) ts ps) ∧
      Hid (LS w wr #[.int .u8 z0, .int .u8 z1] B k cb ts A k c ((l.take k).map asP)))
    case atStart => exact ⟨0, none, 0, none, 0, [], [], rfl, rfl, rfl, by omega, by show _ = _; omega, SR.nil, ⟨HOB.out, World.ownsRow_nil _ _ _ _, World.ownsRow_nil _ _ _ _, below_new1 w _⟩⟩
    case round =>
      obtain ⟨k, B, cb, A, c, ts, ps, rfl, rfl, rfl, hk, hq, HSR, HL⟩ := hrel
      by_cases hlt : k < n
      · have hkl : k < l.length := by have := HN.out; omega
        obtain ⟨g, off, rfl, hg, c0, c1, c2, c3⟩ := (HM.out.keep HL.out.bel (Nat.le_refl _)) k hkl
        obtain ⟨x, hx⟩ : ∃ x, l[k] = x := ⟨_, rfl⟩
        rw [hx] at c0 c1 c2 c3
        have HX := Lib.hid hx
        by_cases ht : 60 < x.t.size
        · clear hx
          go_wp2_with (go_at_call 8; (with_reducible refine (LV.out _).mono ?_); rintro e w1 ⟨rfl, hb1⟩)
          go_ret
          exact ⟨rfl, onB HL.out.bel ((below_new1 wr _).trans (hb1.mono (by simp)))⟩
        · by_cases hd : 60 < x.d.size
          · clear hx
            go_wp2_with (go_at_call 8; (with_reducible refine (LV.out _).mono ?_); rintro e w1 ⟨rfl, hb1⟩)
            go_ret
            exact ⟨rfl, onB HL.out.bel ((below_new1 wr _).trans (hb1.mono (by simp)))⟩
          · have hrk := rem_key x
            have HXB := Lib.hid (heap_new1 wr (.cells (boxP x) 50))
            have HL1 := Lib.hid (HL.out.later (below_new1 wr (.cells (boxP x) 50)))
            have htk1 : Hid (l.take (k + 1) = l.take k ++ [x]) := by show _ = _; rw [List.take_succ_eq_append_getElem hkl, HX.out]
            have htk2 : Hid ((l.take (k + 1)).map asP = (l.take k).map asP ++ [asP x]) := by show _ = _; rw [htk1.out]; simp
            clear hx
            obtain ⟨b, hb⟩ : ∃ b, isKey x = b := ⟨_, rfl⟩
            rw [hb] at hrk
            have HK := Lib.hid hb
            clear hb
            have ht' : x.t.size ≤ 60 := by omega
            have hd' : x.d.size ≤ 60 := by omega
            have hes := encS_size x.t
            have hed := encS_size x.d
            go_upto_region 13 with (fail)
            obtain ⟨bt, hbt⟩ : ∃ bt, (bits BinOp.and IntKind.u32 (st / 2 ^ k) 1 == 1) = bt := ⟨_, rfl⟩
            rw [hbt]
            clear hbt
            obtain ⟨W1, hW1⟩ : ∃ W1, W1 = wr.alloc (.cells (boxP x) 50) := ⟨_, rfl⟩
            have HL1' := HL1.out
            have hxb := HXB.out
            rw [← hW1] at HL1' hxb ⊢
            replace HL1 := Lib.hid HL1'
            replace HXB := Lib.hid hxb
            have y0 : W1.cell? ⟨wr.heap.size, 0, none⟩ = some (.int .u8 (x.k.toNat : Int)) := blk_cell hxb 0
            have y1 : W1.cell? ⟨wr.heap.size, 1, none⟩ = some (.string x.t) := blk_cell hxb 1
            have y2 : W1.cell? ⟨wr.heap.size, 2, none⟩ = some (.string x.d) := blk_cell hxb 2
            clear hW1 HL1' hxb
            cases b
            · cases bt
              · -- id, no star
                have hstep : StepT (⟨#[91]⟩ ++ encS x.t ++ ⟨#[61]⟩ ++ encS x.d ++ ⟨#[93]⟩ : ByteArray).data.toList (Pat.id x.t.data.toList x.d.data.toList) := by
                  have := (way_id HK.out).1
                  simp only [app_listU, encS_list]
                  simpa using this
                have htk : (Pat.id x.t.data.toList x.d.data.toList).takes (asP x).step = true := (way_id HK.out).2
                have hts : (⟨#[91]⟩ ++ encS x.t ++ ⟨#[61]⟩ ++ encS x.d ++ ⟨#[93]⟩ : ByteArray).size ≤ 400 := by
                  simp only [app_sizeU, hes, hed]
                  show 1 + 3 * x.t.size + 1 + 3 * x.d.size + 1 ≤ 400
                  omega
                have hsr := HSR.out.snoc (x := x) hstep htk hts
                have HSR2 := Lib.hid hsr
                clear hstep htk hts hsr
                have q1 : ¬ 9223372036854775807 < 1 + (encS x.t).size := by omega
                have q2 : ¬ 9223372036854775807 < 1 + (encS x.t).size + 1 := by omega
                have q3 : ¬ 9223372036854775807 < 1 + (encS x.t).size + 1 + (encS x.d).size := by omega
                have q4 : ¬ 9223372036854775807 < 1 + (encS x.t).size + 1 + (encS x.d).size + 1 := by omega
                go_wp2
                replace y1 := later_cell y1
                replace y2 := later_cell y2
                have C1 : Hid (∀ m : Later W1, Calls Tryd.prog 21 #[.string x.t] m.at_ fun e w'' => e = .returned (.string (encS x.t)) ∧ ∃ m' : Later W1, w'' = m'.at_) := fun m => calls_later ((WC.out x.t ht' m.at_).mono fun e w' h => ⟨h.1, onB m.below h.2⟩)
                have C2 : Hid (∀ m : Later W1, Calls Tryd.prog 21 #[.string x.d] m.at_ fun e w'' => e = .returned (.string (encS x.d)) ∧ ∃ m' : Later W1, w'' = m'.at_) := fun m => calls_later ((WC.out x.d hd' m.at_).mono fun e w' h => ⟨h.1, onB m.below h.2⟩)
                refine wp_region_any (by kernel_rfl) ?_
                refine wpAny_mid 0 1 13 rfl (by decide) (by kernel_rfl) (by kernel_rfl) (fun _ _ _ _ _ h => h) ?_
                simp only [List.drop_zero, List.take_succ_cons, List.take_zero]
                repeat (go_big_quiet_step (fail))
                refine wpQuiet_nil ?_
                refine wpAny_head 1 11 3 W1 rfl (by kernel_rfl) (Below.refl _ _).drew ?_
                simp only [List.drop_succ_cons, List.drop_zero, List.take_succ_cons, List.take_zero]
                repeat (go_big_quiet_step ((go_at_call 21; (first | (with_reducible exact C1.out _) | (with_reducible exact C2.out _)))))
                refine wpQuiet_nil ?_
                intro w2 hw2
                obtain ⟨⟨w2', hb2⟩, e4⟩ := hw2
                have e5 : w2 = w2' := e4
                subst e5
                clear e4 C1 C2 y1 y2
                have HL2 := Lib.hid (HL1.out.later hb2)
                have HX2 := Lib.hid (blk_later HXB.out hb2 (blk_lt HXB.out))
                clear hb2
                refine wpAny_rest 11 rfl (by kernel_rfl) ?_
                simp only [List.drop_succ_cons, List.drop_zero]
                go_wp2_with (first
                  | (have _z := HL4; at_builtin; refine wpList_app1g _ rfl _ _ 31 rfl (w.heap.size + 1) 50 i0 _ 4 48 Tryd.underlying31 Hi.out Hz0.out Hz1.out Hz2.out rfl (by decide) A k c (rowP ((l.take k).map asP)) rfl HL4.out.pth [.int .u8 2, .string x.t, .string x.d, .int .i64 0] _ rfl rfl (cellsP_one (x := ⟨2, x.t, x.d, 0⟩)) (by omega) (by decide) HL4.out.bel1 ?_; intro A' c' w5 hown5 hc5 hg5 hb5; have HL5 := Lib.hid (HL4.out.pushP (x := ⟨2, x.t, x.d, 0⟩) hown5 hg5 hb5); clear hown5 hc5 hg5 hb5)
                  | (at_builtin; refine wpList_app1g _ rfl _ _ 57 rfl (w.heap.size + 1) 9 s0 _ 1 16 Tryd.underlying57 Si.out Sz0.out Sz1.out Sz2.out rfl (by decide) B k cb (ts.map Value.string) rfl HL2.out.txt [.string _] _ rfl rfl (fun u hu => by simp at hu; subst hu; rfl) (by omega) (by decide) HL2.out.bel1 ?_; intro B' cb' w3 hown3 hc3 hg3 hb3; have HL3 := Lib.hid (HL2.out.pushT hown3 hg3 hb3); have hx3 := own_beside HL.out.txt (Nat.le_refl _) hg3 (blk_later HX2.out (below_new1 _ _) (blk_lt HX2.out)); have HX3 := Lib.hid hx3; have y0 : w3.cell? _ = some (.int .u8 (x.k.toNat : Int)) := blk_cell hx3 0; have y1 : w3.cell? _ = some (.string x.t) := blk_cell hx3 1; have y2 : w3.cell? _ = some (.string x.d) := blk_cell hx3 2; clear hx3 hown3 hc3 hg3 hb3)
                  | (go_at_call 22; (with_reducible refine (IC.out _ _ _).mono ?_); rintro e w4 ⟨rfl, hb4⟩; have HL4 := Lib.hid (HL3.out.later hb4); clear hb4 y0 y1 y2))
                go_roundg (n - (k + 1))
                case measure => have := hq.out; omega
                case rel =>
                  have hax : asP x = ⟨2, x.t, x.d, 0⟩ := by unfold asP; rw [HK.out]; rfl
                  refine ⟨k + 1, _, _, _, _, _, _, by go_num, rfl, rfl, by omega, rfl, by show SR _ _ _; rw [htk1.out]; exact HSR2.out, ?_⟩
                  have h5 := HL5.out
                  rw [← hax, ← htk2.out] at h5
                  exact h5
              · by_cases hev : x.d.size % 2 = 0
                · have hev' : ((x.d.size : Int).tmod 2 == 0) = true := by rw [Int.tmod_eq_emod_of_nonneg (by omega), beq_iff_eq]; omega
                  have hstep : StepT (⟨#[91, 42, 93]⟩ : ByteArray).data.toList (Pat.anyAt) := StepT.anyAt
                  have htk : (Pat.anyAt).takes (asP x).step = true := way_anyAt HK.out
                  have hts : (⟨#[91, 42, 93]⟩ : ByteArray).size ≤ 400 := by decide
                  have hsr := HSR.out.snoc (x := x) hstep htk hts
                  have HSR2 := Lib.hid hsr
                  clear hstep htk hts hsr
                  go_wp2_with (first
                    | (have _z := HL4; at_builtin; refine wpList_app1g _ rfl _ _ 31 rfl (w.heap.size + 1) 50 i0 _ 4 48 Tryd.underlying31 Hi.out Hz0.out Hz1.out Hz2.out rfl (by decide) A k c (rowP ((l.take k).map asP)) rfl HL4.out.pth [.int .u8 2, .string x.t, .string x.d, .int .i64 0] _ rfl rfl (cellsP_one (x := ⟨2, x.t, x.d, 0⟩)) (by omega) (by decide) HL4.out.bel1 ?_; intro A' c' w5 hown5 hc5 hg5 hb5; have HL5 := Lib.hid (HL4.out.pushP (x := ⟨2, x.t, x.d, 0⟩) hown5 hg5 hb5); clear hown5 hc5 hg5 hb5)
                    | (at_builtin; refine wpList_app1g _ rfl _ _ 57 rfl (w.heap.size + 1) 9 s0 _ 1 16 Tryd.underlying57 Si.out Sz0.out Sz1.out Sz2.out rfl (by decide) B k cb (ts.map Value.string) rfl HL1.out.txt [.string _] _ rfl rfl (fun u hu => by simp at hu; subst hu; rfl) (by omega) (by decide) HL1.out.bel1 ?_; intro B' cb' w3 hown3 hc3 hg3 hb3; have HL3 := Lib.hid (HL1.out.pushT hown3 hg3 hb3); have hx3 := own_beside HL.out.txt (Nat.le_refl _) hg3 (blk_later HXB.out (below_new1 _ _) (blk_lt HXB.out)); have HX3 := Lib.hid hx3; have y0 : w3.cell? _ = some (.int .u8 (x.k.toNat : Int)) := blk_cell hx3 0; have y1 : w3.cell? _ = some (.string x.t) := blk_cell hx3 1; have y2 : w3.cell? _ = some (.string x.d) := blk_cell hx3 2; clear hx3 hown3 hc3 hg3 hb3)
                    | (go_at_call 22; (with_reducible refine (IC.out _ _ _).mono ?_); rintro e w4 ⟨rfl, hb4⟩; have HL4 := Lib.hid (HL3.out.later hb4); clear hb4 y0 y1 y2))
                  go_roundg (n - (k + 1))
                  case measure => have := hq.out; omega
                  case rel =>
                    have hax : asP x = ⟨2, x.t, x.d, 0⟩ := by unfold asP; rw [HK.out]; rfl
                    refine ⟨k + 1, _, _, _, _, _, _, by go_num, rfl, rfl, by omega, rfl, by show SR _ _ _; rw [htk1.out]; exact HSR2.out, ?_⟩
                    have h5 := HL5.out
                    rw [← hax, ← htk2.out] at h5
                    exact h5
                · have hev' : ((x.d.size : Int).tmod 2 == 0) = false := by rw [Int.tmod_eq_emod_of_nonneg (by omega), beq_eq_false_iff_ne]; omega
                  have hstep : StepT (⟨#[91]⟩ ++ encS x.t ++ ⟨#[61, 42, 93]⟩ : ByteArray).data.toList (Pat.anyId x.t.data.toList) := by
                    have := (way_anyId HK.out).1
                    simp only [app_listU, encS_list]
                    simpa using this
                  have htk : (Pat.anyId x.t.data.toList).takes (asP x).step = true := (way_anyId HK.out).2
                  have hts : (⟨#[91]⟩ ++ encS x.t ++ ⟨#[61, 42, 93]⟩ : ByteArray).size ≤ 400 := by
                    simp only [app_sizeU, hes]
                    show 1 + 3 * x.t.size + 3 ≤ 400
                    omega
                  have hsr := HSR.out.snoc (x := x) hstep htk hts
                  have HSR2 := Lib.hid hsr
                  clear hstep htk hts hsr
                  have q1 : ¬ 9223372036854775807 < 1 + (encS x.t).size := by omega
                  have q2 : ¬ 9223372036854775807 < 1 + (encS x.t).size + 3 := by omega
                  go_wp2_with (first
                    | (have _z := HL4; at_builtin; refine wpList_app1g _ rfl _ _ 31 rfl (w.heap.size + 1) 50 i0 _ 4 48 Tryd.underlying31 Hi.out Hz0.out Hz1.out Hz2.out rfl (by decide) A k c (rowP ((l.take k).map asP)) rfl HL4.out.pth [.int .u8 2, .string x.t, .string x.d, .int .i64 0] _ rfl rfl (cellsP_one (x := ⟨2, x.t, x.d, 0⟩)) (by omega) (by decide) HL4.out.bel1 ?_; intro A' c' w5 hown5 hc5 hg5 hb5; have HL5 := Lib.hid (HL4.out.pushP (x := ⟨2, x.t, x.d, 0⟩) hown5 hg5 hb5); clear hown5 hc5 hg5 hb5)
                    | (have _z := HL2; at_builtin; refine wpList_app1g _ rfl _ _ 57 rfl (w.heap.size + 1) 9 s0 _ 1 16 Tryd.underlying57 Si.out Sz0.out Sz1.out Sz2.out rfl (by decide) B k cb (ts.map Value.string) rfl HL2.out.txt [.string _] _ rfl rfl (fun u hu => by simp at hu; subst hu; rfl) (by omega) (by decide) HL2.out.bel1 ?_; intro B' cb' w3 hown3 hc3 hg3 hb3; have HL3 := Lib.hid (HL2.out.pushT hown3 hg3 hb3); have hx3 := own_beside HL.out.txt (Nat.le_refl _) hg3 (blk_later HX2.out (below_new1 _ _) (blk_lt HX2.out)); have HX3 := Lib.hid hx3; have y0 : w3.cell? _ = some (.int .u8 (x.k.toNat : Int)) := blk_cell hx3 0; have y1 : w3.cell? _ = some (.string x.t) := blk_cell hx3 1; have y2 : w3.cell? _ = some (.string x.d) := blk_cell hx3 2; clear hx3 hown3 hc3 hg3 hb3)
                    | (go_at_call 21; (with_reducible refine (WC.out _ ht' _).mono ?_); rintro e w2 ⟨rfl, hb2⟩; have HL2 := Lib.hid (HL1.out.later hb2); have HX2 := Lib.hid (blk_later HXB.out hb2 (blk_lt HXB.out)); clear hb2)
                    | (go_at_call 22; (with_reducible refine (IC.out _ _ _).mono ?_); rintro e w4 ⟨rfl, hb4⟩; have HL4 := Lib.hid (HL3.out.later hb4); clear hb4 y0 y1 y2))
                  go_roundg (n - (k + 1))
                  case measure => have := hq.out; omega
                  case rel =>
                    have hax : asP x = ⟨2, x.t, x.d, 0⟩ := by unfold asP; rw [HK.out]; rfl
                    refine ⟨k + 1, _, _, _, _, _, _, by go_num, rfl, rfl, by omega, rfl, by show SR _ _ _; rw [htk1.out]; exact HSR2.out, ?_⟩
                    have h5 := HL5.out
                    rw [← hax, ← htk2.out] at h5
                    exact h5
            · cases bt
              · -- key, no star
                have hstep : StepT (⟨#[47]⟩ ++ encS x.t : ByteArray).data.toList (Pat.key x.t.data.toList) := by
                  have := (way_key HK.out).1
                  simp only [app_listU, encS_list]
                  simpa using this
                have htk : (Pat.key x.t.data.toList).takes (asP x).step = true := (way_key HK.out).2
                have hts : (⟨#[47]⟩ ++ encS x.t : ByteArray).size ≤ 400 := by
                  simp only [app_sizeU, hes]
                  show 1 + 3 * x.t.size ≤ 400
                  omega
                have hsr := HSR.out.snoc (x := x) hstep htk hts
                have HSR2 := Lib.hid hsr
                clear hstep htk hts hsr
                have q1 : ¬ 9223372036854775807 < 1 + (encS x.t).size := by omega
                have q2 : ¬ 9223372036854775807 < 1 + (encS x.t).size + 3 := by omega
                go_wp2_with (first
                  | (have _z := HL4; at_builtin; refine wpList_app1g _ rfl _ _ 31 rfl (w.heap.size + 1) 50 i0 _ 4 48 Tryd.underlying31 Hi.out Hz0.out Hz1.out Hz2.out rfl (by decide) A k c (rowP ((l.take k).map asP)) rfl HL4.out.pth [.int .u8 0, .string x.t, .string ⟨#[]⟩, .int .i64 0] _ rfl rfl (cellsP_one (x := ⟨0, x.t, ⟨#[]⟩, 0⟩)) (by omega) (by decide) HL4.out.bel1 ?_; intro A' c' w5 hown5 hc5 hg5 hb5; have HL5 := Lib.hid (HL4.out.pushP (x := ⟨0, x.t, ⟨#[]⟩, 0⟩) hown5 hg5 hb5); clear hown5 hc5 hg5 hb5)
                  | (have _z := HL2; at_builtin; refine wpList_app1g _ rfl _ _ 57 rfl (w.heap.size + 1) 9 s0 _ 1 16 Tryd.underlying57 Si.out Sz0.out Sz1.out Sz2.out rfl (by decide) B k cb (ts.map Value.string) rfl HL2.out.txt [.string _] _ rfl rfl (fun u hu => by simp at hu; subst hu; rfl) (by omega) (by decide) HL2.out.bel1 ?_; intro B' cb' w3 hown3 hc3 hg3 hb3; have HL3 := Lib.hid (HL2.out.pushT hown3 hg3 hb3); have hx3 := own_beside HL.out.txt (Nat.le_refl _) hg3 (blk_later HX2.out (below_new1 _ _) (blk_lt HX2.out)); have HX3 := Lib.hid hx3; have y0 : w3.cell? _ = some (.int .u8 (x.k.toNat : Int)) := blk_cell hx3 0; have y1 : w3.cell? _ = some (.string x.t) := blk_cell hx3 1; have y2 : w3.cell? _ = some (.string x.d) := blk_cell hx3 2; clear hx3 hown3 hc3 hg3 hb3)
                  | (go_at_call 21; (with_reducible refine (WC.out _ ht' _).mono ?_); rintro e w2 ⟨rfl, hb2⟩; have HL2 := Lib.hid (HL1.out.later hb2); have HX2 := Lib.hid (blk_later HXB.out hb2 (blk_lt HXB.out)); clear hb2)
                  | (go_at_call 20; (with_reducible refine (KC.out _ _).mono ?_); rintro e w4 ⟨rfl, hb4⟩; have HL4 := Lib.hid (HL3.out.later hb4); clear hb4 y0 y1 y2))
                go_roundg (n - (k + 1))
                case measure => have := hq.out; omega
                case rel =>
                  have hax : asP x = ⟨0, x.t, ⟨#[]⟩, 0⟩ := by unfold asP; rw [HK.out]; rfl
                  refine ⟨k + 1, _, _, _, _, _, _, by go_num, rfl, rfl, by omega, rfl, by show SR _ _ _; rw [htk1.out]; exact HSR2.out, ?_⟩
                  have h5 := HL5.out
                  rw [← hax, ← htk2.out] at h5
                  exact h5
              · -- key, star
                have hstep : StepT (⟨#[47, 42]⟩ : ByteArray).data.toList (Pat.anyKey) := StepT.anyKey
                have htk : (Pat.anyKey).takes (asP x).step = true := way_anyKey HK.out
                have hts : (⟨#[47, 42]⟩ : ByteArray).size ≤ 400 := by decide
                have hsr := HSR.out.snoc (x := x) hstep htk hts
                have HSR2 := Lib.hid hsr
                clear hstep htk hts hsr
                go_wp2_with (first
                  | (have _z := HL4; at_builtin; refine wpList_app1g _ rfl _ _ 31 rfl (w.heap.size + 1) 50 i0 _ 4 48 Tryd.underlying31 Hi.out Hz0.out Hz1.out Hz2.out rfl (by decide) A k c (rowP ((l.take k).map asP)) rfl HL4.out.pth [.int .u8 0, .string x.t, .string ⟨#[]⟩, .int .i64 0] _ rfl rfl (cellsP_one (x := ⟨0, x.t, ⟨#[]⟩, 0⟩)) (by omega) (by decide) HL4.out.bel1 ?_; intro A' c' w5 hown5 hc5 hg5 hb5; have HL5 := Lib.hid (HL4.out.pushP (x := ⟨0, x.t, ⟨#[]⟩, 0⟩) hown5 hg5 hb5); clear hown5 hc5 hg5 hb5)
                  | (at_builtin; refine wpList_app1g _ rfl _ _ 57 rfl (w.heap.size + 1) 9 s0 _ 1 16 Tryd.underlying57 Si.out Sz0.out Sz1.out Sz2.out rfl (by decide) B k cb (ts.map Value.string) rfl HL1.out.txt [.string _] _ rfl rfl (fun u hu => by simp at hu; subst hu; rfl) (by omega) (by decide) HL1.out.bel1 ?_; intro B' cb' w3 hown3 hc3 hg3 hb3; have HL3 := Lib.hid (HL1.out.pushT hown3 hg3 hb3); have hx3 := own_beside HL.out.txt (Nat.le_refl _) hg3 (blk_later HXB.out (below_new1 _ _) (blk_lt HXB.out)); have HX3 := Lib.hid hx3; have y0 : w3.cell? _ = some (.int .u8 (x.k.toNat : Int)) := blk_cell hx3 0; have y1 : w3.cell? _ = some (.string x.t) := blk_cell hx3 1; have y2 : w3.cell? _ = some (.string x.d) := blk_cell hx3 2; clear hx3 hown3 hc3 hg3 hb3)
                  | (go_at_call 20; (with_reducible refine (KC.out _ _).mono ?_); rintro e w4 ⟨rfl, hb4⟩; have HL4 := Lib.hid (HL3.out.later hb4); clear hb4 y0 y1 y2))
                go_roundg (n - (k + 1))
                case measure => have := hq.out; omega
                case rel =>
                  have hax : asP x = ⟨0, x.t, ⟨#[]⟩, 0⟩ := by unfold asP; rw [HK.out]; rfl
                  refine ⟨k + 1, _, _, _, _, _, _, by go_num, rfl, rfl, by omega, rfl, by show SR _ _ _; rw [htk1.out]; exact HSR2.out, ?_⟩
                  have h5 := HL5.out
                  rw [← hax, ← htk2.out] at h5
                  exact h5
      · obtain rfl : n = k := by omega
        have htl : l.take n = l := List.take_of_length_le (Nat.le_of_eq HN.out.symm)
        rw [htl] at HSR HL
        have hl20 : l.length ≤ 20 := by have := HN.out; omega
        obtain ⟨fr, hfr⟩ : ∃ fr, z0.toNat % (n + 1) = fr := ⟨_, rfl⟩
        have hfn : fr ≤ n := by have := Nat.mod_lt z0.toNat (show 0 < n + 1 by omega); omega
        have hz24 : z0.tmod ((n : Int) + 1) = (fr : Int) := by
          rw [Int.tmod_eq_emod_of_nonneg hz0'.1, ← hfr, Int.natCast_emod, Int.toNat_of_nonneg hz0'.1]; rfl
        obtain ⟨m, hm⟩ : ∃ m, m = n - fr + 1 := ⟨_, rfl⟩
        obtain ⟨d, hd⟩ : ∃ d, z1.toNat % m = d := ⟨_, rfl⟩
        have hdm : d < m := by rw [← hd]; exact Nat.mod_lt _ (by omega)
        have hmi : (n : Int) - (fr : Int) + 1 = (m : Int) := by omega
        have hz25 : z1.tmod (m : Int) = (d : Int) := by
          rw [Int.tmod_eq_emod_of_nonneg hz1'.1, ← hd, Int.natCast_emod, Int.toNat_of_nonneg hz1'.1]
        obtain ⟨t0, ht0⟩ : ∃ t, t = fr + d := ⟨_, rfl⟩
        have hti : (fr : Int) + (d : Int) = (t0 : Int) := by omega
        have htn : t0 ≤ n := by omega
        have hft : fr ≤ t0 := by omega
        have hm0 : ¬ (m : Int) = 0 := by omega
        have hn1 : ¬ (n : Int) + 1 = 0 := by omega
        have hbx := HL.out.box
        have b0 := blk_cell hbx 0
        have b1 := blk_cell hbx 1
        obtain ⟨e0, e1, eB, hcb⟩ := own_slice HL.out.txt
        cases eB
        have hlt2 := HSR.out.1
        have hTM := TM.of_own HL.out.txt
        have hPM := PM.of_own HL.out.pth (by rw [List.length_map]; exact HN.out)
        have HTM := Lib.hid hTM; have HPM := Lib.hid hPM
        have hj1 : (catB (ts.take fr)).length ≤ 8000 := by have := (HSR.out.head fr).len; rw [List.length_take] at this; omega
        have hj2 : (catB (ts.drop t0)).length ≤ 8000 := by have := (HSR.out.tail t0).len; rw [List.length_drop] at this; omega
        have hj3 : (catB ts).length ≤ 8000 := by have := HSR.out.len; omega
        obtain ⟨J1, hJ1⟩ : ∃ J : ByteArray, J = ⟨(catB (ts.take fr)).toArray⟩ := ⟨_, rfl⟩
        obtain ⟨J2, hJ2⟩ : ∃ J : ByteArray, J = ⟨(catB (ts.drop t0)).toArray⟩ := ⟨_, rfl⟩
        obtain ⟨J3, hJ3⟩ : ∃ J : ByteArray, J = ⟨(catB ts).toArray⟩ := ⟨_, rfl⟩
        have sj1 : J1.size ≤ 8000 := by rw [hJ1]; show (catB (ts.take fr)).toArray.size ≤ _; rw [List.size_toArray]; exact hj1
        have sj2 : J2.size ≤ 8000 := by rw [hJ2]; show (catB (ts.drop t0)).toArray.size ≤ _; rw [List.size_toArray]; exact hj2
        have sj3 : J3.size ≤ 8000 := by rw [hJ3]; show (catB ts).toArray.size ≤ _; rw [List.size_toArray]; exact hj3
        have jc1 : ∀ W, Below wr.heap.size wr W → Calls Tryd.prog 23 #[.slice B fr cb, .string ⟨#[]⟩] W fun e w' => e = .returned (.string J1) ∧ Below W.heap.size W w' := fun W hb => by
          have := join_is (m := fr) (c := cb) (by rw [List.length_take]; have := HN.out; omega) ((HTM.out.keep hb).head fr) (by omega) (by omega) (by omega)
          rw [hJ1]; exact this
        have jc2 : ∀ W, Below wr.heap.size wr W → Calls Tryd.prog 23 #[.slice (cutA B cb t0) (n - t0) (cb - t0), .string ⟨#[]⟩] W fun e w' => e = .returned (.string J2) ∧ Below W.heap.size W w' := fun W hb => by
          have := join_is (m := n - t0) (c := cb - t0) (by rw [List.length_drop]; have := HN.out; omega) ((HTM.out.keep hb).tail (k := t0) (c := cb) (by have := HN.out; omega)) (by omega) (by omega) (by omega)
          rw [hJ2]; exact this
        have jc3 : ∀ W, Below wr.heap.size wr W → Calls Tryd.prog 23 #[.slice B n cb, .string ⟨#[]⟩] W fun e w' => e = .returned (.string J3) ∧ Below W.heap.size W w' := fun W hb => by
          have := join_is (m := n) (c := cb) (by have := HN.out; omega) (HTM.out.keep hb) hcb (by omega) (by omega)
          rw [hJ3]; exact this
        have over := HSR.out.over hl20 hft (by have := HN.out; omega)
        have hover : matchesL (J1 ++ ⟨#[47, 42, 42]⟩ ++ J2).data.toList ((l.map asP).map PS4.step) = true := by
          rw [app_listU, app_listU, hJ1, hJ2]; simpa using over.1
        have hover2 : matchesL (J1 ++ ⟨#[47, 42, 42]⟩ ++ J2 ++ ⟨#[47, 42, 42]⟩).data.toList ((l.map asP).map PS4.step) = true := by
          rw [app_listU, app_listU, app_listU, hJ1, hJ2]; simpa using over.2
        have MA : ∀ (s : ByteArray), s.size ≤ 100000 → matchesL s.data.toList ((l.map asP).map PS4.step) = true → ∀ W, Below wr.heap.size wr W → Calls Tryd.prog 24 #[.string s, .slice A n c] W fun e w' => e = .returned (.bool true) ∧ Below W.heap.size W w' := fun s hs hx W hb =>
          matches_is s (by omega) A n c (l.map asP) (by rw [List.length_map]; exact HN.out) (by omega) W (HPM.out.keep hb (Nat.le_refl _)) true hx
        have O1 := Lib.hid (MA _ (by rw [app_sizeU, app_sizeU]; show _ + 3 + _ ≤ _; omega) hover)
        have O2 := Lib.hid (MA _ (by rw [app_sizeU, app_sizeU, app_sizeU]; show _ + 3 + _ + 3 ≤ _; omega) hover2)
        have O3 := Lib.hid (MA ⟨#[47, 42, 42]⟩ (by decide) (stars_all l))
        have O4 := Lib.hid (fun h0 : l ≠ [] => MA J3 (by omega) (by rw [hJ3]; simpa using HSR.out.plain hl20 h0))
        have JC1 := Lib.hid jc1; have JC2 := Lib.hid jc2; have JC3 := Lib.hid jc3
        clear hover hover2 over MA jc1 jc2 jc3 hJ1 hJ2 hJ3 hj1 hj2 hj3 hTM hPM hlt hfr hd hm hdm HSR ht0
        have q1 : ¬ 9223372036854775807 < J1.size + 3 := by omega
        have q2 : ¬ 9223372036854775807 < J1.size + 3 + J2.size := by omega
        have q3 : ¬ 9223372036854775807 < J1.size + 3 + J2.size + 3 := by omega
        have w0 : IntKind.u8.wrap z0 = z0 := by rw [IntKind.wrap_u8]; omega
        have w1 : IntKind.u8.wrap z1 = z1 := by rw [IntKind.wrap_u8]; omega
        have hs1 := fun W => slice_t_pre B n cb fr (by omega) W
        have hs2 := fun W => slice_t_suf B n cb t0 htn W
        go_wp2
        have C1 : Hid (∀ m : Later wr, Calls Tryd.prog 23 #[.slice B fr cb, .string ⟨#[]⟩] m.at_ fun e w'' => e = .returned (.string J1) ∧ ∃ m' : Later wr, w'' = m'.at_) := fun m => calls_later ((JC1.out m.at_ m.below).mono fun e w' h => ⟨h.1, onB m.below h.2⟩)
        have C2 : Hid (∀ m : Later wr, Calls Tryd.prog 23 #[.slice (cutA B cb t0) (n - t0) (cb - t0), .string ⟨#[]⟩] m.at_ fun e w'' => e = .returned (.string J2) ∧ ∃ m' : Later wr, w'' = m'.at_) := fun m => calls_later ((JC2.out m.at_ m.below).mono fun e w' h => ⟨h.1, onB m.below h.2⟩)
        refine wp_region_later wr (by kernel_rfl) (by kernel_rfl) (Below.refl _ _) ?_
        repeat (go_big_quiet_step ((go_at_call 23; (first | (with_reducible exact C1.out _) | (with_reducible exact C2.out _)))))
        refine wpQuiet_nil ?_
        intro w2 hw2
        obtain ⟨⟨w2', hb2⟩, e4⟩ := hw2
        have e5 : w2 = w2' := e4
        subst e5
        clear e4 C1 C2 b0 b1 hs1 hs2
        have HB2 := Lib.hid hb2
        clear hb2
        go_upto_region 29 with (first
          | (go_at_call 24; (with_reducible refine (O1.out _ HB2.out).mono ?_); rintro e w3 ⟨rfl, hb3⟩; have HB3 := Lib.hid (onB HB2.out hb3); clear hb3)
          | (go_at_call 24; (with_reducible refine (O3.out _ HB3.out).mono ?_); rintro e w4 ⟨rfl, hb4⟩; have HB4 := Lib.hid (onB HB3.out hb4); clear hb4)
          | (go_at_call 24; (with_reducible refine (O2.out _ HB4.out).mono ?_); rintro e w5 ⟨rfl, hb5⟩; have HB5 := Lib.hid (onB HB4.out hb5); clear hb5))
        by_cases h0 : n = 0
        · have h0i : (n : Int) = 0 := by omega
          subst h0
          go_wp2_with (go_at_call 8; (with_reducible refine (LV.out _).mono ?_); rintro e w7 ⟨rfl, hb7⟩)
          go_ret
          exact ⟨rfl, onB HL.out.bel (onB HB5.out hb7)⟩
        · have hn0 : ¬ (n : Int) = 0 := by omega
          have hl0 : l ≠ [] := fun e => h0 (by rw [HN.out, e]; rfl)
          go_wp2_with (first
            | (go_at_call 23; (with_reducible refine (JC3.out _ HB5.out).mono ?_); rintro e w6 ⟨rfl, hb6⟩; have HB6 := Lib.hid (onB HB5.out hb6); clear hb6)
            | (go_at_call 24; (with_reducible refine (O4.out hl0 _ HB6.out).mono ?_); rintro e w7 ⟨rfl, hb7⟩; have HB7 := Lib.hid (onB HB6.out hb7); clear hb7)
            | (go_at_call 8; (with_reducible refine (LV.out _).mono ?_); rintro e w8 ⟨rfl, hb8⟩))
          go_ret
          exact ⟨rfl, onB HL.out.bel (onB HB7.out hb8)⟩

end Go.Proofs.YtjnedbkbhoiopaaDoor
