/- The walk over the law PatternsOne; no statement of the seat is proved here. -/
import Derived.Test.YtjnedbkbhoiopaaDoorPtX
import Derived.Test.YtjnedbkbhoiopaaDoorTail
import Derived.Test.YtjnedbkbhoiopaaDoorPtEq
namespace Go.Proofs.YtjnedbkbhoiopaaDoor
open Go.RowKit

abbrev boxP (o : PS4) : Array Value := #[.int .u8 (o.k.toNat : Int), .string o.t, .string o.d, .int .i64 o.a]
def smallP (x : PS4) : Prop := x.t.size ≤ 60 ∧ x.d.size ≤ 60
theorem str_eqP (a b : ByteArray) : (a.toList == b.toList) = decide (a = b) := by
  rw [ByteArray.toList_eq, ByteArray.toList_eq, Bool.eq_iff_iff, beq_iff_eq, decide_eq_true_iff]
  exact ba_eq
theorem rem_key (x : PS4) : ((x.k.toNat : Int) % 2 == 0) = isKey x := by
  unfold isKey
  rw [Bool.eq_iff_iff, beq_iff_eq, decide_eq_true_iff]; omega

set_option maxRecDepth 100000 in
set_option maxHeartbeats 16000000 in
theorem onelaw_walk (PA : Option Addr) (n pc : Nat) (l : List PS4) (hn : n = l.length) (o : PS4) (a : Int) (ha : 0 ≤ a ∧ a < 256) (w : World) (hM : PM w PA l) :
    Calls Tryd.prog 6 #[.slice PA n pc, .agg (boxP o), .int .u8 a] w fun e w' => e = .returned (.bool true) ∧ Below w.heap.size w w' := by
  have LV := Lib.hid (fun w => lives_any w)
  by_cases hbig : 30 < n
  · go_enter Tryd.func6, Tryd.ntmps6
    go_wp2_with (go_at_call 8; (with_reducible refine (LV.out _).mono ?_); rintro e w1 ⟨rfl, hb1⟩)
    go_ret
    exact ⟨rfl, (below_new1 w _).trans (hb1.mono (by simp))⟩
  · have hn30 : n ≤ 30 := by omega
    have HM := Lib.hid hM; have HN := Lib.hid hn
    obtain ⟨i0, hi0, hz0, hz1, hz2⟩ := info_parts step4_info
    have Hi := Lib.hid hi0; have Hz0 := Lib.hid hz0; have Hz1 := Lib.hid hz1; have Hz2 := Lib.hid hz2
    have HOB := Lib.hid (heap_new1 w (.cells (boxP o) 50))
    have KC := Lib.hid (fun s w => keyL_is s w); have IC := Lib.hid (fun s d w => idL_is s d w)
    have WC := Lib.hid (fun s (h : ByteArray.size s ≤ 60) w => encS_is s h w)
    clear hM hn hi0 hz0 hz1 hz2 hbig
    go_enter Tryd.func6, Tryd.ntmps6
    go_wp2
    go_loopg [7, 8, 9] n (fun q s7 s8 s9 wr => ∃ (k : Nat) (S : ByteArray) (A : Option Addr) (c : Nat), s9 = .int .i64 (k : Int) ∧ s7 = .string S ∧ s8 = .slice A k c ∧ k ≤ n ∧ S.size ≤ 400 * k ∧ Hid (q = n - k) ∧ Hid (S.data.toList = textsP (l.take k)) ∧ Hid (∀ x ∈ l.take k, smallP x) ∧
      Hid (wr.heap[w.heap.size]? = some (.cells (boxP o) 50 (0, 0))) ∧ Hid (wr.ownsRow (w.heap.size + 1) 50 4 (.slice A k c) k (rowP ((l.take k).map asP))) ∧ Hid (Below w.heap.size w wr))
    case atStart => exact ⟨0, ⟨#[]⟩, none, 0, rfl, rfl, rfl, by omega, Nat.zero_le _, by show _ = _; omega, rfl, by show ∀ x ∈ _, _; simp, HOB.out, World.ownsRow_nil _ _ _ _, below_new1 w _⟩
    case round =>
      obtain ⟨k, S, A, c, rfl, rfl, rfl, hk, hS, hq, HS, HA, HO, HR, HB⟩ := hrel
      by_cases hlt : k < n
      · have hkl : k < l.length := by have := HN.out; omega
        obtain ⟨g, off, rfl, hg, c0, c1, c2, c3⟩ := (HM.out.keep HB.out (Nat.le_refl _)) k hkl
        obtain ⟨x, hx⟩ : ∃ x, l[k] = x := ⟨_, rfl⟩
        rw [hx] at c0 c1 c2 c3
        have HX := Lib.hid hx
        by_cases ht : 60 < x.t.size
        · clear hx
          go_wp2_with (go_at_call 8; (with_reducible refine (LV.out _).mono ?_); rintro e w1 ⟨rfl, hb1⟩)
          go_ret
          exact ⟨rfl, onB HB.out ((below_new1 wr _).trans (hb1.mono (by simp)))⟩
        · by_cases hd : 60 < x.d.size
          · clear hx
            go_wp2_with (go_at_call 8; (with_reducible refine (LV.out _).mono ?_); rintro e w1 ⟨rfl, hb1⟩)
            go_ret
            exact ⟨rfl, onB HB.out ((below_new1 wr _).trans (hb1.mono (by simp)))⟩
          · have hrk := rem_key x
            have HXB := Lib.hid (heap_new1 wr (.cells (boxP x) 50))
            clear hx
            obtain ⟨b, hb⟩ : ∃ b, isKey x = b := ⟨_, rfl⟩
            rw [hb] at hrk
            have HK := Lib.hid hb
            clear hb
            have ht' : x.t.size ≤ 60 := by omega
            have hd' : x.d.size ≤ 60 := by omega
            have htk : Hid ((l.take (k + 1)).map asP = (l.take k).map asP ++ [asP x]) := by show _ = _; rw [List.take_succ_eq_append_getElem hkl, HX.out]; simp
            have hsx : Hid (textsP (l.take (k + 1)) = textsP (l.take k) ++ textP x) := by show _ = _; rw [textsP_snoc l k hkl, HX.out]
            have hall : Hid (∀ y ∈ l.take (k + 1), smallP y) := by
              show ∀ y ∈ _, _
              intro y hy
              rw [List.take_succ_eq_append_getElem hkl, HX.out, List.mem_append, List.mem_singleton] at hy
              rcases hy with hy | rfl
              · exact HA.out y hy
              · exact ⟨ht', hd'⟩
            have hes := encS_size x.t
            have hed := encS_size x.d
            clear ht hd
            have hwsz : w.heap.size + 1 ≤ wr.heap.size := blk_lt HO.out
            cases b
            · have q1 : ¬ 9223372036854775807 < S.size + 1 := by omega
              have q2 : ¬ 9223372036854775807 < S.size + 1 + (encS x.t).size := by omega
              have q3 : ¬ 9223372036854775807 < S.size + 1 + (encS x.t).size + 1 := by omega
              have q4 : ¬ 9223372036854775807 < S.size + 1 + (encS x.t).size + 1 + (encS x.d).size := by omega
              have q5 : ¬ 9223372036854775807 < S.size + 1 + (encS x.t).size + 1 + (encS x.d).size + 1 := by omega
              go_wp2_with (first
                | (go_at_call 22; (with_reducible refine (IC.out _ _ _).mono ?_); rintro e w2 ⟨rfl, hb2⟩; have hbk := (below_new1 wr (.cells (boxP x) 50)).trans (hb2.mono (by simp)); have hsz2 := hbk.size; have HR2 := Lib.hid (own_keep HR.out hbk (Nat.le_refl _)); have HX2 := Lib.hid (blk_later HXB.out hb2 (blk_lt HXB.out)); have HO2 := Lib.hid (blk_later HO.out hbk (blk_lt HO.out)); have HB2 := Lib.hid (onB HB.out hbk); clear hb2 hbk)
                | (at_builtin; refine wpList_app1g _ rfl _ _ 31 rfl (w.heap.size + 1) 50 i0 _ 4 48 Tryd.underlying31 Hi.out Hz0.out Hz1.out Hz2.out rfl (by decide) A k c (rowP ((l.take k).map asP)) rfl HR2.out [.int .u8 2, .string x.t, .string x.d, .int .i64 0] _ rfl rfl (cellsP_one (x := ⟨2, x.t, x.d, 0⟩)) (by omega) (by decide) (by omega) ?_; intro A' c' w3 hown3 hc3 hg3 hb3; have hx3 := own_beside HR.out (Nat.le_refl _) hg3 (blk_later HX2.out (below_new1 w2 _) (blk_lt HX2.out)); have y1 := later_cell (blk_cell hx3 1); have y2 := later_cell (blk_cell hx3 2); have HO3 := Lib.hid (blk_later HO2.out hb3 (Nat.lt_succ_self _)); clear hx3 hg3))
              have C1 : Hid (∀ m : Later w3, Calls Tryd.prog 21 #[.string x.t] m.at_ fun e w'' => e = .returned (.string (encS x.t)) ∧ ∃ m' : Later w3, w'' = m'.at_) := fun m => calls_later ((WC.out x.t ht' m.at_).mono fun e w' h => ⟨h.1, m.below.trans (h.2.mono m.below.size)⟩)
              have C2 : Hid (∀ m : Later w3, Calls Tryd.prog 21 #[.string x.d] m.at_ fun e w'' => e = .returned (.string (encS x.d)) ∧ ∃ m' : Later w3, w'' = m'.at_) := fun m => calls_later ((WC.out x.d hd' m.at_).mono fun e w' h => ⟨h.1, m.below.trans (h.2.mono m.below.size)⟩)
              refine wp_region_later w3 (by kernel_rfl) (by kernel_rfl) (Below.refl _ _) ?_
              repeat (go_big_quiet_step ((go_at_call 21; (first | (with_reducible exact C1.out _) | (with_reducible exact C2.out _)))))
              refine wpQuiet_nil ?_
              intro w5 hw5
              obtain ⟨⟨w4, hb4⟩, e4⟩ := hw5
              have e5 : w5 = w4 := e4
              subst e5
              clear e4
              go_wp2
              go_roundg (n - (k + 1))
              case measure => have := hq.out; omega
              case rel =>
                refine ⟨k + 1, S ++ ⟨#[91]⟩ ++ encS x.t ++ ⟨#[61]⟩ ++ encS x.d ++ ⟨#[93]⟩, A', c', by go_num, rfl, rfl, by omega, ?_, rfl, ?_, hall.out, blk_later HO3.out hb4 (blk_lt HO3.out), ?_, ?_⟩
                · rw [app_sizeU, app_sizeU, app_sizeU, app_sizeU, app_sizeU, hes, hed]; show _ + 1 + _ + 1 + _ + 1 ≤ _; omega
                · show _ = _
                  rw [app_listU, app_listU, app_listU, app_listU, app_listU, HS.out, hsx.out, textP, if_neg (by rw [HK.out]; simp), encS_list, encS_list]; simp
                · show World.ownsRow _ _ _ _ _ _ _
                  rw [htk.out, rowP_snoc, asP_cells, if_neg (by rw [HK.out]; simp)]
                  exact own_keep hown3 hb4 (Nat.le_refl _)
                · exact (HB2.out.trans (hb3.mono (Nat.le_succ _))).trans (hb4.mono (by have := HB2.out.size; have := hb3.size; omega))
            · have q1 : ¬ 9223372036854775807 < S.size + 1 := by omega
              have q2 : ¬ 9223372036854775807 < S.size + 1 + (encS x.t).size := by omega
              go_wp2_with (first
                | (go_at_call 20; (with_reducible refine (KC.out _ _).mono ?_); rintro e w2 ⟨rfl, hb2⟩; have hbk := (below_new1 wr (.cells (boxP x) 50)).trans (hb2.mono (by simp)); have hsz2 := hbk.size; have HR2 := Lib.hid (own_keep HR.out hbk (Nat.le_refl _)); have HX2 := Lib.hid (blk_later HXB.out hb2 (blk_lt HXB.out)); have HO2 := Lib.hid (blk_later HO.out hbk (blk_lt HO.out)); have HB2 := Lib.hid (onB HB.out hbk); clear hb2 hbk)
                | (at_builtin; refine wpList_app1g _ rfl _ _ 31 rfl (w.heap.size + 1) 50 i0 _ 4 48 Tryd.underlying31 Hi.out Hz0.out Hz1.out Hz2.out rfl (by decide) A k c (rowP ((l.take k).map asP)) rfl HR2.out [.int .u8 0, .string x.t, .string ⟨#[]⟩, .int .i64 0] _ rfl rfl (cellsP_one (x := ⟨0, x.t, ⟨#[]⟩, 0⟩)) (by omega) (by decide) (by omega) ?_; intro A' c' w3 hown3 hc3 hg3 hb3; have hx3 := own_beside HR.out (Nat.le_refl _) hg3 (blk_later HX2.out (below_new1 w2 _) (blk_lt HX2.out)); have y1 := blk_cell hx3 1; have HO3 := Lib.hid (blk_later HO2.out hb3 (Nat.lt_succ_self _)); clear hx3 hg3)
                | (go_at_call 21; (with_reducible refine (WC.out _ ht' _).mono ?_); rintro e w4 ⟨rfl, hb4⟩))
              go_roundg (n - (k + 1))
              case measure => have := hq.out; omega
              case rel =>
                refine ⟨k + 1, S ++ ⟨#[47]⟩ ++ encS x.t, A', c', by go_num, rfl, rfl, by omega, ?_, rfl, ?_, hall.out, blk_later HO3.out hb4 (blk_lt HO3.out), ?_, ?_⟩
                · rw [app_sizeU, app_sizeU, hes]; show _ + 1 + _ ≤ _; omega
                · show _ = _
                  rw [app_listU, app_listU, HS.out, hsx.out, textP, if_pos HK.out, List.append_assoc]; rfl
                · show World.ownsRow _ _ _ _ _ _ _
                  rw [htk.out, rowP_snoc, asP_cells, if_pos HK.out]
                  exact own_keep hown3 hb4 (Nat.le_refl _)
                · exact (HB2.out.trans (hb3.mono (Nat.le_succ _))).trans (hb4.mono (by have := HB2.out.size; have := hb3.size; omega))
      · obtain rfl : n = k := by omega
        have htl : l.take n = l := List.take_of_length_le (Nat.le_of_eq HN.out.symm)
        rw [htl] at HS HA HR
        obtain ⟨pa, hpa⟩ : ∃ pa, l.map asP = pa := ⟨_, rfl⟩
        rw [hpa] at HR
        have hpl : pa.length = n := by rw [← hpa, List.length_map, HN.out]
        have hpm := PM.of_own HR.out hpl.symm
        have HPA := Lib.hid hpa; have HPL := Lib.hid hpl; have HPM := Lib.hid hpm
        obtain ⟨T, hT⟩ : ∃ T : ByteArray, (if n = 0 then ⟨#[46]⟩ else S) = T := ⟨_, rfl⟩
        have hTs : T.size ≤ 12000 := by
          rw [← hT]
          by_cases h0 : n = 0
          · rw [if_pos h0]; show 1 ≤ _; omega
          · rw [if_neg h0]; omega
        have hpars : parseL T.data.toList = .ok (l.map patP) := by
          have := textsP_parse l (by rw [← HN.out]; exact hn30)
          rw [← this, ← hT]
          by_cases h0 : n = 0
          · rw [if_pos h0, if_pos (List.eq_nil_of_length_eq_zero (by rw [← HN.out]; exact h0))]
          · rw [if_neg h0, if_neg (fun e => h0 (by rw [HN.out, e]; rfl)), HS.out]
        have pc1 := fun w => parse_is T (by omega) w
        rw [hpars] at pc1
        have PC := Lib.hid pc1
        have HT := Lib.hid hT
        have HHA : Hid (∀ j (h : j < l.length), smallP l[j]) := fun j h => HA.out _ (List.getElem_mem h)
        clear pc1 hT hpars hpl hpm hpa htl hlt HS HA hS hq
        go_upto_if 86 with (fail)
        go_cut [7] from 87 to 87 (fun s7 w' => s7 = .string T ∧ Hid (w' = wr))
        case first =>
          by_cases h0 : n = 0
          · go_wp2
            go_meet
            case rel => exact ⟨by rw [← HT.out, if_pos h0], rfl⟩
          · go_wp2
            go_meet
            case rel => exact ⟨by rw [← HT.out, if_neg h0], rfl⟩
        case rest =>
          obtain ⟨rfl, hw⟩ := hcut
          obtain rfl : wr = wc := hw.out.symm
          clear hw HT
          have BS1 := Lib.hid (fun (s : ByteArray) (hs : s.size ≤ 60) w => spS_is s hs w)
          have BK1 := Lib.hid (fun (s : ByteArray) (hs : s.size ≤ 60) w => back_sp s hs w)
          have BK2 := Lib.hid (fun (s : ByteArray) (hs : s.size ≤ 60) w => back_enc s hs w)
          go_wp2_with (go_at_call 9; (with_reducible refine (PC.out _).mono ?_); rintro e w1 ⟨⟨base, b, A1, c1, q, hpq, rfl, hP⟩, hb1⟩; have HP1 := Lib.hid hP; have HB1 := Lib.hid hb1; have HPQ := Lib.hid hpq; clear hP hb1 hpq)
          have hf2 := heap_new1 w1 (.cells #[.int .i64 0, .int .i64 0] 27)
          have hbw : Below wr.heap.size wr (w1.alloc (.cells #[.int .i64 0, .int .i64 0] 27)) := onB HB1.out (below_new1 _ _)
          have hp2 := HP1.out.keep (below_new1 w1 (.cells #[.int .i64 0, .int .i64 0] 27)) (Nat.le_refl _)
          obtain ⟨F, hF⟩ : ∃ F, F = w1.heap.size := ⟨_, rfl⟩
          rw [← hF] at hf2 ⊢
          obtain ⟨w2, hw2⟩ : ∃ w2, w2 = w1.alloc (.cells #[.int .i64 0, .int .i64 0] 27) := ⟨_, rfl⟩
          rw [← hw2] at hf2 hbw hp2 ⊢
          have HF2 := Lib.hid hf2; have HB2 := Lib.hid (onB HB.out hbw); have HP2 := Lib.hid hp2
          have HO2 := Lib.hid (blk_later HO.out hbw (blk_lt HO.out))
          have HM2 := Lib.hid (HPM.out.keep hbw (Nat.le_refl _))
          have HR2 := Lib.hid (own_keep HR.out hbw (Nat.le_refl _))
          clear hf2 hbw hp2 hF hw2 HP1 HB1 HO HPM HR HB PC
          go_loopg [13] n (fun q s13 wr => ∃ (k : Nat), s13 = .int .i64 (k : Int) ∧ k ≤ n ∧ Hid (q = n - k) ∧ Hid (Below w2.heap.size w2 wr))
          case atStart => exact ⟨0, rfl, by omega, by show _ = _; omega, Below.refl _ _⟩
          case round =>
            obtain ⟨k, rfl, hk, hq, HB⟩ := hrel
            by_cases hlt : k < n
            · have hkl : k < l.length := by have := HN.out; omega
              obtain ⟨g, off, rfl, hg, c0, c1, c2, c3⟩ := (HM.out.keep (onB HB2.out HB.out) (Nat.le_refl _)) k hkl
              have hxs := (HHA.out k hkl).2
              obtain ⟨x, hx⟩ : ∃ x, l[k] = x := ⟨_, rfl⟩
              rw [hx] at c0 c1 c2 c3 hxs
              clear hx hkl hg c0 c1 c3
              have HXS := Lib.hid hxs
              clear hxs
              go_wp2_with (first
                | (go_at_call 15; (with_reducible refine (BS1.out _ HXS.out _).mono ?_); rintro e w3 ⟨rfl, hb3⟩)
                | (have _z := hb5; go_at_call 13; (with_reducible refine (BK2.out _ HXS.out _).mono ?_); rintro e w6 ⟨rfl, hb6⟩; have HB6 := Lib.hid (onB HB5.out hb6); have c2 := cell_later hb6 c2)
                | (go_at_call 13; (with_reducible refine (BK1.out _ HXS.out _).mono ?_); rintro e w4 ⟨rfl, hb4⟩; have hb24 := onB hb3 hb4; have HB4 := Lib.hid (onB HB.out hb24); replace c2 := cell_later hb24 c2; clear hb3 hb4 hb24)
                | (go_at_call 21; (with_reducible refine (WC.out _ HXS.out _).mono ?_); rintro e w5 ⟨rfl, hb5⟩; have HB5 := Lib.hid (onB HB4.out hb5); replace c2 := cell_later hb5 c2))
              go_roundg (n - (k + 1))
              case measure => have := hq.out; omega
              case rel => exact ⟨k + 1, by go_num, by omega, rfl, HB6.out⟩
            · obtain rfl : n = k := by omega
              clear hlt hk
              obtain ⟨A', c', eAc, hcn⟩ := own_slice HR2.out
              cases eAc
              have hl30 : l.length ≤ 30 := by have := HN.out; omega
              have hqn : q.length = n := by have := congrArg List.length HPQ.out; simp at this; have := HN.out; omega
              have MC := Lib.hid (fun W (hb : Below w2.heap.size w2 W) => match_at (HP2.out.keep hb (Nat.le_refl _)) HPQ.out hl30 A n c pa (HM2.out.keep hb (Nat.le_refl _)) HPL.out.symm (by omega) true (by rw [← HPA.out]; exact match_path l))
              have LN : Hid (∀ W (hb : Below w2.heap.size w2 W), Calls Tryd.prog 12 #[.pointer (some ⟨b, 0, none⟩)] W fun e w' => e = .returned (.int .i64 (n : Int)) ∧ W = w') := fun W hb => by have := len_is b true A1 q.length c1 W (HP2.out.keep hb (Nat.le_refl _)).1; rwa [hqn] at this
              have ML := Lib.hid (fun (A2 : Option Addr) (c2 base2 : Nat) W (hb : Below w2.heap.size w2 W) (hw : W.ownsRow base2 50 4 (.slice A2 (n + 1) c2) (n + 1) (rowP pa ++ cellsP o)) => match_at (HP2.out.keep hb (Nat.le_refl _)) HPQ.out hl30 A2 (n + 1) c2 (pa ++ [o]) (PM.of_own (by rw [rowP_snoc]; exact hw) (by have := HPL.out; simp; omega)) (by have := HPL.out; simp; omega) (by omega) false (match_len l _ (by have := HPL.out; have := HN.out; simp; omega)))
              have hf := blk_later HF2.out HB.out (blk_lt HF2.out)
              have f0 := later_cell (blk_cell hf 0)
              have f1 := later_cell (blk_cell hf 1)
              have C1 : Hid (∀ m : Later wr, Calls Tryd.prog 10 #[.pointer (some ⟨b, 0, none⟩), .slice A n c] m.at_ fun e w'' => e = .returned (.bool true) ∧ ∃ m' : Later wr, w'' = m'.at_) := fun m => calls_later ((MC.out m.at_ (onB HB.out m.below)).mono fun e w' h => ⟨h.1, onB m.below h.2⟩)
              have C2 : Hid (∀ m : Later wr, Calls Tryd.prog 12 #[.pointer (some ⟨b, 0, none⟩)] m.at_ fun e w'' => e = .returned (.int .i64 (n : Int)) ∧ ∃ m' : Later wr, w'' = m'.at_) := fun m => (LN.out m.at_ (onB HB.out m.below)).mono fun e w' h => ⟨h.1, m, h.2.symm⟩
              clear hf hqn
              go_wp2
              refine wp_region_later_head 17 wr (by kernel_rfl) (by kernel_rfl) (Below.refl _ _) ?_
              simp only [List.take_succ_cons, List.take_zero]
              repeat (go_big_quiet_step ((first | (go_at_call 10; with_reducible exact C1.out _) | (go_at_call 12; with_reducible exact C2.out _))))
              refine wpQuiet_nil ?_
              intro w3 hw3
              obtain ⟨⟨w4, hb3⟩, e4⟩ := hw3
              have e5 : w3 = w4 := e4
              subst e5
              clear e4 f0 f1 C1 C2
              have HB3 := Lib.hid (onB HB.out hb3)
              have hsl := slice_full A n c n hcn
              refine wpAny_mid 17 7 5 rfl (by decide) (by kernel_rfl) (by kernel_rfl) (fun _ _ _ _ _ h => h) ?_
              simp only [List.drop_succ_cons, List.drop_zero, List.take_succ_cons, List.take_zero]
              repeat (go_big_quiet_step (fail))
              refine wpQuiet_nil ?_
              refine wpAny_rest 24 rfl (by kernel_rfl) ?_
              simp only [List.drop_succ_cons, List.drop_zero]
              have ho3 := blk_later HO2.out HB3.out (blk_lt HO2.out)
              have o0 := blk_cell ho3 0
              have o1 := blk_cell ho3 1
              have o2 := blk_cell ho3 2
              have o3 := blk_cell ho3 3
              clear ho3 hsl
              go_wp2_with (first
                | (have _z := HA5; go_at_call 10; (with_reducible refine (ML.out _ _ _ _ HB5.out HA5.out).mono ?_); rintro e w6 ⟨rfl, hb6⟩; have HB6 := Lib.hid (onB HB5.out hb6))
                | (at_builtin; refine wpList_append_growsW (by simp [Region.wanted, yielded]) (.tmp 161) (.tmp 163) 31 rfl 50 i0 _ 4 48 Tryd.underlying31 Hi.out Hz0.out Hz1.out Hz2.out rfl (by decide) A n n (rowP pa) (by simp [Act.eval]) (HM2.out.none HPL.out.symm) (by rw [rowP_len, HPL.out]) (HM2.out.keep (onB HB3.out (below_new1 _ _)) (Nat.le_refl _)).olds ⟨w3.heap.size, 0, none⟩ 1 1 (cellsP o) (by simp [Act.eval]) rfl (news_at (heap_new1 w3 _)) cellsP_one (by omega) (by simp only [maxLen]; omega) (by omega) ?_; intro v' w5 hown5 hg5; obtain ⟨A5, c5, rfl, hc5⟩ := own_slice hown5; have HA5 := Lib.hid hown5; have HB5 := Lib.hid (onB (onB HB3.out (below_new1 _ _)) (below_grown hg5 (by rintro _ ⟨⟩) (Below.refl _ _) (Nat.le_refl _))); clear hown5 hg5))
              clear o0 o1 o2 o3
              obtain ⟨S2, hS2⟩ : ∃ S2 : ByteArray, (⟨(textL (l.map patP)).toArray⟩ : ByteArray) = S2 := ⟨_, rfl⟩
              have hall : ∀ x ∈ l, x.t.size ≤ 60 ∧ x.d.size ≤ 60 := fun x hx => by
                obtain ⟨j, hj, e⟩ := List.getElem_of_mem hx
                rw [← e]; exact HHA.out j hj
              have htl := textL_len l hall
              have hs2 : S2.size ≤ 20000 := by
                rw [← hS2]
                show (textL (l.map patP)).toArray.size ≤ _
                rw [List.size_toArray]; omega
              have TXP : Hid (∀ (W : World) (base' b' c' : Nat) (A' : Option Addr) (q' : List (Pat × Value)), PB W base' b' A' c' q' → l.map patP = q'.map (·.1) → Calls Tryd.prog 11 #[.pointer (some ⟨b', 0, none⟩)] W fun e w' => e = .returned (.string S2) ∧ Below W.heap.size W w') := fun W base' b' c' A' q' hP' hq' => by
                have := text_is base' b' A' c' q' W hP' (by rw [← hq']; omega)
                rw [← hq', hS2] at this
                exact this
              have pc2 := fun w => parse_is S2 (by omega) w
              rw [show parseL S2.data.toList = .ok (l.map patP) by rw [← hS2]; exact parse_text _ (by rw [List.length_map]; omega)] at pc2
              have PC2 := Lib.hid pc2
              clear pc2 hall htl hS2 hs2
              go_upto_region 29 with (first
                | (go_at_call 11; (with_reducible refine (TXP.out _ _ _ _ _ _ (HP2.out.keep HB6.out (Nat.le_refl _)) HPQ.out).mono ?_); rintro e w7 ⟨rfl, hb7⟩; have HB7 := Lib.hid (onB HB6.out hb7); clear hb7)
                | (go_at_call 9; (with_reducible refine (PC2.out _).mono ?_); rintro e w8 ⟨⟨base2, b2, A2, c2, q2, hpq2, rfl, hP8⟩, hb8⟩; have HP8 := Lib.hid hP8; have HB8 := Lib.hid (onB HB7.out hb8); have HPQ2 := Lib.hid hpq2; clear hP8 hb8 hpq2))
              have hf9 := heap_new1 w8 (.cells #[.int .i64 0, .int .i64 0] 27)
              have hb9 : Below w2.heap.size w2 (w8.alloc (.cells #[.int .i64 0, .int .i64 0] 27)) := onB HB8.out (below_new1 _ _)
              have hp9 := HP8.out.keep (below_new1 w8 (.cells #[.int .i64 0, .int .i64 0] 27)) (Nat.le_refl _)
              obtain ⟨F2, hF2⟩ : ∃ F, F = w8.heap.size := ⟨_, rfl⟩
              rw [← hF2] at hf9 ⊢
              obtain ⟨w9, hw9⟩ : ∃ w9, w9 = w8.alloc (.cells #[.int .i64 0, .int .i64 0] 27) := ⟨_, rfl⟩
              rw [← hw9] at hf9 hb9 hp9 ⊢
              have HB9 := Lib.hid hb9; have HP9 := Lib.hid hp9
              have MC2 := Lib.hid (fun W (hb : Below w9.heap.size w9 W) => match_at (HP9.out.keep hb (Nat.le_refl _)) HPQ2.out hl30 A n c pa (HM2.out.keep (onB HB9.out hb) (Nat.le_refl _)) HPL.out.symm (by omega) true (by rw [← HPA.out]; exact match_path l))
              have f0 := blk_cell hf9 0
              have f1 := blk_cell hf9 1
              clear hf9 hb9 hp9 hF2 hw9 HB8 HP8 PC2
              go_upto_region 31 with (first
                | (have _z := hb10; go_at_call 11; (with_reducible refine (TXP.out _ _ _ _ _ _ (HP2.out.keep (onB HB9.out hb10) (Nat.le_refl _)) HPQ.out).mono ?_); rintro e w11 ⟨rfl, hb11⟩; have HB11 := Lib.hid (onB hb10 hb11); clear hb10 hb11)
                | (go_at_call 11; (with_reducible refine (TXP.out _ _ _ _ _ _ HP9.out HPQ2.out).mono ?_); rintro e w10 ⟨rfl, hb10⟩)
                | (go_at_call 10; (with_reducible refine (MC2.out _ HB11.out).mono ?_); rintro e w12 ⟨rfl, hb12⟩; have HB12 := Lib.hid (onB HB11.out hb12); clear hb12))
              clear f0 f1 MC2
              have HB2C := Lib.hid (onB HB9.out HB12.out)
              by_cases h0 : n = 0
              · subst h0
                go_wp2_with (go_at_call 8; (with_reducible refine (LV.out _).mono ?_); rintro e w13 ⟨rfl, hb13⟩)
                go_ret
                exact ⟨rfl, onB HB2.out (onB HB2C.out hb13)⟩
              · have hn0 : ¬ (n : Int) = 0 := by omega
                obtain ⟨i, hi⟩ : ∃ i, a.toNat % n = i := ⟨_, rfl⟩
                have hin : i < n := by rw [← hi]; exact Nat.mod_lt _ (by omega)
                have hti : a.tmod (n : Int) = (i : Int) := by
                  rw [Int.tmod_eq_emod_of_nonneg ha.1, ← hi, Int.natCast_emod, Int.toNat_of_nonneg ha.1]
                have hil : i < l.length := by have := HN.out; omega
                clear hi
                have HM12 := Lib.hid (HM2.out.keep HB2C.out (Nat.le_refl _))
                have ho12 := blk_later HO2.out HB2C.out (blk_lt HO2.out)
                have HO12 := Lib.hid ho12
                obtain ⟨x, hx⟩ : ∃ x, l[i] = x := ⟨_, rfl⟩
                have hpai : pa[i]'(by have := HPL.out; omega) = asP x := by
                  have e : pa[i]? = some (asP x) := by rw [← HPA.out, List.getElem?_map, List.getElem?_eq_getElem hil, hx]; rfl
                  exact (List.getElem?_eq_some_iff.1 e).2
                have HX := Lib.hid hx; have HPAI := Lib.hid hpai
                clear hx hpai ho12
                obtain ⟨AD, hAD⟩ : ∃ AD, A = some AD := by
                  cases A with
                  | none => have := (HM12.out.none HPL.out.symm rfl).1; omega
                  | some AD => exact ⟨AD, rfl⟩
                have w33 : IntKind.u8.wrap a = a := by rw [IntKind.wrap_u8]; omega
                go_upto_region 35 with (at_builtin; refine wpList_append_growsW (by simp [Region.wanted]) (.const (.slice none 0 0)) (.tmp 198) 31 rfl 50 i0 _ 4 48 Tryd.underlying31 Hi.out Hz0.out Hz1.out Hz2.out rfl (by decide) none 0 0 [] (by simp [Act.eval]) (fun _ => ⟨rfl, rfl⟩) rfl (by rintro _ ⟨⟩) AD n c (rowP pa) (by simp [Act.eval, hAD]) (by rw [rowP_len, HPL.out]) (HM12.out.olds _ hAD) rowP_one (by omega) (by simp only [maxLen]; omega) (by omega) ?_; intro v' w13 hown13 hg13; obtain ⟨A6, c6, rfl, hc6⟩ := own_slice hown13; have HA6 := Lib.hid hown13; have HB13 := Lib.hid (below_grown hg13 (by rintro _ ⟨⟩) (Below.refl _ _) (Nat.le_refl _)); clear hown13 hg13)
                have ha6 := HA6.out
                rw [Nat.zero_add, List.nil_append] at ha6
                obtain ⟨g6, cur, rfl, hg6, hh6, _⟩ := (OwnS.of_own ha6).at_ (by omega)
                have hpm6 := PM.of_own ha6 HPL.out.symm
                have hi6 : i < pa.length := by have := HPL.out; omega
                have ho13 := blk_later HO12.out HB13.out (blk_lt HO12.out)
                have o0 := blk_cell ho13 0
                have o1 := blk_cell ho13 1
                have o2 := blk_cell ho13 2
                have o3 := blk_cell ho13 3
                have u0 : w13.cell? ⟨g6, i * 4, none⟩ = some _ := (by have := hpm6.cellAt hi6 0 (by omega); rwa [Nat.zero_add, Nat.add_zero] at this)
                have u1 : w13.cell? ⟨g6, i * 4 + 1, none⟩ = some _ := (by have := hpm6.cellAt hi6 1 (by omega); rwa [Nat.zero_add] at this)
                have u2 : w13.cell? ⟨g6, i * 4 + 2, none⟩ = some _ := (by have := hpm6.cellAt hi6 2 (by omega); rwa [Nat.zero_add] at this)
                have u3 : w13.cell? ⟨g6, i * 4 + 3, none⟩ = some _ := (by have := hpm6.cellAt hi6 3 (by omega); rwa [Nat.zero_add] at this)
                have z0 := blk_frozen hh6 (i * 4)
                have z1 := blk_frozen hh6 (i * 4 + 1)
                have z2 := blk_frozen hh6 (i * 4 + 2)
                have z3 := blk_frozen hh6 (i * 4 + 3)
                have hput := hpm6.put hi6 o
                rw [Nat.zero_add] at hput
                have HPUT := Lib.hid hput
                clear ho13 hput hh6 hpm6 ha6
                go_upto_region 36 with (fail)
                have hb14 := (((HB13.out.setCell (p := ⟨g6, i * 4, none⟩) hg6 (.int .u8 (o.k.toNat : Int))).setCell (p := ⟨g6, i * 4 + 1, none⟩) hg6 (.string o.t)).setCell (p := ⟨g6, i * 4 + 2, none⟩) hg6 (.string o.d)).setCell (p := ⟨g6, i * 4 + 3, none⟩) hg6 (.int .i64 o.a)
                have hput := HPUT.out
                generalize (((w13.setCell ⟨g6, i * 4, none⟩ (.int .u8 (o.k.toNat : Int))).setCell ⟨g6, i * 4 + 1, none⟩ (.string o.t)).setCell ⟨g6, i * 4 + 2, none⟩ (.string o.d)).setCell ⟨g6, i * 4 + 3, none⟩ (.int .i64 o.a) = w14 at hb14 hput ⊢
                have HB14 := Lib.hid hb14; have HU := Lib.hid hput
                clear HPUT hb14 hput o0 o1 o2 o3 u0 u1 u2 u3 z0 z1 z2 z3 HB13 HA6 hg6
                obtain ⟨g7, off7, e7, hg7, m0, m1, m2, m3⟩ := (HM12.out.keep HB14.out (Nat.le_refl _)) i hi6
                obtain rfl : AD = ⟨g7, off7, none⟩ := Option.some.inj (hAD.symm.trans e7)
                rw [HPAI.out] at m0 m1 m2 m3
                have hn14 := blk_later HO12.out HB14.out (blk_lt HO12.out)
                have n0 : w14.cell? ⟨w.heap.size, 0, none⟩ = some (.int .u8 (o.k.toNat : Int)) := blk_cell hn14 0
                have n1 : w14.cell? ⟨w.heap.size, 1, none⟩ = some (.string o.t) := blk_cell hn14 1
                have n2 : w14.cell? ⟨w.heap.size, 2, none⟩ = some (.string o.d) := blk_cell hn14 2
                have n3 : w14.cell? ⟨w.heap.size, 3, none⟩ = some (.int .i64 o.a) := blk_cell hn14 3
                have hii : (i : Int) < (n : Int) := by omega
                have hii0 : (0 : Int) ≤ (i : Int) := by omega
                obtain ⟨sm, hsm⟩ : ∃ sm, sameP x o = sm := ⟨_, rfl⟩
                obtain ⟨m1', hm1'⟩ : ∃ m, m + 1 = n := ⟨n - 1, by omega⟩
                have hm2 : (n : Int) - 1 = (m1' : Int) := by omega
                have HBW := Lib.hid (onB HB2C.out HB14.out)
                have MU := Lib.hid (fun W (hb : Below w14.heap.size w14 W) => match_at (HP2.out.keep (onB HBW.out hb) (Nat.le_refl _)) HPQ.out hl30 (some ⟨g6, 0, none⟩) n c6 (pa.set i o) (HU.out.keep hb (Nat.le_refl _)) (by have := HPL.out; simp; omega) (by omega) sm (by rw [← HPA.out, match_set l i hil o, HX.out]; exact hsm))
                have MU2 := Lib.hid (fun W (hb : Below w14.heap.size w14 W) => match_at (HP9.out.keep (onB (onB HB12.out HB14.out) hb) (Nat.le_refl _)) HPQ2.out hl30 (some ⟨g6, 0, none⟩) n c6 (pa.set i o) (HU.out.keep hb (Nat.le_refl _)) (by have := HPL.out; simp; omega) (by omega) sm (by rw [← HPA.out, match_set l i hil o, HX.out]; exact hsm))
                have MT := Lib.hid (fun W (hb : Below w14.heap.size w14 W) => match_at (HP2.out.keep (onB HBW.out hb) (Nat.le_refl _)) HPQ.out hl30 A m1' c (pa.take m1') ((HM12.out.keep (onB HB14.out hb) (Nat.le_refl _)).head m1') (by have := HPL.out; simp; omega) (by omega) false (match_len l _ (by have := HPL.out; have := HN.out; simp; omega)))
                rw [hAD] at MT
                have STO := Lib.hid (slice_to (some ⟨g7, off7, none⟩) n c m1' (by omega))
                obtain ⟨bk, hbk⟩ : ∃ bk, isKey x = bk := ⟨_, rfl⟩
                have HBK := Lib.hid hbk; have HSM := Lib.hid hsm
                clear hn14 hg7 e7 hbk hsm hm1' HM12 HP2 HP9 HU HB2C
                cases bk
                · have hax : asP x = ⟨2, x.t, x.d, 0⟩ := by unfold asP; rw [HBK.out]; rfl
                  rw [hax] at m0 m1 m2 m3
                  have p0 : w14.cell? ⟨g7, off7 + i * 4, none⟩ = some (.int .u8 2) := m0
                  have p1 : w14.cell? ⟨g7, off7 + i * 4 + 1, none⟩ = some (.string x.t) := m1
                  have p2 : w14.cell? ⟨g7, off7 + i * 4 + 2, none⟩ = some (.string x.d) := m2
                  have p3 : w14.cell? ⟨g7, off7 + i * 4 + 3, none⟩ = some (.int .i64 0) := m3
                  have q0 := later_cell p0
                  have q1 := later_cell p1
                  have q2 := later_cell p2
                  have q3 := later_cell p3
                  have l0 := later_cell n0
                  have l1 := later_cell n1
                  have l2 := later_cell n2
                  have l3 := later_cell n3
                  have seq := fun W => step_eq o.k o.t o.d o.a 2 x.t x.d W
                  obtain ⟨B, hB⟩ : ∃ B, ((o.k.toNat : Int) == 2 && (o.t.toList == x.t.toList && (o.d.toList == (x.d : ByteArray).toList && o.a == 0))) = B := ⟨_, rfl⟩
                  rw [hB] at seq
                  have HB' := Lib.hid hB
                  clear m0 m1 m2 m3 hB hax
                  go_wp2
                  refine wp_region_later w14 (by kernel_rfl) (by kernel_rfl) (Below.refl _ _) ?_
                  repeat (go_big_quiet_step (fail))
                  refine wpQuiet_nil ?_
                  intro w15 hw15
                  obtain ⟨⟨w15', hb15⟩, e4⟩ := hw15
                  have e5 : w15 = w15' := e4
                  subst e5
                  clear e4 q0 q1 q2 q3 l0 l1 l2 l3 seq
                  replace p0 := cell_later hb15 p0
                  replace p1 := cell_later hb15 p1
                  replace p2 := cell_later hb15 p2
                  replace n0 := cell_later hb15 n0
                  replace n1 := cell_later hb15 n1
                  replace n2 := cell_later hb15 n2
                  clear p3 n3
                  by_cases hk : o.k.toNat = 2
                  · have hki : (o.k.toNat : Int) = 2 := by rw [hk]; rfl
                    rw [hki] at n0
                    clear hki
                    obtain ⟨E1, hE1⟩ : ∃ E, (o.t.toList == x.t.toList) = E := ⟨_, rfl⟩
                    have HE1 := Lib.hid hE1
                    have q1 := later_cell p1
                    have l1 := later_cell n1
                    obtain ⟨E2, hE2⟩ : ∃ E, (o.d.toList == x.d.toList) = E := ⟨_, rfl⟩
                    have HE2 := Lib.hid hE2
                    have q2 := later_cell p2
                    have l2 := later_cell n2
                    cases E1
                    · obtain rfl : false = sm := by rw [← HSM.out, sameP, HBK.out, if_neg (by simp), hk, ← str_eqP, ← str_eqP, HE1.out, HE2.out]; rfl
                      go_wp2
                      refine wp_region_later w15 (by kernel_rfl) (by kernel_rfl) (Below.refl _ _) ?_
                      repeat (go_big_quiet_step (fail))
                      refine wpQuiet_nil ?_
                      intro w16 hw16
                      obtain ⟨⟨w16', hb16⟩, e4⟩ := hw16
                      have e5 : w16 = w16' := e4
                      subst e5
                      clear e4 q1 l1 q2 l2
                      replace p0 := cell_later hb16 p0
                      replace n0 := cell_later hb16 n0
                      have HBE := Lib.hid (onB hb15 hb16)
                      have hst := STO.out
                      go_wp2_with (first
                        | (have _z := HB21; go_at_call 10; (with_reducible refine (MU2.out _ HB21.out).mono ?_); rintro e w22 ⟨rfl, hb22⟩; have HB22 := Lib.hid (onB HB21.out hb22); clear hb22)
                        | (have _z := HB20; go_at_call 10; (with_reducible refine (MT.out _ HB20.out).mono ?_); rintro e w21 ⟨rfl, hb21⟩; have HB21 := Lib.hid (onB HB20.out hb21); clear hb21)
                        | (go_at_call 10; (with_reducible refine (MU.out _ HBE.out).mono ?_); rintro e w20 ⟨rfl, hb20⟩; have HB20 := Lib.hid (onB HBE.out hb20); clear hb20)
                        | (go_at_call 8; (with_reducible refine (LV.out _).mono ?_); rintro e w23 ⟨rfl, hb23⟩))
                      go_ret
                      exact ⟨rfl, onB HB2.out (onB HBW.out (onB HB22.out hb23))⟩
                    · obtain rfl : E2 = sm := by rw [← HSM.out, sameP, HBK.out, if_neg (by simp), hk, ← str_eqP, ← str_eqP, HE1.out, HE2.out]; rfl
                      go_wp2
                      refine wp_region_later w15 (by kernel_rfl) (by kernel_rfl) (Below.refl _ _) ?_
                      repeat (go_big_quiet_step (fail))
                      refine wpQuiet_nil ?_
                      intro w16 hw16
                      obtain ⟨⟨w16', hb16⟩, e4⟩ := hw16
                      have e5 : w16 = w16' := e4
                      subst e5
                      clear e4 q1 l1 q2 l2
                      replace p0 := cell_later hb16 p0
                      replace n0 := cell_later hb16 n0
                      have HBE := Lib.hid (onB hb15 hb16)
                      have hst := STO.out
                      go_wp2_with (first
                        | (have _z := HB21; go_at_call 10; (with_reducible refine (MU2.out _ HB21.out).mono ?_); rintro e w22 ⟨rfl, hb22⟩; have HB22 := Lib.hid (onB HB21.out hb22); clear hb22)
                        | (have _z := HB20; go_at_call 10; (with_reducible refine (MT.out _ HB20.out).mono ?_); rintro e w21 ⟨rfl, hb21⟩; have HB21 := Lib.hid (onB HB20.out hb21); clear hb21)
                        | (go_at_call 10; (with_reducible refine (MU.out _ HBE.out).mono ?_); rintro e w20 ⟨rfl, hb20⟩; have HB20 := Lib.hid (onB HBE.out hb20); clear hb20)
                        | (go_at_call 8; (with_reducible refine (LV.out _).mono ?_); rintro e w23 ⟨rfl, hb23⟩))
                      go_ret
                      exact ⟨rfl, onB HB2.out (onB HBW.out (onB HB22.out hb23))⟩
                  · have hk' : ((o.k.toNat : Int) == 2) = false := by rw [beq_eq_false_iff_ne]; omega
                    have hBf : B = false := by have := HB'.out; rw [hk'] at this; rw [← this]; rfl
                    subst hBf
                    obtain rfl : false = sm := by rw [← HSM.out, sameP, HBK.out, if_neg (by simp)]; simp [hk]
                    have HBE := Lib.hid (hb15)
                    have hst := STO.out
                    go_wp2_with (first
                      | (have _z := HB21; go_at_call 10; (with_reducible refine (MU2.out _ HB21.out).mono ?_); rintro e w22 ⟨rfl, hb22⟩; have HB22 := Lib.hid (onB HB21.out hb22); clear hb22)
                      | (have _z := HB20; go_at_call 10; (with_reducible refine (MT.out _ HB20.out).mono ?_); rintro e w21 ⟨rfl, hb21⟩; have HB21 := Lib.hid (onB HB20.out hb21); clear hb21)
                      | (go_at_call 10; (with_reducible refine (MU.out _ HBE.out).mono ?_); rintro e w20 ⟨rfl, hb20⟩; have HB20 := Lib.hid (onB HBE.out hb20); clear hb20)
                      | (go_at_call 8; (with_reducible refine (LV.out _).mono ?_); rintro e w23 ⟨rfl, hb23⟩))
                    go_ret
                    exact ⟨rfl, onB HB2.out (onB HBW.out (onB HB22.out hb23))⟩
                · have hax : asP x = ⟨0, x.t, ⟨#[]⟩, 0⟩ := by unfold asP; rw [HBK.out]; rfl
                  rw [hax] at m0 m1 m2 m3
                  have p0 : w14.cell? ⟨g7, off7 + i * 4, none⟩ = some (.int .u8 0) := m0
                  have p1 : w14.cell? ⟨g7, off7 + i * 4 + 1, none⟩ = some (.string x.t) := m1
                  have p2 : w14.cell? ⟨g7, off7 + i * 4 + 2, none⟩ = some (.string ⟨#[]⟩) := m2
                  have p3 : w14.cell? ⟨g7, off7 + i * 4 + 3, none⟩ = some (.int .i64 0) := m3
                  have q0 := later_cell p0
                  have q1 := later_cell p1
                  have q2 := later_cell p2
                  have q3 := later_cell p3
                  have l0 := later_cell n0
                  have l1 := later_cell n1
                  have l2 := later_cell n2
                  have l3 := later_cell n3
                  have seq := fun W => step_eq o.k o.t o.d o.a 0 x.t ⟨#[]⟩ W
                  obtain ⟨B, hB⟩ : ∃ B, ((o.k.toNat : Int) == 0 && (o.t.toList == x.t.toList && (o.d.toList == (⟨#[]⟩ : ByteArray).toList && o.a == 0))) = B := ⟨_, rfl⟩
                  rw [hB] at seq
                  have HB' := Lib.hid hB
                  clear m0 m1 m2 m3 hB hax
                  go_wp2
                  refine wp_region_later w14 (by kernel_rfl) (by kernel_rfl) (Below.refl _ _) ?_
                  repeat (go_big_quiet_step (fail))
                  refine wpQuiet_nil ?_
                  intro w15 hw15
                  obtain ⟨⟨w15', hb15⟩, e4⟩ := hw15
                  have e5 : w15 = w15' := e4
                  subst e5
                  clear e4 q0 q1 q2 q3 l0 l1 l2 l3 seq
                  replace p0 := cell_later hb15 p0
                  replace p1 := cell_later hb15 p1
                  replace p2 := cell_later hb15 p2
                  replace n0 := cell_later hb15 n0
                  replace n1 := cell_later hb15 n1
                  replace n2 := cell_later hb15 n2
                  clear p3 n3
                  by_cases hk : o.k.toNat = 0
                  · have hki : (o.k.toNat : Int) = 0 := by rw [hk]; rfl
                    rw [hki] at n0
                    clear hki
                    obtain ⟨E1, hE1⟩ : ∃ E, (o.t.toList == x.t.toList) = E := ⟨_, rfl⟩
                    have HE1 := Lib.hid hE1
                    have q1 := later_cell p1
                    have l1 := later_cell n1
                    obtain rfl : E1 = sm := by rw [← HSM.out, sameP, HBK.out, if_pos rfl, hk, ← HE1.out, str_eqP]; rfl
                    go_wp2
                    refine wp_region_later w15 (by kernel_rfl) (by kernel_rfl) (Below.refl _ _) ?_
                    repeat (go_big_quiet_step (fail))
                    refine wpQuiet_nil ?_
                    intro w16 hw16
                    obtain ⟨⟨w16', hb16⟩, e4⟩ := hw16
                    have e5 : w16 = w16' := e4
                    subst e5
                    clear e4 q1 l1
                    replace p0 := cell_later hb16 p0
                    replace n0 := cell_later hb16 n0
                    have HBE := Lib.hid (onB hb15 hb16)
                    have hst := STO.out
                    go_wp2_with (first
                      | (have _z := HB21; go_at_call 10; (with_reducible refine (MU2.out _ HB21.out).mono ?_); rintro e w22 ⟨rfl, hb22⟩; have HB22 := Lib.hid (onB HB21.out hb22); clear hb22)
                      | (have _z := HB20; go_at_call 10; (with_reducible refine (MT.out _ HB20.out).mono ?_); rintro e w21 ⟨rfl, hb21⟩; have HB21 := Lib.hid (onB HB20.out hb21); clear hb21)
                      | (go_at_call 10; (with_reducible refine (MU.out _ HBE.out).mono ?_); rintro e w20 ⟨rfl, hb20⟩; have HB20 := Lib.hid (onB HBE.out hb20); clear hb20)
                      | (go_at_call 8; (with_reducible refine (LV.out _).mono ?_); rintro e w23 ⟨rfl, hb23⟩))
                    go_ret
                    exact ⟨rfl, onB HB2.out (onB HBW.out (onB HB22.out hb23))⟩
                  · have hk' : ((o.k.toNat : Int) == 0) = false := by rw [beq_eq_false_iff_ne]; omega
                    have hBf : B = false := by have := HB'.out; rw [hk'] at this; rw [← this]; rfl
                    subst hBf
                    obtain rfl : false = sm := by rw [← HSM.out, sameP, HBK.out, if_pos rfl]; simp [hk]
                    have HBE := Lib.hid (hb15)
                    have hst := STO.out
                    go_wp2_with (first
                      | (have _z := HB21; go_at_call 10; (with_reducible refine (MU2.out _ HB21.out).mono ?_); rintro e w22 ⟨rfl, hb22⟩; have HB22 := Lib.hid (onB HB21.out hb22); clear hb22)
                      | (have _z := HB20; go_at_call 10; (with_reducible refine (MT.out _ HB20.out).mono ?_); rintro e w21 ⟨rfl, hb21⟩; have HB21 := Lib.hid (onB HB20.out hb21); clear hb21)
                      | (go_at_call 10; (with_reducible refine (MU.out _ HBE.out).mono ?_); rintro e w20 ⟨rfl, hb20⟩; have HB20 := Lib.hid (onB HBE.out hb20); clear hb20)
                      | (go_at_call 8; (with_reducible refine (LV.out _).mono ?_); rintro e w23 ⟨rfl, hb23⟩))
                    go_ret
                    exact ⟨rfl, onB HB2.out (onB HBW.out (onB HB22.out hb23))⟩

end Go.Proofs.YtjnedbkbhoiopaaDoor
