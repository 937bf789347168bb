/- Walks over package decimals: split of a text that has a whole part; no statement of the seat is proved here. -/
import Derived.Test.YtncldnghhpdolaaGreatDoorDcS
import Derived.Test.YtncldnghhpdolaaGreatDoorKeep
namespace Go.Proofs.YtncldnghhpdolaaGreatDoor
open Go.RowKit

/-- .. and what stands behind the whole part -/
structure PT (s r2 dt r3 pa r4 ex r5 sg r6 po r7 : ByteArray) (pt ra : Bool) : Prop where
  e0 : dt.data.toList = r2.data.toList.take (one isDot r2.data.toList)
  e1 : r3.data.toList = r2.data.toList.drop (one isDot r2.data.toList)
  e2 : pt = true → pa.data.toList = r3.data.toList.takeWhile dgB ∧ r4.data.toList = r3.data.toList.dropWhile dgB
  e3 : pt = false → pa = ⟨#[]⟩ ∧ r4 = r3
  e4 : ex.data.toList = r4.data.toList.take (one isExp r4.data.toList)
  e5 : r5.data.toList = r4.data.toList.drop (one isExp r4.data.toList)
  e6 : ra = true → sg.data.toList = r5.data.toList.take (one isSig r5.data.toList) ∧ r6.data.toList = r5.data.toList.drop (one isSig r5.data.toList) ∧ po.data.toList = r6.data.toList.takeWhile dgB ∧ r7.data.toList = r6.data.toList.dropWhile dgB
  e7 : ra = false → sg = ⟨#[]⟩ ∧ po = ⟨#[]⟩ ∧ r7 = r5
  f0 : dt.toList.isEmpty = !pt
  f1 : ex.toList.isEmpty = !ra
  s2 : r2.size ≤ s.size
  s3 : r3.size ≤ s.size
  s4 : r4.size ≤ s.size
  s5 : r5.size ≤ s.size
  s6 : r6.size ≤ s.size
theorem sz_drop {a b s : ByteArray} {n : Nat} (h : a.data.toList = b.data.toList.drop n) (hb : b.size ≤ s.size) : a.size ≤ s.size := by
  rw [← size_list, h, List.length_drop, size_list]; omega
theorem sz_dw {a b s : ByteArray} {p : UInt8 → Bool} (h : a.data.toList = b.data.toList.dropWhile p) (hb : b.size ≤ s.size) : a.size ≤ s.size := by
  rw [← size_list, h]
  have := (List.dropWhile_sublist p (l := b.data.toList)).length_le
  rw [size_list] at this; omega
theorem tw_drop (p : UInt8 → Bool) (l : List UInt8) : l.drop (l.takeWhile p).length = l.dropWhile p := drop_tw p l
theorem PT.ex (s wh pa sg po mi r1 r2 : ByteArray) (hP : PS s mi r1 wh r2) (hpa : pa.data.toList = partL s.data.toList) (hsg : sg.data.toList = signL s.data.toList) (hpo : po.data.toList = powerL s.data.toList) :
    ∃ dt r3 r4 ex r5 r6 r7, PT s r2 dt r3 pa r4 ex r5 sg r6 po r7 (hdB isDot (l2 s.data.toList)) (hdB isExp (l4 s.data.toList)) ∧ r7.data.toList = l7 s.data.toList := by
  have q2 : r2.data.toList = l2 s.data.toList := by rw [hP.e3, hP.e1]; rfl
  obtain ⟨dt, hdt⟩ := str_ex (r2.data.toList.take (one isDot r2.data.toList))
  obtain ⟨r3, h3⟩ := str_ex (r2.data.toList.drop (one isDot r2.data.toList))
  have q3 : r3.data.toList = l3 s.data.toList := by rw [h3, q2]; rfl
  obtain ⟨r4, h4⟩ := str_ex (l4 s.data.toList)
  obtain ⟨ex, hex⟩ := str_ex (r4.data.toList.take (one isExp r4.data.toList))
  obtain ⟨r5, h5⟩ := str_ex (r4.data.toList.drop (one isExp r4.data.toList))
  have q5 : r5.data.toList = l5 s.data.toList := by rw [h5, h4]; rfl
  obtain ⟨r6, h6⟩ := str_ex (l6 s.data.toList)
  obtain ⟨r7, h7⟩ := str_ex (l7 s.data.toList)
  have z2 := hP.s2
  have z3 : r3.size ≤ s.size := sz_drop h3 z2
  have z4 : r4.size ≤ s.size := by
    refine sz_drop (n := (partL s.data.toList).length) ?_ z3
    rw [h4, q3]; rfl
  have z5 : r5.size ≤ s.size := sz_drop h5 z4
  have z6 : r6.size ≤ s.size := by
    refine sz_drop (n := (signL s.data.toList).length) ?_ z5
    rw [h6, q5]; rfl
  refine ⟨dt, r3, r4, ex, r5, r6, r7, ⟨hdt, h3, ?_, ?_, hex, h5, ?_, ?_, ?_, ?_, z2, z3, z4, z5, z6⟩, h7⟩
  · intro h
    have e : partL s.data.toList = (l3 s.data.toList).takeWhile dgB := by rw [partL, if_pos h]
    rw [hpa, h4, q3, l4, e, drop_tw]; exact ⟨rfl, rfl⟩
  · intro h
    have e : partL s.data.toList = [] := by rw [partL, h]; rfl
    exact ⟨str_nil (hpa.trans e), str_of (by rw [h4, q3, l4, e]; rfl)⟩
  · intro h
    have e : signL s.data.toList = (l5 s.data.toList).take (one isSig (l5 s.data.toList)) := by rw [signL, if_pos h]
    have e' : powerL s.data.toList = (l6 s.data.toList).takeWhile dgB := by rw [powerL, if_pos h]
    have e6 : l6 s.data.toList = (l5 s.data.toList).drop (one isSig (l5 s.data.toList)) := by
      rw [l6, e, List.length_take, Nat.min_eq_left (one_le _ _)]
    rw [hsg, q5, h6, hpo, h7, e, e', l7, e', drop_tw]
    exact ⟨rfl, e6, rfl, rfl⟩
  · intro h
    have e : signL s.data.toList = [] := by rw [signL, h]; rfl
    have e' : powerL s.data.toList = [] := by rw [powerL, h]; rfl
    exact ⟨str_nil (hsg.trans e), str_nil (hpo.trans e'), str_of (by rw [h7, q5, l7, e', l6, e]; rfl)⟩
  · rw [one_str isDot _ dt hdt, q2]
  · rw [one_str isExp _ ex hex, h4]

theorem SW.drew {w0 w : World} {m : Bool} {wh pa sg po : ByteArray} {pt ra : Bool} {s : ByteArray} (h : SW w0 w m wh pa sg po pt ra s) : SW w0 w.drew m wh pa sg po pt ra s := ⟨h.blk, h.tb, h.below.drew⟩
theorem SW.same {w0 w : World} {m : Bool} {wh pa sg po : ByteArray} {pt ra : Bool} {s : ByteArray} (h : SW w0 w m wh pa sg po pt ra s) :
    w.setCell ⟨w0.heap.size, 0, none⟩ (.bool m) = w ∧ w.setCell ⟨w0.heap.size, 1, none⟩ (.string wh) = w ∧ w.setCell ⟨w0.heap.size, 2, none⟩ (.string pa) = w ∧ w.setCell ⟨w0.heap.size, 3, none⟩ (.string sg) = w ∧ w.setCell ⟨w0.heap.size, 4, none⟩ (.string po) = w ∧ w.setCell ⟨w0.heap.size, 5, none⟩ (.bool pt) = w ∧ w.setCell ⟨w0.heap.size, 6, none⟩ (.bool ra) = w :=
  ⟨setCell_same h.blk rfl, setCell_same h.blk rfl, setCell_same h.blk rfl, setCell_same h.blk rfl, setCell_same h.blk rfl, setCell_same h.blk rfl, setCell_same h.blk rfl⟩
set_option maxRecDepth 100000 in
set_option maxHeartbeats 4000000 in
theorem split_ok (s wh pa sg po : ByteArray) (hs : s.size ≤ 549755813888) (hwh : wh.data.toList = wholeL s.data.toList) (hpa : pa.data.toList = partL s.data.toList) (hsg : sg.data.toList = signL s.data.toList) (hpo : po.data.toList = powerL s.data.toList)
    (hb : badW (wholeL s.data.toList) = false) (b : Bool) (hok : okW s.data.toList = b) (w : World) :
    Calls Tryz.prog 36 #[.string s] w fun x w' => x = .returned (.tuple #[.agg #[.bool (hdB isMin s.data.toList), .string wh, .string pa, .string sg, .string po, .bool (hdB isDot (l2 s.data.toList)), .bool (hdB isExp (l4 s.data.toList))], .bool b]) ∧ Below w.heap.size w w' := by
  obtain ⟨mi, r1, r2, hP⟩ := PS.ex s wh hs hwh
  obtain ⟨dt, r3, r4, ex, r5, r6, r7, hT, h7⟩ := PT.ex s wh pa sg po mi r1 r2 hP hpa hsg hpo
  obtain ⟨m, hm⟩ : ∃ m, hdB isMin s.data.toList = m := ⟨_, rfl⟩
  obtain ⟨pt, hpt⟩ : ∃ m, hdB isDot (l2 s.data.toList) = m := ⟨_, rfl⟩
  obtain ⟨ra, hra⟩ : ∃ m, hdB isExp (l4 s.data.toList) = m := ⟨_, rfl⟩
  have F0 := one_str isMin s.data.toList mi hP.e0
  rw [okW, hb, ← h7, hpt, hra, ← hpa, ← hpo, Bool.not_false, Bool.true_and] at hok
  rw [hpt, hra] at hT ⊢
  rw [hm] at F0 ⊢
  rw [← hwh] at hb
  have HO := Lib.hid hok; clear hok
  have HP := Lib.hid hP; clear hP
  have F1 := hT.f0
  have F2 := hT.f1
  have HT := Lib.hid hT; clear hT
  have hsz : wh.data.toList.length = wh.size := rfl
  rw [badW, Bool.or_eq_false_iff, Bool.and_eq_false_iff] at hb
  obtain ⟨hb1, hb2⟩ := hb
  have h0 : wh.data.toList ≠ [] := fun e => by rw [e] at hb1; exact absurd hb1 (by decide)
  obtain ⟨G1, G2⟩ := full_of h0
  have hw0 : 0 < wh.size := by have := List.length_pos_iff.2 h0; omega
  have HG : Hid (¬ 1 < wh.size ∨ (((wh[0]'hw0).toNat : Int) == 48) = false) := by
    rcases hb2 with h | h
    · exact .inl (of_decide_eq_false h)
    · right
      rw [beq_eq_false_iff_ne]
      intro e
      rw [← run_idx wh 0 hw0] at e
      cases q : wh.data.toList with
      | nil => exact h0 q
      | cons c t =>
        simp only [q] at e h
        simp [hdB] at e h
        exact h (UInt8.toNat_inj.1 (by simpa using (by omega : c.toNat = 48)))
  clear hwh hm hpt hra hpa hsg hpo h7 hb1 hb2 h0 hsz
  go_enter Tryz.func36, Tryz.ntmps36
  go_upto_region 4 with (first
      | (go_at_call 65; (with_reducible refine (taker_sw s w).mono ?_); rintro x w1 ⟨rfl, h1⟩; have H1 := Lib.hid h1; clear h1; obtain ⟨a0, a1, a2, a3, a4, a5, a6, af, az⟩ := H1.out.facts)
      | (go_at_call 94; (with_reducible refine (H1.out.one ⟨#[45]⟩ isMin set_min (by have := HP.out.s0; omega) mi r1 HP.out.e0 HP.out.e1).mono ?_); rintro x w2 ⟨rfl, h2⟩; obtain ⟨c0, c1, c2, c3, c4, c5, c6, cf, cz⟩ := h2.facts; have H2 := Lib.hid (h2.set (m' := m) 0 (.bool m) rfl); clear h2)
      | (go_at_call 94; (with_reducible refine (H2.out.run s.size (by have := HP.out.s0; omega) HP.out.s1 wh r2 HP.out.e2 HP.out.e3).mono ?_); rintro x w3 ⟨rfl, h3⟩; have H3 := Lib.hid h3; clear h3; obtain ⟨b0, b1, b2, b3, b4, b5, b6, bf, bz⟩ := H3.out.facts))
  have H4 := Lib.hid (H3.out.set (wh' := wh) 1 (.string wh) rfl)
  generalize w3.setCell ⟨w.heap.size, 1, none⟩ (.string wh) = w4 at *
  clear b0 b1 b2 b3 b4 b5 b6 bf bz H3 c0 c1 c2 c3 c4 c5 c6 cf cz H2 a0 a1 a2 a3 a4 a5 a6 af az H1
  obtain ⟨b0, b1, b2, b3, b4, b5, b6, bf, bz⟩ := H4.out.facts
  go_cut [34] from 20 to 34 (fun s34 w' => s34 = .bool false ∧ Hid (SW w w' m wh ⟨#[]⟩ ⟨#[]⟩ ⟨#[]⟩ false false r2))
  case first =>
    rcases HG.out with g | g
    · go_wp2
      go_meet
      case rel => exact ⟨rfl, H4⟩
    · by_cases g1 : 1 < wh.size
      · go_wp2
        go_meet
        case rel => exact ⟨rfl, H4⟩
      · go_wp2
        go_meet
        case rel => exact ⟨rfl, H4⟩
  case rest =>
    obtain ⟨rfl, H5⟩ := hcut
    clear b0 b1 b2 b3 b4 b5 b6 bf bz H4 HG G1 G2
    obtain ⟨b0, b1, b2, b3, b4, b5, b6, bf, bz⟩ := H5.out.facts
    go_upto_if 41 with (first
      | (go_at_call 94; (with_reducible refine (H5.out.one ⟨#[46]⟩ isDot set_dot (by have := HP.out.s0; have := HP.out.s2; omega) dt r3 HT.out.e0 HT.out.e1).mono ?_); rintro x w2 ⟨rfl, h2⟩; obtain ⟨c0, c1, c2, c3, c4, c5, c6, cf, cz⟩ := h2.facts; have H6 := Lib.hid (h2.set (pt' := pt) 5 (.bool pt) rfl); clear h2))
    go_cut [] from 42 to 46 (fun w' => Hid (SW w w' m wh pa ⟨#[]⟩ ⟨#[]⟩ pt false r4))
    case first =>
      cases pt
      · obtain ⟨rfl, rfl⟩ := HT.out.e3 rfl
        go_wp2
        go_meet
        case rel => exact H6
      · obtain ⟨k1, k2⟩ := HT.out.e2 rfl
        have K1 := Lib.hid k1
        have K2 := Lib.hid k2
        clear k1 k2
        go_wp2_with (first
          | (go_at_call 94; (with_reducible refine (H6.out.run s.size (by have := HP.out.s0; omega) HT.out.s3 pa r4 K1.out K2.out).mono ?_); rintro x w3 ⟨rfl, h3⟩; obtain ⟨d0, d1, d2, d3, d4, d5, d6, df, dz⟩ := h3.facts; have H7 := Lib.hid (h3.set (pa' := pa) 2 (.string pa) rfl); clear h3))
        go_meet
        case rel => exact H7
    case rest =>
      have H7 := hcut
      clear hcut c0 c1 c2 c3 c4 c5 c6 cf cz H6 b0 b1 b2 b3 b4 b5 b6 bf bz H5
      obtain ⟨b0, b1, b2, b3, b4, b5, b6, bf, bz⟩ := H7.out.facts
      go_upto_if 52 with (first
        | (go_at_call 94; (with_reducible refine (H7.out.one ⟨#[101, 69]⟩ isExp set_exp (by have := HP.out.s0; have := HT.out.s4; omega) ex r5 HT.out.e4 HT.out.e5).mono ?_); rintro x w2 ⟨rfl, h2⟩; obtain ⟨c0, c1, c2, c3, c4, c5, c6, cf, cz⟩ := h2.facts; have H8 := Lib.hid (h2.set (ra' := ra) 6 (.bool ra) rfl); clear h2))
      go_cut [] from 53 to 60 (fun w' => Hid (SW w w' m wh pa sg po pt ra r7))
      case first =>
        cases ra
        · obtain ⟨rfl, rfl, rfl⟩ := HT.out.e7 rfl
          go_wp2
          go_meet
          case rel => exact H8
        · obtain ⟨k1, k2, k3, k4⟩ := HT.out.e6 rfl
          have K1 := Lib.hid k1
          have K2 := Lib.hid k2
          have K3 := Lib.hid k3
          have K4 := Lib.hid k4
          clear k1 k2 k3 k4
          go_wp2_with (first
            | (go_at_call 94; (with_reducible refine (H8.out.one ⟨#[43, 45]⟩ isSig set_sig (by have := HP.out.s0; have := HT.out.s5; omega) sg r6 K1.out K2.out).mono ?_); rintro x w3 ⟨rfl, h3⟩; obtain ⟨d0, d1, d2, d3, d4, d5, d6, df, dz⟩ := h3.facts; have H9 := Lib.hid (h3.set (sg' := sg) 3 (.string sg) rfl); clear h3)
            | (go_at_call 94; (with_reducible refine (H9.out.run s.size (by have := HP.out.s0; omega) HT.out.s6 po r7 K3.out K4.out).mono ?_); rintro x w4 ⟨rfl, h4⟩; obtain ⟨g0, g1, g2, g3, g4, g5, g6, gf, gz⟩ := h4.facts; have H10 := Lib.hid (h4.set (po' := po) 4 (.string po) rfl); clear h4))
          go_meet
          case rel => exact H10
      case rest =>
        have H9 := hcut
        clear hcut c0 c1 c2 c3 c4 c5 c6 cf cz H8 b0 b1 b2 b3 b4 b5 b6 bf bz H7 HP HT F0 F1 F2
        obtain ⟨b0, b1, b2, b3, b4, b5, b6, bf, bz⟩ := H9.out.facts
        go_upto_region 13 with (fail)
        obtain ⟨ob, hob⟩ : ∃ ob, r7.data.toList.isEmpty = ob := ⟨_, rfl⟩
        obtain ⟨pe, hpe⟩ : ∃ ob, pa.data.toList.isEmpty = ob := ⟨_, rfl⟩
        obtain ⟨qe, hqe⟩ : ∃ ob, po.data.toList.isEmpty = ob := ⟨_, rfl⟩
        have ho := HO.out
        rw [hob, hpe, hqe] at ho
        have k1 : pa.toList.isEmpty = pe := by rw [ByteArray.toList_eq]; exact hpe
        have k2 : po.toList.isEmpty = qe := by rw [ByteArray.toList_eq]; exact hqe
        have HB := Lib.hid ho
        clear b0 b1 b2 b3 b4 b5 b6 bf bz hpe hqe HO ho
        obtain ⟨S, hS⟩ : ∃ S : World → Prop, S = fun w' => SW w w' m wh pa sg po pt ra r7 := ⟨_, rfl⟩
        have COV : Hid (∀ n : Keep S, Calls Tryz.prog 96 #[.pointer (some ⟨w.heap.size + 1, 0, none⟩)] n.at_ fun e w' => e = .returned (.bool ob) ∧ ∃ m : Keep S, w' = m.at_) := fun n => calls_keep (by
          subst hS
          exact (n.ok.over ob hob).mono fun _ _ ⟨h1, h2⟩ => ⟨h1, h2 ▸ n.ok⟩)
        have hn : ∀ n : Keep S, SW w n.at_ m wh pa sg po pt ra r7 := fun n => by have := n.ok; subst hS; exact this
        clear hob
        refine wp_region_keep S (by kernel_rfl) (by kernel_rfl) (by rw [hS]; exact H9.out.drew) ?_
        intro hne
        have b0 := fun n => (hn n).facts.1
        have b1 := fun n => (hn n).facts.2.1
        have b2 := fun n => (hn n).facts.2.2.1
        have b3 := fun n => (hn n).facts.2.2.2.1
        have b4 := fun n => (hn n).facts.2.2.2.2.1
        have b5 := fun n => (hn n).facts.2.2.2.2.2.1
        have b6 := fun n => (hn n).facts.2.2.2.2.2.2.1
        have bf := fun n => (hn n).facts.2.2.2.2.2.2.2.1
        have d0 := fun n => (hn n).same.1
        have d1 := fun n => (hn n).same.2.1
        have d2 := fun n => (hn n).same.2.2.1
        have d3 := fun n => (hn n).same.2.2.2.1
        have d4 := fun n => (hn n).same.2.2.2.2.1
        have d5 := fun n => (hn n).same.2.2.2.2.2.1
        have d6 := fun n => (hn n).same.2.2.2.2.2.2
        have HN := Lib.hid hn
        have HS := Lib.hid hS
        clear hn hS H9
        have hb' : ∀ {c : Bool}, (ob && (pt == !pe) && (ra == !qe)) = c → c = b := fun {c} h => h.symm.trans HB.out
        have HB' := Lib.hid (fun c => @hb' c)
        clear hb' HB
        cases ob
        rotate_left
        cases pt
        all_goals (try cases pe)
        all_goals (
          repeat (go_big_quiet_step ((go_at_call 96; with_reducible exact COV.out _)))
          refine wpQuiet_nil ?_
          intro w5 hw5
          obtain ⟨n5, hw5⟩ := hw5
          have h6 : SW w w5 m wh pa sg po _ ra r7 := hw5 ▸ HN.out n5
          clear hw5
          clear b0 b1 b2 b3 b4 b5 b6 bf d0 d1 d2 d3 d4 d5 d6
          go_wp2
          refine bodyPost_ret (v := .tuple #[.agg #[.bool m, .string wh, .string pa, .string sg, .string po, .bool _, .bool ra], .bool _]) (res_split h6 _ _ rfl rfl) rfl ⟨?_, h6.below⟩
          rw [← HB'.out _ rfl]
          cases qe <;> cases ra <;> rfl)
end Go.Proofs.YtncldnghhpdolaaGreatDoor
