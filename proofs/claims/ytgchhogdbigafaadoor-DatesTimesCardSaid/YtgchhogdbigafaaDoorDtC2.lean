/- Walks over package dates: split, where there are a date and a time; no statement of the seat is proved here. -/
import Derived.Test.YtgchhogdbigafaaDoorDtC
import Derived.IntWalk
namespace Go.Proofs.YtgchhogdbigafaaDoor
open Go.RowKit

theorem CB.drew {w : World} {n : Nat} {d t p z : ByteArray} {e : Int} (h : CB w n d t p z e) : CB w.drew n d t p z e := h
theorem sumw (n : Nat) (h : n ≤ 1099511627776) : IntKind.i64.wrap (10 + IntKind.i64.wrap (1 + (8 + (n : Int)))) = 19 + n := by
  rw [IntWalk.i64_in (1 + (8 + (n : Int))) (by omega), IntWalk.i64_in _ (by omega)]; omega
theorem cb_wrap {w : World} {n : Nat} {d t p z : ByteArray} {e e' : Int} (h : CB w n d t p z e) (he : e = e') : Hid (CB w n d t p z e') := by subst he; exact h
set_option maxHeartbeats 2000000 in
theorem split_both (s d t p z : ByteArray) (e : Nat) (hs : s.size ≤ 549755813888) (hD : isD s.data.toList 0 = true) (hM : midB s.data.toList = true) (hC : isC s.data.toList 11 = true) (hd : d.data.toList = s.data.toList.take 10)
    (ht : t.data.toList = (spl s.data.toList).timeL s.data.toList) (hp : p.data.toList = (spl s.data.toList).partL s.data.toList) (hz : z.data.toList = (spl s.data.toList).zoneL s.data.toList) (he : (spl s.data.toList).long = e) (w : World) :
    Calls Tryd.prog 22 #[.string s] w fun x w' => x = .returned (.agg #[.string d, .string t, .string p, .string z, .int .i64 (e : Int)]) ∧ Below w.heap.size w w' := by
  have hs : s.size ≤ 1099511627776 := by omega
  have hl : s.data.toList.length = s.size := rfl
  have hC19 := isC_len hC
  have hS : spl s.data.toList = ⟨true, true, 11, partN s.data.toList 19, zoneN s.data.toList (19 + pN (partN s.data.toList 19))⟩ := by rw [spl, if_pos hD, if_pos (by rw [hM, hC]; rfl)]
  have h10s : 10 ≤ s.size := by omega
  have h10 : 10 < s.size := by omega
  have hd10 : d.size = 10 := by have h : d.data.toList.length = d.size := rfl; rw [hd, List.length_take] at h; omega
  have ht8 : t.size = 8 := by have h : t.data.toList.length = t.size := rfl; rw [ht, hS] at h; simp only [Parts.timeL, if_true, List.length_take, List.length_drop] at h; omega
  have hpn : partN s.data.toList 19 ≤ s.data.toList.length - 20 := by
    unfold partN; split
    · exact runD_le _ _
    · omega
  have hps : p.size = partN s.data.toList 19 := by have h : p.data.toList.length = p.size := rfl; rw [hp, hS] at h; simp only [Parts.partL, List.length_take, List.length_drop] at h; omega
  obtain ⟨n, hn⟩ : ∃ n, pN (partN s.data.toList 19) = n := ⟨_, rfl⟩
  have hn1 := partN_le s.data.toList 19 (by omega)
  rw [hn] at hn1 hS
  have hn2 : 19 + n ≤ s.size := by omega
  have hzl := zoneN_le s.data.toList (19 + n) hn1
  have hzs : z.size = zoneN s.data.toList (19 + n) := by have h : z.data.toList.length = z.size := rfl; rw [hz, hS] at h; simp only [Parts.zoneL, Parts.zAt, List.length_take, List.length_drop, hn] at h; omega
  have hE : Hid ((19 + n + z.size : Int) = (e : Int)) := by
    show _ = _
    rw [← he, hS, hzs]; simp only [Parts.long, Parts.zAt, if_true, hn]; omega
  have hF := Lib.hid (fun w => dateF_at s d hs (by rw [formL, if_pos]; exact hd; rw [← List.drop_zero (l := s.data.toList), fit_dt, hD]) w)
  obtain ⟨n1, n2⟩ := str_full (t := d) (by omega)
  obtain ⟨m1, m2⟩ := str_full (t := s.extract 10 s.size) (by rw [ByteArray.size_extract]; omega)
  obtain ⟨k1, k2⟩ := str_full (t := t) (by omega)
  obtain ⟨v, hv, hvm⟩ := mid_ix s h10
  have HV := Lib.hid hv; clear hv
  rw [hM] at hvm
  have hv0 : 0 ≤ v := by simpa using hvm
  have hCk := Lib.hid (fun w => clock_is0 ((s.extract 10 s.size).extract 1 (s.size - 10)) t p (by rw [ByteArray.size_extract, ByteArray.size_extract]; omega)
    (by rw [ext3 h10s, ht, hS, formL, if_pos (by rw [fit_tm, hC])]; rfl)
    (by rw [ext3 h10s, hp, hS, isC_drop, if_pos hC, partN_drop, List.drop_drop]; rfl) w)
  have hA : Hid (∀ w, Calls Tryd.prog 36 #[.string t, .string p] w fun x w' => x = .returned (.int .i64 (8 + n)) ∧ w = w') := fun w => by
    have := after_is t p (by omega) (by omega) w
    rw [hps, hn, ht8] at this
    exact this
  have hZ : Hid (∀ w, Calls Tryd.prog 38 #[.string (s.extract (19 + n) s.size)] w fun x w' => x = .returned (.string z) ∧ Below w.heap.size w w') := fun w =>
    zone_is (s.extract (19 + n) s.size) z (by rw [ByteArray.size_extract]; omega) (by rw [ext_end, zoneN_drop, hz, hS]; simp only [Parts.zoneL, Parts.zAt, hn]; rfl) w
  have hzs2 : z.size ≤ s.size := by omega
  clear hvm hM hD hC hS hC19 hpn hps hn hn1 hzl hzs ht hp hz hd he hl
  go_enter Tryd.func22, Tryd.ntmps22
  go_wp2_with (first
    | (go_at_call 34; (with_reducible refine (hF.out _).mono ?_); rintro x w1 ⟨rfl, hb1⟩; have H1 := Lib.hid ((CB.new w).later hb1); obtain ⟨c0, c1, c2, c3, c4, cf, cz⟩ := H1.out.facts; have HB1 : Hid (Below w.heap.size w w1) := (below_new1 w _).trans (hb1.mono (by simp)))
    | (go_at_call 37; (with_reducible refine (ixM _ _ rfl _ (HV.out _) _).mono ?_); rintro x w2 ⟨rfl, rfl⟩)
    | (go_at_call 35; (with_reducible refine (hCk.out _).mono ?_); rintro x w2 ⟨rfl, hb2⟩; have H2 := Lib.hid (((H1.out.set0 d).set4 10).later hb2); obtain ⟨d0, d1, d2, d3, d4, df, dz⟩ := H2.out.facts; have HB2 : Hid (Below w.heap.size w w2) := ((HB1.out.setCell (Nat.le_refl _) _).setCell (Nat.le_refl _) _).trans (hb2.mono (by simp; omega))))
  have H3 := Lib.hid ((H2.out.set1 t).set2 p)
  have HB3 : Hid (Below w.heap.size w ((w2.setCell ⟨w.heap.size, 1, none⟩ (.string t)).setCell ⟨w.heap.size, 2, none⟩ (.string p))) := (HB2.out.setCell (Nat.le_refl _) _).setCell (Nat.le_refl _) _
  generalize (w2.setCell ⟨w.heap.size, 1, none⟩ (.string t)).setCell ⟨w.heap.size, 2, none⟩ (.string p) = w3 at *
  clear d0 d1 d2 d3 d4 df dz H2 HB2 hb2
  obtain ⟨d0, d1, d2, d3, d4, df, dz⟩ := H3.out.facts
  go_cut [] from 53 to 76 (fun w' => Hid (CB w' w.heap.size d t p ⟨#[]⟩ (19 + n)) ∧ Below w.heap.size w w')
  case first =>
    go_region_with (go_at_call 36; (with_reducible refine (hA.out _).mono ?_); rintro x w' ⟨rfl, rfl⟩)
    all_goals (
      go_wp2_with fail
      go_meet
      case rel =>
        exact ⟨cb_wrap (H3.out.set4 _).drew (sumw n (by omega)), (HB3.out.setCell (Nat.le_refl _) _).drew⟩)
  case rest =>
    obtain ⟨H4, hb4⟩ := hcut
    clear d0 d1 d2 d3 d4 df dz
    obtain ⟨d0, d1, d2, d3, d4, df, dz⟩ := H4.out.facts
    go_wp2_with (first
      | (go_at_call 38; (with_reducible refine (hZ.out _).mono ?_); rintro x w5 ⟨rfl, hb5⟩; have H5 := Lib.hid (H4.out.later hb5); obtain ⟨f0, f1, f2, f3, f4, ff, fz⟩ := H5.out.facts; have HB5 : Hid (Below w.heap.size w w5) := hb4.trans (hb5.mono hb4.size)))
    refine bodyPost_ret (v := .agg #[.string d, .string t, .string p, .string z, .int .i64 (19 + n + z.size)]) (res_split (((((((H5.out.set3 z).set4 _).set0 _).set1 _).set2 _).set3 _).set4 _) _ rfl) rfl ⟨ret_cut hE.out, ?_⟩
    exact set5 ((HB5.out.setCell (Nat.le_refl _) _).setCell (Nat.le_refl _) _) (Nat.le_refl _) _ _ _ _ _

end Go.Proofs.YtgchhogdbigafaaDoor
