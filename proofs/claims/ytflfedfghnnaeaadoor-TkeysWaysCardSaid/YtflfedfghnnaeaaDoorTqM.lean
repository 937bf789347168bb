/- Walks over package tquotes: Read of a literal string, and of a long basic one; no statement of the seat is proved here. -/
import Derived.Test.YtflfedfghnnaeaaDoorTqK
namespace Go.Proofs.YtflfedfghnnaeaaDoor
open Go.RowKit

set_option maxRecDepth 100000 in
set_option maxHeartbeats 4000000 in
theorem read_literal (s : ByteArray) (i : Nat) (hin : i < s.size) (hs : s.size ≤ 1073740000) (q : Nat) (hq : s[i].toNat = q) (hq2 : q = 39) (hl : longT s.data.toList i = false) (w : World)
    (hst : StepsAre 76 (w.heap.size + 1) s q false w w.heap.size) :
    Calls Tryd.prog 12 #[.string s, .int .i64 (i : Int)] w (RdPost (rdT s.data.toList q false (i + 1) []) w) := by
  have hF0 := FB.new w 0 0
  have HF0 := Lib.hid hF0; clear hF0
  have hop := Lib.hid (open_short s i hin (by omega) q hq (.inr hq2) hl (fun k => k = w.heap.size) (w.alloc (.cells #[.int .i64 0, .int .i64 0] 33)) (fun k hk => by subst hk; simp))
  have HL := Lib.hid (fun w1 => long_is s i (by omega) (by omega) false hl w1)
  have HS := Lib.hid hst; clear hst hl
  have hi1 : (i : Int) < s.size := by omega
  have b34 : ((s[i].toNat : Int) != 34) = true := by simp; omega
  have b39 : ((s[i].toNat : Int) != 39) = false := by simp; omega
  have be : ((i : Int) == (s.size : Int)) = false := by simp; omega
  have HQ2 := Lib.hid hq2; clear hq2 hq
  go_enter Tryd.func12, Tryd.ntmps12
  go_wp2_with fail
  refine hop.out.mono ?_
  rintro e w1 ⟨rfl, hR1, hb1⟩
  rw [size_new1] at hR1 hb1
  rw [size_new1, if_neg (by rw [HQ2.out]; decide)]
  have HR1 := Lib.hid hR1; clear hR1
  have HF1 := Lib.hid (HF0.out.keep hb1 (by simp))
  have HB1 := Lib.hid ((below_new1 w (.cells #[.int .i64 0, .int .i64 0] 33)).trans (hb1.mono (by omega))); clear hb1
  clear be b34 b39
  go_wp2_with fail
  refine (HL.out _).mono ?_
  rintro e w2 ⟨rfl, rfl⟩
  go_wp2_with fail
  go_loopg [11] (s.size + 13 - (i + 1)) (fun g s11 wr => ∃ (j : Nat) (o : List UInt8), o.length ≤ j ∧ j ≤ s.size + 12 ∧ Hid (g = s.size + 13 - j) ∧ Hid (RI wr (w.heap.size + 1) s j q o (fun k => k = w.heap.size)) ∧ Hid (rdT s.data.toList q false j o = rdT s.data.toList q false (i + 1) []) ∧ Hid (FB wr w.heap.size 0 0) ∧ Hid (Below w.heap.size w wr))
  case atStart => exact ⟨i + 1, [], by simp, by omega, rfl, HR1.out, rfl, HF1.out, HB1.out⟩
  case round =>
    obtain ⟨j, o, hoj, hj, hg, hR, hrd, hF, hB⟩ := hrel
    obtain ⟨c0, c1, _, _⟩ := hR.out.cells0
    by_cases hlt : j < s.size
    · obtain ⟨T0, T1, T2, hT⟩ : ∃ T0 T1 T2, stepT s.data.toList q false j = (T0, T1, T2) := ⟨_, _, _, rfl⟩
      have hlj : j < s.data.toList.length := hlt
      have hways := stepT_ways s.data.toList q false j hlj
      rw [hT] at hways
      have hstp := HS.out j o wr hlt hoj hR.out hB.out
      rw [hT] at hstp
      have HW := Lib.hid hways; clear hways
      have HT := Lib.hid hT; clear hT
      have HST := Lib.hid hstp; clear hstp
      have hm := meth_literal ⟨w.heap.size + 1, 0, none⟩
      go_wp2_with fail
      refine HST.out.mono ?_
      rintro e w2 ⟨hTo, h⟩
      have hF2 := FB.prot (F := w.heap.size) hF.out hTo.prot rfl
      have HB2 := Lib.hid (hB.out.trans (hTo.below.mono (by omega)))
      have HF2 := Lib.hid hF2; clear hF2 hTo hm
      rcases h with ⟨rfl, rfl, hR2⟩ | ⟨rfl, rfl, hR2⟩ | ⟨rfl, rfl⟩
      · have hlt' : j < T1 ∧ T1 ≤ s.size + 12 ∧ (o ++ T2).length ≤ T1 := by
          have h := HW.out
          have hl : s.data.toList.length = s.size := rfl
          rw [hl] at h
          rw [List.length_append]
          omega
        obtain ⟨k1, k2, k3⟩ := hlt'
        have hrd2 := Lib.hid ((rdT_on (out := o) hlj HT.out k1).symm.trans hrd.out)
        have HR2 := Lib.hid hR2; clear hR2
        go_wp2
        go_roundg (s.size + 13 - T1)
        case measure => have := hg.out; omega
        case rel => exact ⟨T1, o ++ T2, k3, k2, rfl, HR2.out.keep (below_new1 w2 _) (Nat.le_refl _), hrd2.out, HF2.out.keep (below_new1 w2 _) (Nat.le_refl _), HB2.out.trans ((below_new1 w2 _).mono HB2.out.size)⟩
      · have hres := Lib.hid ((hrd.out.symm.trans (rdT_over (out := o) hlj HT.out)))
        have hR3 := hR2.keep (below_new1 w2 (.cells #[.int .i64 0, .int .i64 0] 33)) (Nat.le_refl _)
        clear hR2 c0 c1
        obtain ⟨A, n, cp, h1, hO, _⟩ := hR3
        have hlt3 := blk_lt h1
        rw [size_new1] at hlt3
        have hRs : w.heap.size + 1 < w2.heap.size ∨ w.heap.size + 1 = w2.heap.size := by omega
        have hn := hO.len
        have e1 : (w2.alloc (.cells #[.int .i64 0, .int .i64 0] 33)).cell? ⟨w.heap.size + 1, 1, none⟩ = some (.int .i64 (T1 : Int)) := blk_cell h1 1
        have e3 : (w2.alloc (.cells #[.int .i64 0, .int .i64 0] 33)).cell? ⟨w.heap.size + 1, 3, none⟩ = some (.slice A n cp) := blk_cell h1 3
        have hcv : ∀ w3 : World, w3 = w2.alloc (.cells #[.int .i64 0, .int .i64 0] 33) → (convert 40 9 (.slice A n cp)).run Tryd.prog w3.drew = .ok (.string ⟨(o ++ T2).toArray⟩) w3.drew := fun w3 hw3 => by
          subst hw3
          have := conv_bs (P := Tryd.prog) (w2.alloc (.cells #[.int .i64 0, .int .i64 0] 33)).drew 40 9 5 Tryd.underlying40 Tryd.underlying5 Tryd.underlying9 (hO.keep (Below.refl _ _).drew (Nat.le_refl _)).bs cp
          rwa [← hn] at this
        have HN := Lib.hid hn; clear hn hO h1
        have hFF := HF2.out.keep (below_new1 w2 (.cells #[.int .i64 0, .int .i64 0] 33)) (Nat.le_refl _)
        have hFf := FB.new w2 0 0
        have hB3 := HB2.out.trans ((below_new1 w2 (.cells #[.int .i64 0, .int .i64 0] 33)).mono HB2.out.size)
        have HCV := Lib.hid hcv; clear hcv
        go_wp2_with fail
        obtain ⟨w3, hw3⟩ : ∃ w3, w3 = w2.alloc (.cells #[.int .i64 0, .int .i64 0] 33) := ⟨_, rfl⟩
        have hcv := HCV.out w3 hw3
        rw [← hw3] at e1 e3 hFF hFf hB3 ⊢
        clear hw3 HCV
        obtain ⟨f0, f1, g0, g1, hltF⟩ := hFF.cells
        obtain ⟨k0, k1, _, _, _⟩ := hFf.cells
        have HB3 := Lib.hid hB3; clear hB3 hFF hFf
        go_region
        all_goals (
          go_wp2
          refine bodyPost_ret (v := .tuple #[.string ⟨(o ++ T2).toArray⟩, .int .i64 (T1 : Int), .agg #[.int .i64 0, .int .i64 0]]) (by simp [results, Tryd.results12, go_sem, f0, f1]) rfl ?_
          rw [hres.out]
          exact ⟨rfl, ((HB3.out.setCell (p := ⟨w.heap.size, 0, none⟩) (Nat.le_refl _) _).setCell (p := ⟨w.heap.size, 1, none⟩) (Nat.le_refl _) _).drew⟩)
      · have hres := Lib.hid ((hrd.out.symm.trans (rdT_bad (out := o) hlj HT.out)))
        clear c0 c1
        have hFF := HF2.out.keep (below_new1 w2 (.cells #[.int .i64 3, .int .i64 (T1 : Int)] 33)) (Nat.le_refl _)
        have hFf := FB.new w2 3 (T1 : Int)
        have hB3 := HB2.out.trans ((below_new1 w2 (.cells #[.int .i64 3, .int .i64 (T1 : Int)] 33)).mono HB2.out.size)
        go_wp2_with fail
        obtain ⟨w3, hw3⟩ : ∃ w3, w3 = w2.alloc (.cells #[.int .i64 3, .int .i64 (T1 : Int)] 33) := ⟨_, rfl⟩
        rw [← hw3] at hFF hFf hB3 ⊢
        clear hw3
        obtain ⟨f0, f1, g0, g1, hltF⟩ := hFF.cells
        obtain ⟨k0, k1, _, _, _⟩ := hFf.cells
        have HB3 := Lib.hid hB3; clear hB3 hFF hFf
        go_region
        all_goals (
          go_wp2
          refine bodyPost_ret (v := .tuple #[.string ⟨#[]⟩, .int .i64 0, .agg #[.int .i64 3, .int .i64 (T1 : Int)]]) (by simp [results, Tryd.results12, go_sem, f0, f1]) rfl ?_
          rw [hres.out]
          exact ⟨rfl, ((HB3.out.setCell (p := ⟨w.heap.size, 0, none⟩) (Nat.le_refl _) _).setCell (p := ⟨w.heap.size, 1, none⟩) (Nat.le_refl _) _).drew⟩)
    · have hres := Lib.hid (hrd.out.symm.trans (rdT_end (l := s.data.toList) (q := q) (long := false) (out := o) (by have h : s.data.toList.length = s.size := rfl; omega : s.data.toList.length ≤ j)))
      go_wp2_with fail
      refine (wrong_any _ _).mono ?_
      rintro e w3 ⟨rfl, hb3⟩
      have hF3 := hF.out.keep hb3 (Nat.le_refl _)
      obtain ⟨f0, f1, g0, g1, hlt3⟩ := hF3.cells
      go_wp2
      refine bodyPost_ret (v := .tuple #[.string ⟨#[]⟩, .int .i64 0, .agg #[.int .i64 3, .int .i64 (s.size : Int)]]) (by simp [results, Tryd.results12, go_sem, f0, f1]) rfl ?_
      rw [hres.out]
      exact ⟨rfl, ((hB.out.trans (hb3.mono hB.out.size)).setCell (p := ⟨w.heap.size, 0, none⟩) (Nat.le_refl _) _).setCell (p := ⟨w.heap.size, 1, none⟩) (Nat.le_refl _) _⟩


set_option maxRecDepth 100000 in
set_option maxHeartbeats 4000000 in
theorem read_long (s : ByteArray) (i : Nat) (hin : i < s.size) (hs : s.size ≤ 1073740000) (q : Nat) (hq : s[i].toNat = q) (hq2 : q = 34) (hl : longT s.data.toList i = true) (h3 : i + 3 < s.size ∧ feedT s.data.toList (i + 3) = (0, -1)) (w : World)
    (hst : StepsAre 114 (w.heap.size + 1) s q true w w.heap.size) :
    Calls Tryd.prog 12 #[.string s, .int .i64 (i : Int)] w (RdPost (rdT s.data.toList q true (i + 3) []) w) := by
  have hF0 := FB.new w 0 0
  have HF0 := Lib.hid hF0; clear hF0
  have hop := Lib.hid (open_long s i hin (by omega) q hq (.inl hq2) hl (fun k => k = w.heap.size) (w.alloc (.cells #[.int .i64 0, .int .i64 0] 33)) (fun k hk => by subst hk; simp))
  have HL := Lib.hid (fun w1 => long_is s i (by omega) (by omega) true hl w1)
  have HS := Lib.hid hst; clear hst hl
  have hi1 : (i : Int) < s.size := by omega
  have b34 : ((s[i].toNat : Int) != 34) = false := by simp; omega
  have be : ((i : Int) == (s.size : Int)) = false := by simp; omega
  have HQ2 := Lib.hid hq2; clear hq2 hq
  go_enter Tryd.func12, Tryd.ntmps12
  go_wp2_with fail
  refine hop.out.mono ?_
  rintro e w1 ⟨rfl, hR1, hb1⟩
  rw [size_new1] at hR1 hb1
  rw [size_new1, if_pos HQ2.out]
  have HR1 := Lib.hid hR1; clear hR1
  have HF1 := Lib.hid (HF0.out.keep hb1 (by simp))
  have HB1 := Lib.hid ((below_new1 w (.cells #[.int .i64 0, .int .i64 0] 33)).trans (hb1.mono (by omega))); clear hb1
  clear be b34
  obtain ⟨h3a, h3b⟩ := h3
  have HFD := Lib.hid (fun w1 (h : RI w1 (w.heap.size + 1) s (i + 3) q [] (fun k => k = w.heap.size)) => feed_is (w.heap.size + 1) s (i + 3) q [] _ w1 h h3a (by omega) 0 (-1) h3b)
  clear h3b
  obtain ⟨_, c1, _, _⟩ := HR1.out.cells0
  have h3I : ((i + 3 : Nat) : Int) < (s.size : Int) := by omega
  have h3I' : (i : Int) + 3 < (s.size : Int) := by omega
  go_wp2_with fail
  refine (HL.out _).mono ?_
  rintro e w2 ⟨rfl, rfl⟩
  go_wp2_with fail
  refine (HFD.out _ HR1.out).mono ?_
  rintro e w3 ⟨rfl, hR3, hT3⟩
  clear c1
  have hF3 := FB.prot (F := w.heap.size) HF1.out hT3.prot rfl
  have hB3 := HB1.out.trans (hT3.below.mono (by omega))
  have hFf := FB.new w3 0 0
  have hR4 := hR3.keep (below_new1 w3 (.cells #[.int .i64 0, .int .i64 0] 33)) (Nat.le_refl _)
  have hF4 := hF3.keep (below_new1 w3 (.cells #[.int .i64 0, .int .i64 0] 33)) (Nat.le_refl _)
  have hB4 := hB3.trans ((below_new1 w3 (.cells #[.int .i64 0, .int .i64 0] 33)).mono hB3.size)
  clear hR3 hT3 hF3 hB3
  obtain ⟨k0, k1, _, _, _⟩ := hFf.cells
  obtain ⟨_, d1, _, dz⟩ := hR4.cells0
  have dlt := hR4.lt
  rw [size_new1] at dlt
  have HR4 := Lib.hid (hR4.setAt (i + 3) (.int .i64 ((i : Int) + 3)) (by go_num))
  have HF4 : Hid (FB ((w3.alloc (.cells #[.int .i64 0, .int .i64 0] 33)).setCell ⟨w.heap.size + 1, 1, none⟩ (.int .i64 ((i : Int) + 3))) w.heap.size 0 0) := (Below.heap_setCell _ ⟨w.heap.size + 1, 1, none⟩ _ w.heap.size (by show w.heap.size ≠ w.heap.size + 1; omega)).trans hF4
  have HB4 := Lib.hid (hB4.setCell (p := ⟨w.heap.size + 1, 1, none⟩) (by show w.heap.size ≤ w.heap.size + 1; omega) (.int .i64 ((i : Int) + 3)))
  clear hR4 hF4 hB4 hFf h3I h3I'
  go_wp2_with fail
  clear k0 k1 d1 dz dlt
  go_loopg [11] (s.size + 13 - (i + 3)) (fun g s11 wr => ∃ (j : Nat) (o : List UInt8), o.length ≤ j ∧ j ≤ s.size + 12 ∧ Hid (g = s.size + 13 - j) ∧ Hid (RI wr (w.heap.size + 1) s j q o (fun k => k = w.heap.size)) ∧ Hid (rdT s.data.toList q true j o = rdT s.data.toList q true (i + 3) []) ∧ Hid (FB wr w.heap.size 0 0) ∧ Hid (Below w.heap.size w wr))
  case atStart => exact ⟨i + 3, [], by simp, by omega, rfl, HR4.out, rfl, HF4.out, HB4.out⟩
  case round =>
    obtain ⟨j, o, hoj, hj, hg, hR, hrd, hF, hB⟩ := hrel
    obtain ⟨c0, c1, _, _⟩ := hR.out.cells0
    by_cases hlt : j < s.size
    · obtain ⟨T0, T1, T2, hT⟩ : ∃ T0 T1 T2, stepT s.data.toList q true j = (T0, T1, T2) := ⟨_, _, _, rfl⟩
      have hlj : j < s.data.toList.length := hlt
      have hways := stepT_ways s.data.toList q true j hlj
      rw [hT] at hways
      have hstp := HS.out j o wr hlt hoj hR.out hB.out
      rw [hT] at hstp
      have HW := Lib.hid hways; clear hways
      have HT := Lib.hid hT; clear hT
      have HST := Lib.hid hstp; clear hstp
      have hm := meth_longBasic ⟨w.heap.size + 1, 0, none⟩
      go_wp2_with fail
      refine HST.out.mono ?_
      rintro e w2 ⟨hTo, h⟩
      have hF2 := FB.prot (F := w.heap.size) hF.out hTo.prot rfl
      have HB2 := Lib.hid (hB.out.trans (hTo.below.mono (by omega)))
      have HF2 := Lib.hid hF2; clear hF2 hTo hm
      rcases h with ⟨rfl, rfl, hR2⟩ | ⟨rfl, rfl, hR2⟩ | ⟨rfl, rfl⟩
      · have hlt' : j < T1 ∧ T1 ≤ s.size + 12 ∧ (o ++ T2).length ≤ T1 := by
          have h := HW.out
          have hl : s.data.toList.length = s.size := rfl
          rw [hl] at h
          rw [List.length_append]
          omega
        obtain ⟨k1, k2, k3⟩ := hlt'
        have hrd2 := Lib.hid ((rdT_on (out := o) hlj HT.out k1).symm.trans hrd.out)
        have HR2 := Lib.hid hR2; clear hR2
        go_wp2
        go_roundg (s.size + 13 - T1)
        case measure => have := hg.out; omega
        case rel => exact ⟨T1, o ++ T2, k3, k2, rfl, HR2.out.keep (below_new1 w2 _) (Nat.le_refl _), hrd2.out, HF2.out.keep (below_new1 w2 _) (Nat.le_refl _), HB2.out.trans ((below_new1 w2 _).mono HB2.out.size)⟩
      · have hres := Lib.hid ((hrd.out.symm.trans (rdT_over (out := o) hlj HT.out)))
        have hR3 := hR2.keep (below_new1 w2 (.cells #[.int .i64 0, .int .i64 0] 33)) (Nat.le_refl _)
        clear hR2 c0 c1
        obtain ⟨A, n, cp, h1, hO, _⟩ := hR3
        have hlt3 := blk_lt h1
        rw [size_new1] at hlt3
        have hRs : w.heap.size + 1 < w2.heap.size ∨ w.heap.size + 1 = w2.heap.size := by omega
        have hn := hO.len
        have e1 : (w2.alloc (.cells #[.int .i64 0, .int .i64 0] 33)).cell? ⟨w.heap.size + 1, 1, none⟩ = some (.int .i64 (T1 : Int)) := blk_cell h1 1
        have e3 : (w2.alloc (.cells #[.int .i64 0, .int .i64 0] 33)).cell? ⟨w.heap.size + 1, 3, none⟩ = some (.slice A n cp) := blk_cell h1 3
        have hcv : ∀ w3 : World, w3 = w2.alloc (.cells #[.int .i64 0, .int .i64 0] 33) → (convert 40 9 (.slice A n cp)).run Tryd.prog w3.drew = .ok (.string ⟨(o ++ T2).toArray⟩) w3.drew := fun w3 hw3 => by
          subst hw3
          have := conv_bs (P := Tryd.prog) (w2.alloc (.cells #[.int .i64 0, .int .i64 0] 33)).drew 40 9 5 Tryd.underlying40 Tryd.underlying5 Tryd.underlying9 (hO.keep (Below.refl _ _).drew (Nat.le_refl _)).bs cp
          rwa [← hn] at this
        have HN := Lib.hid hn; clear hn hO h1
        have hFF := HF2.out.keep (below_new1 w2 (.cells #[.int .i64 0, .int .i64 0] 33)) (Nat.le_refl _)
        have hFf := FB.new w2 0 0
        have hB3 := HB2.out.trans ((below_new1 w2 (.cells #[.int .i64 0, .int .i64 0] 33)).mono HB2.out.size)
        have HCV := Lib.hid hcv; clear hcv
        go_wp2_with fail
        obtain ⟨w3, hw3⟩ : ∃ w3, w3 = w2.alloc (.cells #[.int .i64 0, .int .i64 0] 33) := ⟨_, rfl⟩
        have hcv := HCV.out w3 hw3
        rw [← hw3] at e1 e3 hFF hFf hB3 ⊢
        clear hw3 HCV
        obtain ⟨f0, f1, g0, g1, hltF⟩ := hFF.cells
        obtain ⟨k0, k1, _, _, _⟩ := hFf.cells
        have HB3 := Lib.hid hB3; clear hB3 hFF hFf
        go_region
        all_goals (
          go_wp2
          refine bodyPost_ret (v := .tuple #[.string ⟨(o ++ T2).toArray⟩, .int .i64 (T1 : Int), .agg #[.int .i64 0, .int .i64 0]]) (by simp [results, Tryd.results12, go_sem, f0, f1]) rfl ?_
          rw [hres.out]
          exact ⟨rfl, ((HB3.out.setCell (p := ⟨w.heap.size, 0, none⟩) (Nat.le_refl _) _).setCell (p := ⟨w.heap.size, 1, none⟩) (Nat.le_refl _) _).drew⟩)
      · have hres := Lib.hid ((hrd.out.symm.trans (rdT_bad (out := o) hlj HT.out)))
        clear c0 c1
        have hFF := HF2.out.keep (below_new1 w2 (.cells #[.int .i64 3, .int .i64 (T1 : Int)] 33)) (Nat.le_refl _)
        have hFf := FB.new w2 3 (T1 : Int)
        have hB3 := HB2.out.trans ((below_new1 w2 (.cells #[.int .i64 3, .int .i64 (T1 : Int)] 33)).mono HB2.out.size)
        go_wp2_with fail
        obtain ⟨w3, hw3⟩ : ∃ w3, w3 = w2.alloc (.cells #[.int .i64 3, .int .i64 (T1 : Int)] 33) := ⟨_, rfl⟩
        rw [← hw3] at hFF hFf hB3 ⊢
        clear hw3
        obtain ⟨f0, f1, g0, g1, hltF⟩ := hFF.cells
        obtain ⟨k0, k1, _, _, _⟩ := hFf.cells
        have HB3 := Lib.hid hB3; clear hB3 hFF hFf
        go_region
        all_goals (
          go_wp2
          refine bodyPost_ret (v := .tuple #[.string ⟨#[]⟩, .int .i64 0, .agg #[.int .i64 3, .int .i64 (T1 : Int)]]) (by simp [results, Tryd.results12, go_sem, f0, f1]) rfl ?_
          rw [hres.out]
          exact ⟨rfl, ((HB3.out.setCell (p := ⟨w.heap.size, 0, none⟩) (Nat.le_refl _) _).setCell (p := ⟨w.heap.size, 1, none⟩) (Nat.le_refl _) _).drew⟩)
    · have hres := Lib.hid (hrd.out.symm.trans (rdT_end (l := s.data.toList) (q := q) (long := true) (out := o) (by have h : s.data.toList.length = s.size := rfl; omega : s.data.toList.length ≤ j)))
      go_wp2_with fail
      refine (wrong_any _ _).mono ?_
      rintro e w3 ⟨rfl, hb3⟩
      have hF3 := hF.out.keep hb3 (Nat.le_refl _)
      obtain ⟨f0, f1, g0, g1, hlt3⟩ := hF3.cells
      go_wp2
      refine bodyPost_ret (v := .tuple #[.string ⟨#[]⟩, .int .i64 0, .agg #[.int .i64 3, .int .i64 (s.size : Int)]]) (by simp [results, Tryd.results12, go_sem, f0, f1]) rfl ?_
      rw [hres.out]
      exact ⟨rfl, ((hB.out.trans (hb3.mono hB.out.size)).setCell (p := ⟨w.heap.size, 0, none⟩) (Nat.le_refl _) _).setCell (p := ⟨w.heap.size, 1, none⟩) (Nat.le_refl _) _⟩

end Go.Proofs.YtflfedfghnnaeaaDoor
