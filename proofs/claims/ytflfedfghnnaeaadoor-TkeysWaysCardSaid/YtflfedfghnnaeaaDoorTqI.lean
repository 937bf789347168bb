/- Walks over package tquotes: Read; no statement of the seat is proved here. -/
import Derived.Test.YtflfedfghnnaeaaDoorTqH
namespace Go.Proofs.YtflfedfghnnaeaaDoor
open Go.RowKit

/-- What a step leaves. -/
def StepPost (R : Nat) (s : ByteArray) (q : Nat) (out : List UInt8) (Pr : Nat → Prop) (w : World) (T : Nat × Nat × List UInt8) (e : Ending) (w' : World) : Prop :=
  To R Pr w w' ∧ ((T.1 = 0 ∧ e = .returned (.tuple #[.bool false, .agg #[.int .i64 0, .int .i64 0]]) ∧ RI w' R s T.2.1 q (out ++ T.2.2) Pr) ∨ (T.1 = 1 ∧ e = .returned (.tuple #[.bool true, .agg #[.int .i64 0, .int .i64 0]]) ∧ RI w' R s T.2.1 q (out ++ T.2.2) Pr) ∨ (T.1 = 2 ∧ e = .returned (.tuple #[.bool false, .agg #[.int .i64 3, .int .i64 (T.2.1 : Int)]])))
/-- The steps of a kind do as the plain words say, as long as the text is read. -/
def StepsAre (fn : FuncId) (R : Nat) (s : ByteArray) (q : Nat) (long : Bool) (w0 : World) (F : Nat) : Prop :=
  ∀ (i : Nat) (out : List UInt8) (w : World), i < s.size → out.length ≤ i → RI w R s i q out (fun k => k = F) → Below w0.heap.size w0 w → Calls Tryd.prog fn #[.agg #[.pointer (some ⟨R, 0, none⟩)]] w (StepPost R s q out (fun k => k = F) w (stepT s.data.toList q long i))
/-- The same at the places of a class. -/
def StepsOn (On : Nat → Prop) (fn : FuncId) (R : Nat) (s : ByteArray) (q : Nat) (long : Bool) (w0 : World) (F : Nat) : Prop :=
  ∀ (i : Nat) (out : List UInt8) (w : World), On i → i < s.size → out.length ≤ i → RI w R s i q out (fun k => k = F) → Below w0.heap.size w0 w → Calls Tryd.prog fn #[.agg #[.pointer (some ⟨R, 0, none⟩)]] w (StepPost R s q out (fun k => k = F) w (stepT s.data.toList q long i))
def RdPost (r : List UInt8 × Int × Int × Int) (w : World) (e : Ending) (w' : World) : Prop :=
  e = .returned (.tuple #[.string ⟨r.1.toArray⟩, .int .i64 r.2.1, .agg #[.int .i64 r.2.2.1, .int .i64 r.2.2.2]]) ∧ Below w.heap.size w w'

theorem meth_basic (a : Addr) (w : World) : (method 239 95 (.agg #[.pointer (some a)]) "inarch/tquotes.step").run Tryd.prog w = .ok (79, .agg #[.pointer (some a)]) w := by kernel_rfl
theorem meth_literal (a : Addr) (w : World) : (method 239 94 (.agg #[.pointer (some a)]) "inarch/tquotes.step").run Tryd.prog w = .ok (76, .agg #[.pointer (some a)]) w := by kernel_rfl
theorem meth_longBasic (a : Addr) (w : World) : (method 239 97 (.agg #[.pointer (some a)]) "inarch/tquotes.step").run Tryd.prog w = .ok (114, .agg #[.pointer (some a)]) w := by kernel_rfl
theorem meth_longLiteral (a : Addr) (w : World) : (method 239 96 (.agg #[.pointer (some a)]) "inarch/tquotes.step").run Tryd.prog w = .ok (111, .agg #[.pointer (some a)]) w := by kernel_rfl

set_option maxRecDepth 100000 in
set_option maxHeartbeats 4000000 in
theorem read_shortOn (On : Nat → Prop) (s : ByteArray) (i : Nat) (hin : i < s.size) (hs : s.size ≤ 1073740000) (q : Nat) (hq : s[i].toNat = q) (hq2 : q = 34) (hl : longT s.data.toList i = false) (hon : On (i + 1)) (hcl : ∀ j p e, On j → j < s.size → stepT s.data.toList q false j = (0, p, e) → On p) (w : World)
    (hst : StepsOn On 79 (w.heap.size + 1) s q false w w.heap.size) :
    Calls Tryd.prog 12 #[.string s, .int .i64 (i : Int)] w (RdPost (rdT s.data.toList q false (i + 1) []) w) := by
  have hF0 := FB.new w 0 0
  have HF0 := Lib.hid hF0; clear hF0
  have hop := Lib.hid (open_short s i hin (by omega) q hq (.inl hq2) hl (fun k => k = w.heap.size) (w.alloc (.cells #[.int .i64 0, .int .i64 0] 33)) (fun k hk => by subst hk; simp))
  have HL := Lib.hid (fun w1 => long_is s i (by omega) (by omega) false hl w1)
  have HS := Lib.hid hst; clear hst hl
  have HON := Lib.hid hon; have HCL := Lib.hid hcl; clear hon hcl
  have hi1 : (i : Int) < s.size := by omega
  have b34 : ((s[i].toNat : Int) != 34) = false := by simp; omega
  have be : ((i : Int) == (s.size : Int)) = false := by simp; omega
  have HQ2 := Lib.hid hq2; clear hq2 hq
  go_enter Tryd.func12, Tryd.ntmps12
  go_wp2_with fail
  refine hop.out.mono ?_
  rintro e w1 ⟨rfl, hR1, hb1⟩
  rw [size_new1] at hR1 hb1
  rw [size_new1, if_pos HQ2.out]
  have HR1 := Lib.hid hR1; clear hR1
  have HF1 := Lib.hid (HF0.out.keep hb1 (by simp))
  have HB1 := Lib.hid ((below_new1 w (.cells #[.int .i64 0, .int .i64 0] 33)).trans (hb1.mono (by omega))); clear hb1
  clear be b34
  go_wp2_with fail
  refine (HL.out _).mono ?_
  rintro e w2 ⟨rfl, rfl⟩
  go_wp2_with fail
  go_loopg [11] (s.size + 13 - (i + 1)) (fun g s11 wr => ∃ (j : Nat) (o : List UInt8), o.length ≤ j ∧ j ≤ s.size + 12 ∧ Hid (g = s.size + 13 - j) ∧ Hid (RI wr (w.heap.size + 1) s j q o (fun k => k = w.heap.size)) ∧ Hid (rdT s.data.toList q false j o = rdT s.data.toList q false (i + 1) []) ∧ Hid (FB wr w.heap.size 0 0) ∧ Hid (Below w.heap.size w wr) ∧ Hid (On j))
  case atStart => exact ⟨i + 1, [], by simp, by omega, rfl, HR1.out, rfl, HF1.out, HB1.out, HON.out⟩
  case round =>
    obtain ⟨j, o, hoj, hj, hg, hR, hrd, hF, hB, hOn⟩ := hrel
    obtain ⟨c0, c1, _, _⟩ := hR.out.cells0
    by_cases hlt : j < s.size
    · obtain ⟨T0, T1, T2, hT⟩ : ∃ T0 T1 T2, stepT s.data.toList q false j = (T0, T1, T2) := ⟨_, _, _, rfl⟩
      have hlj : j < s.data.toList.length := hlt
      have hways := stepT_ways s.data.toList q false j hlj
      rw [hT] at hways
      have hstp := HS.out j o wr hOn.out hlt hoj hR.out hB.out
      rw [hT] at hstp
      have HW := Lib.hid hways; clear hways
      have HT := Lib.hid hT; clear hT
      have HST := Lib.hid hstp; clear hstp
      have hm := meth_basic ⟨w.heap.size + 1, 0, none⟩
      go_wp2_with fail
      refine HST.out.mono ?_
      rintro e w2 ⟨hTo, h⟩
      have hF2 := FB.prot (F := w.heap.size) hF.out hTo.prot rfl
      have HB2 := Lib.hid (hB.out.trans (hTo.below.mono (by omega)))
      have HF2 := Lib.hid hF2; clear hF2 hTo hm
      rcases h with ⟨rfl, rfl, hR2⟩ | ⟨rfl, rfl, hR2⟩ | ⟨rfl, rfl⟩
      · have hlt' : j < T1 ∧ T1 ≤ s.size + 12 ∧ (o ++ T2).length ≤ T1 := by
          have h := HW.out
          have hl : s.data.toList.length = s.size := rfl
          rw [hl] at h
          rw [List.length_append]
          omega
        obtain ⟨k1, k2, k3⟩ := hlt'
        have hrd2 := Lib.hid ((rdT_on (out := o) hlj HT.out k1).symm.trans hrd.out)
        have HR2 := Lib.hid hR2; clear hR2
        have HON2 := Lib.hid (HCL.out j _ _ hOn.out hlj HT.out)
        go_wp2
        go_roundg (s.size + 13 - T1)
        case measure => have := hg.out; omega
        case rel => exact ⟨T1, o ++ T2, k3, k2, rfl, HR2.out.keep (below_new1 w2 _) (Nat.le_refl _), hrd2.out, HF2.out.keep (below_new1 w2 _) (Nat.le_refl _), HB2.out.trans ((below_new1 w2 _).mono HB2.out.size), HON2.out⟩
      · have hres := Lib.hid ((hrd.out.symm.trans (rdT_over (out := o) hlj HT.out)))
        have hR3 := hR2.keep (below_new1 w2 (.cells #[.int .i64 0, .int .i64 0] 33)) (Nat.le_refl _)
        clear hR2 c0 c1
        obtain ⟨A, n, cp, h1, hO, _⟩ := hR3
        have hlt3 := blk_lt h1
        rw [size_new1] at hlt3
        have hRs : w.heap.size + 1 < w2.heap.size ∨ w.heap.size + 1 = w2.heap.size := by omega
        have hn := hO.len
        have e1 : (w2.alloc (.cells #[.int .i64 0, .int .i64 0] 33)).cell? ⟨w.heap.size + 1, 1, none⟩ = some (.int .i64 (T1 : Int)) := blk_cell h1 1
        have e3 : (w2.alloc (.cells #[.int .i64 0, .int .i64 0] 33)).cell? ⟨w.heap.size + 1, 3, none⟩ = some (.slice A n cp) := blk_cell h1 3
        have hcv : ∀ w3 : World, w3 = w2.alloc (.cells #[.int .i64 0, .int .i64 0] 33) → (convert 40 9 (.slice A n cp)).run Tryd.prog w3.drew = .ok (.string ⟨(o ++ T2).toArray⟩) w3.drew := fun w3 hw3 => by
          subst hw3
          have := conv_bs (P := Tryd.prog) (w2.alloc (.cells #[.int .i64 0, .int .i64 0] 33)).drew 40 9 5 Tryd.underlying40 Tryd.underlying5 Tryd.underlying9 (hO.keep (Below.refl _ _).drew (Nat.le_refl _)).bs cp
          rwa [← hn] at this
        have HN := Lib.hid hn; clear hn hO h1
        have hFF := HF2.out.keep (below_new1 w2 (.cells #[.int .i64 0, .int .i64 0] 33)) (Nat.le_refl _)
        have hFf := FB.new w2 0 0
        have hB3 := HB2.out.trans ((below_new1 w2 (.cells #[.int .i64 0, .int .i64 0] 33)).mono HB2.out.size)
        have HCV := Lib.hid hcv; clear hcv
        go_wp2_with fail
        obtain ⟨w3, hw3⟩ : ∃ w3, w3 = w2.alloc (.cells #[.int .i64 0, .int .i64 0] 33) := ⟨_, rfl⟩
        have hcv := HCV.out w3 hw3
        rw [← hw3] at e1 e3 hFF hFf hB3 ⊢
        clear hw3 HCV
        obtain ⟨f0, f1, g0, g1, hltF⟩ := hFF.cells
        obtain ⟨k0, k1, _, _, _⟩ := hFf.cells
        have HB3 := Lib.hid hB3; clear hB3 hFF hFf
        go_region
        all_goals (
          go_wp2
          refine bodyPost_ret (v := .tuple #[.string ⟨(o ++ T2).toArray⟩, .int .i64 (T1 : Int), .agg #[.int .i64 0, .int .i64 0]]) (by simp [results, Tryd.results12, go_sem, f0, f1]) rfl ?_
          rw [hres.out]
          exact ⟨rfl, ((HB3.out.setCell (p := ⟨w.heap.size, 0, none⟩) (Nat.le_refl _) _).setCell (p := ⟨w.heap.size, 1, none⟩) (Nat.le_refl _) _).drew⟩)
      · have hres := Lib.hid ((hrd.out.symm.trans (rdT_bad (out := o) hlj HT.out)))
        clear c0 c1
        have hFF := HF2.out.keep (below_new1 w2 (.cells #[.int .i64 3, .int .i64 (T1 : Int)] 33)) (Nat.le_refl _)
        have hFf := FB.new w2 3 (T1 : Int)
        have hB3 := HB2.out.trans ((below_new1 w2 (.cells #[.int .i64 3, .int .i64 (T1 : Int)] 33)).mono HB2.out.size)
        go_wp2_with fail
        obtain ⟨w3, hw3⟩ : ∃ w3, w3 = w2.alloc (.cells #[.int .i64 3, .int .i64 (T1 : Int)] 33) := ⟨_, rfl⟩
        rw [← hw3] at hFF hFf hB3 ⊢
        clear hw3
        obtain ⟨f0, f1, g0, g1, hltF⟩ := hFF.cells
        obtain ⟨k0, k1, _, _, _⟩ := hFf.cells
        have HB3 := Lib.hid hB3; clear hB3 hFF hFf
        go_region
        all_goals (
          go_wp2
          refine bodyPost_ret (v := .tuple #[.string ⟨#[]⟩, .int .i64 0, .agg #[.int .i64 3, .int .i64 (T1 : Int)]]) (by simp [results, Tryd.results12, go_sem, f0, f1]) rfl ?_
          rw [hres.out]
          exact ⟨rfl, ((HB3.out.setCell (p := ⟨w.heap.size, 0, none⟩) (Nat.le_refl _) _).setCell (p := ⟨w.heap.size, 1, none⟩) (Nat.le_refl _) _).drew⟩)
    · have hres := Lib.hid (hrd.out.symm.trans (rdT_end (l := s.data.toList) (q := q) (long := false) (out := o) (by have h : s.data.toList.length = s.size := rfl; omega : s.data.toList.length ≤ j)))
      go_wp2_with fail
      refine (wrong_any _ _).mono ?_
      rintro e w3 ⟨rfl, hb3⟩
      have hF3 := hF.out.keep hb3 (Nat.le_refl _)
      obtain ⟨f0, f1, g0, g1, hlt3⟩ := hF3.cells
      go_wp2
      refine bodyPost_ret (v := .tuple #[.string ⟨#[]⟩, .int .i64 0, .agg #[.int .i64 3, .int .i64 (s.size : Int)]]) (by simp [results, Tryd.results12, go_sem, f0, f1]) rfl ?_
      rw [hres.out]
      exact ⟨rfl, ((hB.out.trans (hb3.mono hB.out.size)).setCell (p := ⟨w.heap.size, 0, none⟩) (Nat.le_refl _) _).setCell (p := ⟨w.heap.size, 1, none⟩) (Nat.le_refl _) _⟩
theorem read_short (s : ByteArray) (i : Nat) (hin : i < s.size) (hs : s.size ≤ 1073740000) (q : Nat) (hq : s[i].toNat = q) (hq2 : q = 34) (hl : longT s.data.toList i = false) (w : World)
    (hst : StepsAre 79 (w.heap.size + 1) s q false w w.heap.size) :
    Calls Tryd.prog 12 #[.string s, .int .i64 (i : Int)] w (RdPost (rdT s.data.toList q false (i + 1) []) w) :=
  read_shortOn (fun _ => True) s i hin hs q hq hq2 hl trivial (fun _ _ _ _ _ _ => trivial) w (fun i out w _ => hst i out w)

end Go.Proofs.YtflfedfghnnaeaaDoor
