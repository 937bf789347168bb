/- The walk of the law JtokensRead; no statement of the seat is proved here. -/
import Derived.Test.YtjiejpjdbimjkaaJtRefH
import Derived.Test.YtjiejpjdbimjkaaJtL
import Derived.Test.YtjiejpjdbimjkaaRow
namespace Go.Proofs.Ytjiejpjdbimjkaa
open Go.RowKit

theorem readM_len1 (l : List UInt8) : (readM l 0).1.length ≤ l.length := by
  rcases cov_len (cov_all l 0 (by omega) (-1) (fun h => ⟨fun h => by omega, fun h => by omega⟩)) with h | h
  · omega
  · rw [h]; simp
theorem readM_kinds (l : List UInt8) (k : Nat) (_hk : k ≤ l.length) : ∀ t ∈ (readM l k).1, 0 ≤ t.kind ∧ t.kind ≤ 255 := by
  by_cases hlt : k < l.length
  · rcases (nextM_at hlt).cases with ⟨kd, e, h0, h4, ht, he, hel⟩ | ⟨e, ht, he, hel⟩
    · rw [readM_tok hlt he ht]
      intro t htm
      rcases List.mem_cons.1 htm with rfl | htm
      · simp; omega
      · exact readM_kinds l e hel t htm
    · rw [readM_err hlt ht]; intro t h; simp at h
  · rw [readM_end hlt]; intro t h; simp at h
termination_by l.length - k
theorem nextM_kind (l : List UInt8) (i : Int) : 0 ≤ (nextM l i).kind ∧ (nextM l i).kind ≤ 255 := by
  by_cases h : 0 ≤ i ∧ i.toNat < l.length
  · obtain ⟨k, rfl⟩ := Int.eq_ofNat_of_zero_le h.1
    rcases (nextM_at (by simpa using h.2)).cases with ⟨kd, e, h0, h4, ht, he, hel⟩ | ⟨e, ht, he, hel⟩
    · rw [ht]; simp; omega
    · rw [ht]; simp
  · rw [nextM, dif_neg h]; simp [tokErr]

theorem read_at (l : List UInt8) {R : List TokF × Int × Int} (h : readM l 0 = R) (A : Option Addr) (c : Nat) (hc : l.length ≤ c) (hl : l.length ≤ 16777216) (w : World) (hB : BS w w.heap.size A l) :
    Calls Try.prog 8 #[.slice A l.length c] w fun e w' => ∃ A', e = .returned (.tuple #[.slice A' R.1.length R.1.length, .agg #[.int .i64 R.2.1, .int .i64 R.2.2]]) ∧ OwnS w' w.heap.size 36 3 A' R.1.length (tokCells R.1) ∧ Below w.heap.size w w' := by
  subst h
  exact read_any A l c hc hl w hB
theorem rread_at (l : List UInt8) {R : List TokF × Int × Int} (h : readM l 0 = R) (A : Option Addr) (c : Nat) (hc : l.length ≤ c) (hl : l.length ≤ 16777216) (w : World) (hB : BS w w.heap.size A l) :
    Calls Try.prog 9 #[.slice A l.length c] w fun e w' => ∃ A' c', R.1.length ≤ c' ∧ e = .returned (.tuple #[.slice A' R.1.length c', .agg #[.int .i64 R.2.1, .int .i64 R.2.2]]) ∧ OwnS w' w.heap.size 40 3 A' R.1.length (rtokCells R.1) ∧ Below w.heap.size w w' := by
  subst h
  exact rread_any A l c hc hl w hB
theorem next_at (l : List UInt8) (i : Int) {kd f e co at_ : Int} (h : nextM l i = ⟨kd, f, e, co, at_⟩) (A : Option Addr) (c : Nat) (hc : l.length ≤ c) (hl : l.length ≤ 16777216) (w : World) (hB : BS w w.heap.size A l) :
    Calls Try.prog 10 #[.slice A l.length c, .int .i64 i] w fun r w' => r = .returned (.tuple #[.agg #[.int .u8 kd, .int .i64 f, .int .i64 e], .agg #[.int .i64 co, .int .i64 at_]]) ∧ Below w.heap.size w w' := by
  have := next_any A l c hc i (by omega) w hB
  rw [h] at this
  exact this
theorem rnext_at (l : List UInt8) (i : Int) {kd f e co at_ : Int} (h : nextM l i = ⟨kd, f, e, co, at_⟩) (A : Option Addr) (c : Nat) (hc : l.length ≤ c) (hl : l.length ≤ 16777216) (w : World) (hB : BS w w.heap.size A l) :
    Calls Try.prog 11 #[.slice A l.length c, .int .i64 i] w fun r w' => r = .returned (.tuple #[.agg #[.int .i64 kd, .int .i64 f, .int .i64 e], .agg #[.int .i64 co, .int .i64 at_]]) ∧ Below w.heap.size w w' := by
  have := rnext_any A l c hc i (by omega) w hB
  rw [h] at this
  exact this

theorem OwnS.put_ {w : World} {base : Nat} {e : TypeId} {size g : Nat} {n : Nat} {xs : List Value} (h : OwnS w base e size (some ⟨g, 0, none⟩) n xs) (j : Nat) (u : Value) : ∃ xs', OwnS (w.setCell ⟨g, j, none⟩ u) base e size (some ⟨g, 0, none⟩) n xs' := by
  by_cases hn : 0 < n
  · obtain ⟨g', cur, hA, hg, hh, h4⟩ := h.at_ hn
    cases hA
    refine ⟨(cur.setIfInBounds j u).toList.take (n * size), ?_, fun _ => ⟨g, cur.setIfInBounds j u, rfl, hg, ?_, rfl⟩⟩
    · have := h.len; rw [← h4] at this; simp at this ⊢; omega
    · simp [World.setCell, Array.getElem?_modify, hh]
  · have h0 : n = 0 := by omega
    subst h0
    exact ⟨[], OwnS.nil _ _ _ _ _⟩

set_option maxRecDepth 100000 in
set_option maxHeartbeats 2000000 in
theorem readlaw_walk (A : Option Addr) (l : List UInt8) (c : Nat) (hlc : l.length ≤ c) (i : Int) (w : World) (hB : BS w w.heap.size A l) :
    Calls Try.prog 3 #[.slice A l.length c, .int .i64 i] w fun e w' => e = .returned (.bool true) ∧ Below w.heap.size w w' := by
  have HB := Lib.hid hB; clear hB
  by_cases hbig : 5000 < l.length
  · go_enter Try.func3, Try.ntmps3
    go_wp2_with (go_at_call 6; refine (lives_any _).mono ?_; rintro e w1 ⟨rfl, hb1⟩)
    go_ret
    exact ⟨rfl, hb1⟩
  · obtain ⟨ts, co, fa, hR⟩ : ∃ ts co fa, Hid (readM l 0 = (ts, co, fa)) := ⟨(readM l 0).1, (readM l 0).2.1, (readM l 0).2.2, rfl⟩
    obtain ⟨kd, f, e, co2, fa2, hX⟩ : ∃ kd f e co2 fa2, Hid (nextM l i = ⟨kd, f, e, co2, fa2⟩) := ⟨_, _, _, _, _, rfl⟩
    have hts : ts.length ≤ 5000 := by have := readM_len1 l; rw [hR.out] at this; dsimp only at this; omega
    have hkinds := readM_kinds l 0 (by omega)
    rw [hR.out] at hkinds
    dsimp only at hkinds
    have HK := Lib.hid hkinds; clear hkinds
    have hkd := nextM_kind l i
    rw [hX.out] at hkd
    dsimp only at hkd
    go_enter Try.func3, Try.ntmps3
    go_upto_region 4 with (go_at_call 7; refine (twin_any _ l c hlc (by omega) _ HB.out).mono ?_; rintro x w0 ⟨rfl, hT, hb0⟩)
    have HT := Lib.hid hT; clear hT
    go_upto_region 5 with (go_at_call 8; refine (read_at l hR.out _ (l.length + 3) (by omega) (by omega) _ HT.out.pre).mono ?_; rintro x w1 ⟨A1, rfl, hO1, hb1⟩; dsimp only at hO1 ⊢)
    have HO1 := Lib.hid hO1; clear hO1
    -- the reference reads
    have hbF1 := below_new1 w1 (.cells #[.int .i64 co, .int .i64 fa] 28)
    have hw1 : Below w.heap.size w w1 := hb0.trans (hb1.mono hb0.size)
    go_upto_region 6 with (go_at_call 9; refine (rread_at l hR.out _ c hlc (by omega) _ (HB.out.later (hw1.trans (hbF1.mono hw1.size)))).mono ?_; rintro x w2 ⟨A2, c2, hc2, rfl, hO2, hb2⟩; dsimp only at hO2 hc2 ⊢)
    have HO2 := Lib.hid (hO2.mono hbF1.size); clear hO2
    have hF1 := blk_later (heap_new1 w1 _) hb2 (by simp)
    have hb12 : Below w1.heap.size w1 w2 := hbF1.trans (hb2.mono hbF1.size)
    clear hbF1 hb2
    -- Next
    have hbF2 := below_new1 w2 (.cells #[.int .i64 co, .int .i64 fa] 28)
    have hw12 : Below w0.heap.size w0 w2 := hb1.trans (hb12.mono hb1.size)
    go_upto_region 7 with (go_at_call 10; refine (next_at l i hX.out _ (l.length + 3) (by omega) (by omega) _ (HT.out.pre.later (hw12.trans (hbF2.mono hw12.size)))).mono ?_; rintro x w3 ⟨rfl, hb3⟩)
    have hF2 := blk_later (heap_new1 w2 _) hb3 (by simp)
    have hb23 : Below w2.heap.size w2 w3 := hbF2.trans (hb3.mono hbF2.size)
    replace hF1 := blk_later hF1 hb23 (blk_lt hF1)
    clear hbF2 hb3
    -- the reference's Next
    have hbF3 := below_new2 w3 (.cells #[.int .u8 kd, .int .i64 f, .int .i64 e] 36) (.cells #[.int .i64 co2, .int .i64 fa2] 28)
    have hb13 : Below w1.heap.size w1 w3 := hb12.trans (hb23.mono hb12.size)
    have hw13 : Below w.heap.size w w3 := hw1.trans (hb13.mono hw1.size)
    go_upto_region 8 with (go_at_call 11; refine (rnext_at l i hX.out _ c hlc (by omega) _ (HB.out.later (hw13.trans (hbF3.mono hw13.size)))).mono ?_; rintro x w4 ⟨rfl, hb4⟩)
    have hF3 := blk_later (heap_new2 w3 _ _).1 hb4 (by simp; omega)
    have hF4 := blk_later (heap_new2 w3 _ _).2 hb4 (by simp)
    have hb34 : Below w3.heap.size w3 w4 := hbF3.trans (hb4.mono hbF3.size)
    replace hF1 := blk_later hF1 hb34 (blk_lt hF1)
    replace hF2 := blk_later hF2 hb34 (blk_lt hF2)
    clear hbF3 hb4
    -- the tests
    have hw14 : Below w1.heap.size w1 w4 := hb13.trans (hb34.mono hb13.size)
    have hw24 : Below w2.heap.size w2 w4 := hb23.trans (hb34.mono hb23.size)
    have hlt1 : w1.heap.size < w4.heap.size := blk_lt hF1
    have hlt2 : w2.heap.size < w4.heap.size := blk_lt hF2
    have hlt3 : w3.heap.size < w4.heap.size := blk_lt hF3
    have hlt4 : w3.heap.size + 1 < w4.heap.size := blk_lt hF4
    have x1 : w4.cell? ⟨w1.heap.size, 0, none⟩ = some (.int .i64 co) := blk_cell hF1 0
    have y1 : w4.cell? ⟨w1.heap.size, 1, none⟩ = some (.int .i64 fa) := blk_cell hF1 1
    have x2 : w4.cell? ⟨w2.heap.size, 0, none⟩ = some (.int .i64 co) := blk_cell hF2 0
    have y2 : w4.cell? ⟨w2.heap.size, 1, none⟩ = some (.int .i64 fa) := blk_cell hF2 1
    have x4 : w4.cell? ⟨w3.heap.size + 1, 0, none⟩ = some (.int .i64 co2) := blk_cell hF4 0
    have y4 : w4.cell? ⟨w3.heap.size + 1, 1, none⟩ = some (.int .i64 fa2) := blk_cell hF4 1
    have x3 : w4.cell? ⟨w3.heap.size, 0, none⟩ = some (.int .u8 kd) := blk_cell hF3 0
    have y3 : w4.cell? ⟨w3.heap.size, 1, none⟩ = some (.int .i64 f) := blk_cell hF3 1
    have z3 : w4.cell? ⟨w3.heap.size, 2, none⟩ = some (.int .i64 e) := blk_cell hF3 2
    clear hF1 hF2 hF3 hF4
    have hbF4 := below_new2 w4 (.cells #[.int .i64 kd, .int .i64 f, .int .i64 e] 40) (.cells #[.int .i64 co2, .int .i64 fa2] 28)
    have hO1' := (HO1.out.keep hw14 (Nat.le_refl _)).keep hbF4 (Nat.le_refl _)
    have hO2' := (HO2.out.keep hw24 (Nat.le_refl _)).keep hbF4 (Nat.le_refl _)
    have hw04 : Below w0.heap.size w0 w4 := hb1.trans (hw14.mono hb1.size)
    have hw4 : Below w.heap.size w w4 := hb0.trans (hw04.mono hb0.size)
    go_upto_region 9 with (first
      | (go_at_call 12; refine (sames_any A1 A2 ts ts.length ts.length c2 rfl (by omega) HK.out _ hO1' hO2').mono ?_; rintro x w5 ⟨rfl, hb5⟩; replace x3 := keep2 hb5 x3; replace y3 := keep2 hb5 y3; replace z3 := keep2 hb5 z3; have hG := blk_later (heap_new2 w4 _ _).1 hb5 (by simp; omega); have a0 := blk_cell hG 0; have a1 := blk_cell hG 1; have a2 := blk_cell hG 2)
      | (go_at_call 13; refine (same_any kd f e kd f e hkd rfl rfl rfl _).mono ?_; rintro x w6 ⟨rfl, hb6⟩)
      | (go_at_call 14; refine (left_any _ A l c hlc (by omega) _ (HT.out.below (hw04.trans ((hbF4.trans ((hb5.trans (hb6.mono hb5.size)).mono hbF4.size)).mono hw04.size))) (B' := w.heap.size) (HB.out.below (hw4.trans ((hbF4.trans ((hb5.trans (hb6.mono hb5.size)).mono hbF4.size)).mono hw4.size)))).mono ?_; rintro x w7 ⟨rfl, rfl⟩))
    have hb56 := hb5.trans (hb6.mono hb5.size)
    have hO16 := Lib.hid (hO1'.keep hb56 (Nat.le_refl _))
    have hO26 := Lib.hid (hO2'.keep hb56 (Nat.le_refl _))
    have hb46 := hbF4.trans (hb56.mono hbF4.size)
    have hb06 : Below w0.heap.size w0 w6 := hw04.trans (hb46.mono hw04.size)
    clear x1 y1 x2 y2 x3 y3 z3 x4 y4 a0 a1 a2 hG hO1' hO2' hb5 hb6 hb56 hbF4 hlt1 hlt2 hlt3 hlt4
    go_loopg [14] ts.length (fun n s14 wr => ∃ k : Nat, ∃ xs, s14 = .int .i64 k ∧ k ≤ ts.length ∧ Hid (n = ts.length - k) ∧ Hid (OwnS wr w0.heap.size 36 3 A1 ts.length xs) ∧ Hid (OwnS wr w1.heap.size 40 3 A2 ts.length (rtokCells ts)) ∧ Below w0.heap.size w0 wr)
    case atStart => exact ⟨0, _, rfl, by omega, rfl, hO16, hO26, hb06⟩
    case round =>
      clear hO16 hO26 hb06 hb46
      obtain ⟨k, xs, rfl, hk, hn, hO1, hO2, hb⟩ := hrel
      by_cases hlt : k < ts.length
      · obtain ⟨g, rfl, hgb, hgl, d0⟩ := hO1.out.cell (j := k * 3) (by omega)
        obtain ⟨_, e1, _, _, d1⟩ := hO1.out.cell (j := k * 3 + 1) (by omega); cases e1
        obtain ⟨_, e1, _, _, d2⟩ := hO1.out.cell (j := k * 3 + 2) (by omega); cases e1
        obtain ⟨g', cur, hA, _, hg, _⟩ := hO1.out.at_ (by omega)
        cases hA
        have f0 := blk_frozen hg (k * 3)
        have f1 := blk_frozen hg (k * 3 + 1)
        have f2 := blk_frozen hg (k * 3 + 2)
        clear hg
        have hg1 : g < w1.heap.size := by
          obtain ⟨g1, e1, _, h1, _⟩ := HO1.out.cell (j := 0) (by omega)
          cases e1; exact h1
        have hO1 := hO1.out
        have HOW := Lib.hid hO1; clear hO1
        go_wp2
        go_roundg (ts.length - (k + 1))
        case measure => have := hn.out; omega
        case rel =>
          obtain ⟨xs1, h1⟩ := HOW.out.put_ (k * 3) (.int .u8 0)
          obtain ⟨xs2, h2⟩ := h1.put_ (k * 3 + 1) (.int .i64 (-7))
          obtain ⟨xs3, h3⟩ := h2.put_ (k * 3 + 2) (.int .i64 0)
          refine ⟨k + 1, xs3, by simp, by omega, rfl, ?_, ?_, ?_⟩
          · exact h3
          · exact ((hO2.out.set_ (p := ⟨g, k * 3, none⟩) hg1 _).set_ (p := ⟨g, k * 3 + 1, none⟩) hg1 _).set_ (p := ⟨g, k * 3 + 2, none⟩) hg1 _
          · exact ((hb.setCell (p := ⟨g, k * 3, none⟩) hgb _).setCell (p := ⟨g, k * 3 + 1, none⟩) hgb _).setCell (p := ⟨g, k * 3 + 2, none⟩) hgb _
      · clear hO1
        have hbw : Below w.heap.size w wr := hb0.trans (hb.mono hb0.size)
        go_wp2_with (first
          | (go_at_call 8; refine (read_at l hR.out _ (l.length + 3) (by omega) (by omega) _ (HT.out.pre.later hb)).mono ?_; rintro x w8 ⟨A3, rfl, hO3, hb8⟩; dsimp only at hO3 ⊢; have hbF8 := below_new1 w8 (.cells #[.int .i64 co, .int .i64 fa] 28))
          | (go_at_call 12; refine (sames_any A3 A2 ts ts.length ts.length c2 rfl (by omega) HK.out _ (hO3.keep hbF8 (Nat.le_refl _)) ((hO2.out.keep hb8 (Nat.le_refl _)).keep hbF8 (Nat.le_refl _))).mono ?_; rintro x w9 ⟨rfl, hb9⟩)
          | (go_at_call 6; refine (lives_any _).mono ?_; rintro x w10 ⟨rfl, hb10⟩))
        go_ret
        refine ⟨rfl, ?_⟩
        have e1 := hbw.trans (hb8.mono hbw.size)
        have e2 := e1.trans (hbF8.mono e1.size)
        have e3 := e2.trans (hb9.mono e2.size)
        exact e3.trans (hb10.mono e3.size)

end Go.Proofs.Ytjiejpjdbimjkaa
