/- The walk of the law QuotesRead; no statement of the seat is proved here. -/
import Derived.Test.YtpchipmpgoflfaaDoorQuL
import Derived.Test.YtpchipmpgoflfaaDoorQuY
import Derived.Test.YtpchipmpgoflfaaDoorQuV
import Derived.Test.YtpchipmpgoflfaaDoorQuG
namespace Go.Proofs.YtpchipmpgoflfaaDoor
open Go.RowKit

theorem rread_at (s : ByteArray) (hs : s.size ≤ 16777216) (t : List UInt8) (co fa : Int) (h : readQ s.data.toList = (t, co, fa)) (w : World) :
    Calls Tryd.prog 10 #[.string s] w fun e w' => e = .returned (.tuple #[.string ⟨t.toArray⟩, .agg #[.int .i64 co, .int .i64 fa]]) ∧ Below w.heap.size w w' := by
  have := rread_any s hs w
  rw [read_same, h] at this
  exact this

set_option maxRecDepth 100000 in
set_option maxHeartbeats 2000000 in
theorem readlaw_walk (s : ByteArray) (w : World) (hG : Glob w) :
    Calls Tryd.prog 3 #[.string s] w fun e w' => e = .returned (.bool true) ∧ Below w.heap.size w w' := by
  have HG := Lib.hid hG; clear hG
  by_cases hbig : 2000 < s.size
  · go_enter Tryd.func3, Tryd.ntmps3
    go_wp2_with (go_at_call 8; refine (lives_any _ HG.out).mono ?_; rintro e w1 ⟨rfl, hb1⟩)
    go_ret
    exact ⟨rfl, hb1⟩
  · go_enter Tryd.func3, Tryd.ntmps3
    go_wp2
    go_loopg [4] 2 (fun g s4 wr => ∃ k : Nat, s4 = .int .i64 k ∧ k ≤ 2 ∧ Hid (g = 2 - k) ∧ Hid (wr.heap[w.heap.size]? = some (.cells #[.string s, .string ((⟨#[34]⟩ : ByteArray) ++ s ++ ⟨#[34]⟩)] 9 (0, 0))) ∧ Below w.heap.size w wr)
    case atStart => exact ⟨0, rfl, by omega, rfl, heap_new1 _ _, below_new1 _ _⟩
    case round =>
      obtain ⟨k, rfl, hk, hg, hL, hbw⟩ := hrel
      have hltL := blk_lt hL.out
      by_cases hlt : k < 2
      · obtain ⟨x, hx, hxs⟩ : ∃ x : ByteArray, wr.cell? ⟨w.heap.size, k, none⟩ = some (.string x) ∧ x.size ≤ 16777216 := by
          have hk2 : k = 0 ∨ k = 1 := by omega
          rcases hk2 with rfl | rfl
          · exact ⟨s, blk_cell hL.out 0, by omega⟩
          · exact ⟨_, blk_cell hL.out 1, by rw [app_size, app_size]; show 1 + s.size + 1 ≤ _; omega⟩
        obtain ⟨t, co, fa, hR⟩ : ∃ t co fa, Hid (readQ x.data.toList = (t, co, fa)) := ⟨(readQ x.data.toList).1, (readQ x.data.toList).2.1, (readQ x.data.toList).2.2, rfl⟩
        go_wp2_with fail
        refine (qread_at x hxs t co fa hR.out _ (HG.out.keep hbw (Nat.le_refl _))).mono ?_
        rintro e w2 ⟨rfl, hb2⟩
        have hx2 := cell_later hb2 hx
        have hx2' := cell_later (below_new1 w2 (.cells #[.int .i64 co, .int .i64 fa] 26)) hx2
        clear hx hx2
        go_wp2_with fail
        refine (rread_at x hxs t co fa hR.out _).mono ?_
        rintro e w3 ⟨rfl, hb3⟩
        have hbF := below_new1 w2 (.cells #[.int .i64 co, .int .i64 fa] 26)
        have hF := blk_later (heap_new1 w2 (.cells #[.int .i64 co, .int .i64 fa] 26)) hb3 (by simp)
        have hbA : Below wr.heap.size wr w3 := hb2.trans ((hbF.trans (hb3.mono hbF.size)).mono hb2.size)
        have f0 : w3.cell? ⟨w2.heap.size, 0, none⟩ = some (.int .i64 co) := blk_cell hF 0
        have f1 : w3.cell? ⟨w2.heap.size, 1, none⟩ = some (.int .i64 fa) := blk_cell hF 1
        have hltF := blk_lt hF
        have hL3 := Lib.hid (blk_later (blk_later hL.out hbA hltL) (below_new1 w3 (.cells #[.int .i64 co, .int .i64 fa] 26)) (by have := hbA.size; omega))
        have hbB := Lib.hid ((hbw.trans (hbA.mono hbw.size)).alloc (by have := hbw.size; have := hbA.size; omega) (.cells #[.int .i64 co, .int .i64 fa] 26))
        clear hb2 hb3 hbF hx2' hF
        go_wp2
        go_roundg (2 - (k + 1))
        case measure => have := hg.out; omega
        case rel => exact ⟨k + 1, by go_num, by omega, rfl, hL3.out, hbB.out⟩
      · go_wp2_with (go_at_call 8; refine (lives_any _ (HG.out.keep hbw (Nat.le_refl _))).mono ?_; rintro e w1 ⟨rfl, hb1⟩)
        go_ret
        exact ⟨rfl, hbw.trans (hb1.mono hbw.size)⟩

end Go.Proofs.YtpchipmpgoflfaaDoor
