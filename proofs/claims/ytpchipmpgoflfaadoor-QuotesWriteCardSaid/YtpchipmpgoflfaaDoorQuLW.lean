/- The walk of the law QuotesWrite; no statement of the seat is proved here. -/
import Derived.Test.YtpchipmpgoflfaaDoorQuL
import Derived.Test.YtpchipmpgoflfaaDoorQuV
import Derived.Test.YtpchipmpgoflfaaDoorQuG
namespace Go.Proofs.YtpchipmpgoflfaaDoor
open Go.RowKit

set_option maxHeartbeats 1000000 in
theorem writelaw_walk (s : ByteArray) (w : World) (hG : Glob w) :
    Calls Tryd.prog 4 #[.string s] w fun e w' => e = .returned (.bool true) ∧ Below w.heap.size w w' := by
  have HG := Lib.hid hG; clear hG
  by_cases hbig : 2000 < s.size
  · go_enter Tryd.func4, Tryd.ntmps4
    go_wp2_with (go_at_call 8; refine (lives_any _ HG.out).mono ?_; rintro e w1 ⟨rfl, hb1⟩)
    go_ret
    exact ⟨rfl, hb1⟩
  · have hs : s.size ≤ 16777216 := by omega
    go_enter Tryd.func4, Tryd.ntmps4
    go_wp2_with (first
      | (go_at_call 11; refine (qwrite_any s hs _ HG.out).mono ?_; rintro e w1 ⟨rfl, hb1⟩)
      | (go_at_call 12; refine (rwrite_any s hs _).mono ?_; rintro e w2 ⟨rfl, hb2⟩; have hb12 := hb1.trans (hb2.mono hb1.size))
      | (go_at_call 8; refine (lives_any _ (HG.out.keep hb12 (Nat.le_refl _))).mono ?_; rintro e w3 ⟨rfl, hb3⟩))
    go_ret
    exact ⟨rfl, hb12.trans (hb3.mono hb12.size)⟩

end Go.Proofs.YtpchipmpgoflfaaDoor
