/- The walk over the law PatternsVoid; no statement of the seat is proved here. -/
import Derived.Test.YtjnedbkbhoiopaaDoorPtT
namespace Go.Proofs.YtjnedbkbhoiopaaDoor
open Go.RowKit

set_option maxRecDepth 100000 in
set_option maxHeartbeats 4000000 in
theorem voidlaw_walk (PA : Option Addr) (n pc : Nat) (w : World) :
    Calls Tryd.prog 4 #[.slice PA n pc] w fun e w' => e = .returned (.bool true) ∧ Below w.heap.size w w' := by
  have LV := Lib.hid (fun w => lives_any w)
  by_cases hbig : 100 < n
  · go_enter Tryd.func4, Tryd.ntmps4
    go_wp2_with (go_at_call 8; (with_reducible refine (LV.out _).mono ?_); rintro e w1 ⟨rfl, hb1⟩)
    go_ret
    exact ⟨rfl, hb1⟩
  · have hn : n ≤ 100 := by omega
    have h2 := heap_new2 w (.cells #[.bool false, .slice none 0 0] 34) (.cells #[.pointer none, .pointer (some ⟨w.heap.size, 0, none⟩)] 24)
    have MN := Lib.hid (fun w => match_nil (.slice PA n pc) w)
    have TN := Lib.hid (fun w => text_nil w)
    have LN := Lib.hid (fun w => len_nil w)
    have MV := Lib.hid (match_void w.heap.size (.slice PA n pc) _ _ h2.1)
    have TV := Lib.hid (text_void w.heap.size _ _ h2.1)
    have LV2 := Lib.hid (len_is w.heap.size _ _ _ _ _ h2.1)
    clear h2
    go_enter Tryd.func4, Tryd.ntmps4
    go_wp2
    refine wp_loop_rounds 3 ?_
    rw [rounds_succ]
    go_wp2_with (first
      | (go_at_call 10; (first | (with_reducible refine (MN.out _).mono ?_) | (with_reducible refine Calls.mono MV.out ?_)); rintro e w' ⟨rfl, rfl⟩)
      | (go_at_call 11; (first | (with_reducible refine (TN.out _).mono ?_) | (with_reducible refine Calls.mono TV.out ?_)); rintro e w' ⟨rfl, rfl⟩)
      | (go_at_call 12; (first | (with_reducible refine (LN.out _).mono ?_) | (with_reducible refine Calls.mono LV2.out ?_)); rintro e w' ⟨rfl, rfl⟩))
    rw [rounds_succ]
    go_wp2_with (first
      | (go_at_call 10; (first | (with_reducible refine (MN.out _).mono ?_) | (with_reducible refine Calls.mono MV.out ?_)); rintro e w' ⟨rfl, rfl⟩)
      | (go_at_call 11; (first | (with_reducible refine (TN.out _).mono ?_) | (with_reducible refine Calls.mono TV.out ?_)); rintro e w' ⟨rfl, rfl⟩)
      | (go_at_call 12; (first | (with_reducible refine (LN.out _).mono ?_) | (with_reducible refine Calls.mono LV2.out ?_)); rintro e w' ⟨rfl, rfl⟩))
    rw [rounds_succ]
    go_wp2_with (go_at_call 8; (with_reducible refine (LV.out _).mono ?_); rintro e w1 ⟨rfl, hb1⟩)
    go_ret
    exact ⟨rfl, (below_new2 w _ _).trans (hb1.mono (by simp; omega))⟩

end Go.Proofs.YtjnedbkbhoiopaaDoor
