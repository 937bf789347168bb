/- strconv.ParseInt; no statement of the seat is proved here. -/
import Derived.Test.YtncldnghhpdolaaGreatDoorInV
namespace Go.Proofs.YtncldnghhpdolaaGreatDoor
open Go.RowKit

set_option maxRecDepth 100000 in
set_option maxHeartbeats 1000000 in
theorem spi_ok (q z : Int) (s : ByteArray) (h : ∀ w, Calls Tryz.prog 74 #[.string s, .int .i64 q, .int .i64 64] w fun e w' => e = piE (.ok z) ∧ Below w.heap.size w w') (w : World) :
    Calls Tryz.prog 46 #[.string s, .int .i64 q, .int .i64 64] w fun e w' => e = .returned (.tuple #[.int .i64 z, .nilIface]) ∧ Below w.heap.size w w' := by
  have HC := Lib.hid h; clear h
  go_enter Tryz.func46, Tryz.ntmps46
  go_wp2_with (go_at_call 74; refine (HC.out _).mono ?_; rintro e w1 ⟨rfl, hb1⟩; dsimp only [piE])
  go_ret2
  exact ⟨rfl, hb1⟩

set_option maxRecDepth 1000000 in
theorem if_eq12 (w : World) : (binOp .eql 59 (.iface 116 (.int .i64 1)) (.iface 116 (.int .i64 2))).run Tryz.prog w = .ok (.bool false) w := by kernel_rfl
set_option maxRecDepth 1000000 in
theorem if_eq11 (w : World) : (binOp .eql 59 (.iface 116 (.int .i64 1)) (.iface 116 (.int .i64 1))).run Tryz.prog w = .ok (.bool true) w := by kernel_rfl
set_option maxRecDepth 100000 in
set_option maxHeartbeats 1000000 in
theorem toerr_rng (fn s : ByteArray) (base bits : Int) (ev : Value) (w : World) (hlim : s.size ≤ 281474976710656) (hv : w.cell? ⟨0, 0, none⟩ = some ev) (hev : ev = .nilIface ∨ ∃ te pe, ev = .iface te pe) :
    Calls Tryz.prog 75 #[.string fn, .string s, .int .i64 base, .int .i64 bits, .iface 116 (.int .i64 1)] w fun e w' =>
      ∃ N, e = .returned (.iface 120 (.pointer (some ⟨N, 0, none⟩))) ∧ w.heap.size ≤ N ∧ w'.heap[N]? = some (.cells #[.string fn, .string s, ev] 146 (0, 0)) ∧ Below w.heap.size w w' := by
  have HC := Lib.hid (Tryz.strconv_rangeError fn s ev w hlim hv hev)
  go_enter Tryz.func75, Tryz.ntmps75
  go_wp2_with fail
  rw [if_eq12]
  go_wp2_with fail
  rw [if_eq11]
  go_wp2_with (go_at_call 106; refine HC.out.mono ?_; rintro e w1 ⟨N, rfl, h1, h2, h3⟩)
  go_ret
  exact ⟨N, rfl, h1, h2, h3⟩

set_option maxRecDepth 100000 in
set_option maxHeartbeats 1000000 in
theorem spi_rng (q z : Int) (s : ByteArray) (ev : Value) (h : ∀ w, Calls Tryz.prog 74 #[.string s, .int .i64 q, .int .i64 64] w fun e w' => e = piE (.rng z) ∧ Below w.heap.size w w') (w : World)
    (hlim : s.size ≤ 281474976710656) (h0 : 0 < w.heap.size) (hv : w.cell? ⟨0, 0, none⟩ = some ev) (hev : ev = .nilIface ∨ ∃ te pe, ev = .iface te pe) :
    Calls Tryz.prog 46 #[.string s, .int .i64 q, .int .i64 64] w fun e w' => ∃ fn N, e = .returned (.tuple #[.int .i64 z, .iface 120 (.pointer (some ⟨N, 0, none⟩))]) ∧ w.heap.size ≤ N ∧ w'.heap[N]? = some (.cells #[.string fn, .string s, ev] 146 (0, 0)) ∧ Below w.heap.size w w' := by
  have HC := Lib.hid h; clear h
  have HT := Lib.hid (fun fn W (k : Below w.heap.size w W) => toerr_rng fn s q 64 ev W hlim ((k.cell (p := ⟨0, 0, none⟩) h0).trans hv) hev)
  go_enter Tryz.func46, Tryz.ntmps46
  go_wp2_with (first
    | (go_at_call 74; refine (HC.out _).mono ?_; rintro e w1 ⟨rfl, hb1⟩; dsimp only [piE])
    | (go_at_call 75; refine (HT.out _ _ hb1).mono ?_; rintro e w2 ⟨N, rfl, h1, h2, h3⟩))
  go_ret2
  exact ⟨_, N, rfl, Nat.le_trans hb1.size h1, h2, hb1.trans (h3.mono hb1.size)⟩

end Go.Proofs.YtncldnghhpdolaaGreatDoor
