/- strconv.FormatUint, FormatInt at bases 2, 8, 16 (formatBits); no statement of the seat is proved here. -/
import Derived.Test.YtghjiddcbbnhpaaGreatDoorInE
namespace Go.Proofs.YtghjiddcbbnhpaaGreatDoor
open Go.RowKit

/-- The cells that TrailingZeros64 reads at 2, 8, 16. -/
structure Db (w : World) : Prop where
  big : 10 ≤ w.heap.size
  c1 : w.cell? ⟨9, 1, none⟩ = some (.int .u8 1)
  c3 : w.cell? ⟨9, 7, none⟩ = some (.int .u8 3)
  c4 : w.cell? ⟨9, 15, none⟩ = some (.int .u8 4)
theorem Db.later {w w' : World} (h : Db w) (hb : Below w.heap.size w w') : Db w' := by
  have hz := h.big
  have hs := hb.size
  exact ⟨by omega, (hb.cell (p := ⟨9, 1, none⟩) (by dsimp only; omega)).trans h.c1, (hb.cell (p := ⟨9, 7, none⟩) (by dsimp only; omega)).trans h.c3, (hb.cell (p := ⟨9, 15, none⟩) (by dsimp only; omega)).trans h.c4⟩
theorem pw_is (q : Nat) (hq : q = 2 ∨ q = 8 ∨ q = 16) (w : World) : Calls Tryz.prog 85 #[.int .i64 (q : Int)] w fun e w' => e = .returned (.bool true) ∧ w = w' := by
  rcases hq with rfl | rfl | rfl
  all_goals
    go_enter Tryz.func85, Tryz.ntmps85
    go_wp2
    go_ret
    exact ⟨rfl, rfl⟩
theorem tz_is (q k : Nat) (hq : (q = 2 ∧ k = 1) ∨ (q = 8 ∧ k = 3) ∨ (q = 16 ∧ k = 4)) (w : World) (hD : Db w) : Calls Tryz.prog 86 #[.int .u64 (q : Int)] w fun e w' => e = .returned (.int .i64 (k : Int)) ∧ w = w' := by
  have h64 : Calls Tryz.prog 105 #[.int .u64 (q : Int)] w fun e w' => e = .returned (.int .i64 (k : Int)) ∧ w = w' := by
    have c1 := hD.c1
    have c3 := hD.c3
    have c4 := hD.c4
    clear hD
    have a1 : bits .and .u64 2 (IntKind.u64.wrap (-2)) = 2 := by decide
    have a3 : bits .and .u64 8 (IntKind.u64.wrap (-8)) = 8 := by decide
    have a4 : bits .and .u64 16 (IntKind.u64.wrap (-16)) = 16 := by decide
    have m1 : IntKind.u64.wrap 571740426102707730 = 571740426102707730 := by decide
    have m3 : IntKind.u64.wrap 2286961704410830920 = 2286961704410830920 := by decide
    have m4 : IntKind.u64.wrap 4573923408821661840 = 4573923408821661840 := by decide
    rcases hq with ⟨rfl, rfl⟩ | ⟨rfl, rfl⟩ | ⟨rfl, rfl⟩
    all_goals
      go_enter Tryz.func105, Tryz.ntmps105
      go_wp2
      go_ret
      exact ⟨rfl, rfl⟩
  have H := Lib.hid h64
  clear h64 hD
  rcases hq with ⟨rfl, rfl⟩ | ⟨rfl, rfl⟩ | ⟨rfl, rfl⟩
  all_goals
    go_enter Tryz.func86, Tryz.ntmps86
    go_wp2_with (go_at_call 105; refine H.out.mono ?_; rintro e w1 ⟨rfl, rfl⟩)
    go_ret
    exact ⟨rfl, rfl⟩

end Go.Proofs.YtghjiddcbbnhpaaGreatDoor
