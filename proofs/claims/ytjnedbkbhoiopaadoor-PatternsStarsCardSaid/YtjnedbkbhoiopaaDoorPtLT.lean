/- The law PatternsStars at arguments that came in; no statement of the seat is proved here. -/
import Derived.Test.YtjnedbkbhoiopaaDoorPtLS
import Derived.Test.YtjnedbkbhoiopaaDoorPtAg
import Derived.WideKeyPair
namespace Go.Proofs.YtjnedbkbhoiopaaDoor
open Go.RowKit Go.ChangeShapes Go.WideShapes Go.Deep

theorem pairB : WideMaps.ArrKey Tryd.prog 56 5 2 := ⟨Tryd.underlying56, by kernel_rfl, by kernel_rfl, by kernel_rfl⟩
section
variable {H : Type} {enc : TypeId × Value → H} {w : World} {base : Nat} {sp : Nat → Bool} {held : Bool}
def PathArg (w : World) (a : Option Addr) (n _c : Nat) : Prop := PathIs w a n
theorem path_arg {d : DataW H} {p : List MemPlace} {a : Option Addr} {len cap : Nat} (h : DataW.Trod enc Tryd.prog w base sp held 31 (.slice a len cap) d p) : PathArg w a len cap := path_read h
end
abbrev pairV (z0 z1 : Int) : Value := .agg #[.int .u8 z0, .int .u8 z1]
theorem stars_final (a : Option Addr) (n pc : Nat) (st z0 z1 : Int) (w : World) (h0 : (Lit.int .u32 st).wf = true) (h1 : (Lit.int .u8 z0).wf = true ∧ (Lit.int .u8 z1).wf = true) (hp : PathArg w a n pc) :
    Calls Tryd.prog 7 #[.slice a n pc, .int .u32 st, pairV z0 z1] w fun e w' => e = .returned (.bool true) ∧ Below w.heap.size w w' := by
  obtain ⟨l, hn, hM, _⟩ := hp
  obtain ⟨h2, h3⟩ := h1
  simp [Lit.wf, IntKind.min, IntKind.max, IntKind.bits, IntKind.signed] at h0 h2 h3
  exact starslaw_walk a n pc l hn.symm st (by omega) z0 z1 (by omega) (by omega) w hM

end Go.Proofs.YtjnedbkbhoiopaaDoor
