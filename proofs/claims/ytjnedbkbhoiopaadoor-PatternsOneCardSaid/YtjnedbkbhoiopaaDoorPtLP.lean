/- The law PatternsOne at arguments that came in; no statement of the seat is proved here. -/
import Derived.Test.YtjnedbkbhoiopaaDoorPtLO
import Derived.Test.YtjnedbkbhoiopaaDoorPtAg
namespace Go.Proofs.YtjnedbkbhoiopaaDoor
open Go.RowKit Go.ChangeShapes Go.WideShapes Go.Deep

section
variable {H : Type} {enc : TypeId × Value → H} {w : World} {base : Nat} {sp : Nat → Bool} {held : Bool}
def PathArg (w : World) (a : Option Addr) (n _c : Nat) : Prop := PathIs w a n
theorem path_arg {d : DataW H} {p : List MemPlace} {a : Option Addr} {len cap : Nat} (h : DataW.Trod enc Tryd.prog w base sp held 31 (.slice a len cap) d p) : PathArg w a len cap := path_read h
set_option maxRecDepth 100000 in
/-- A step by value is read. -/
theorem step_read1 {r : Reach} {b0 : Nat} {v : Value} {d : DataW H} {p : List MemPlace} (hval : Value.okWide Tryd.prog w r b0 50 v) (h : DataW.Trod enc Tryd.prog w base sp held 50 v d p) : ∃ o : PS4, v = .agg (boxP o) := by
  simp only [Value.okWide, Tryd.underlying50] at hval
  obtain ⟨cs, rfl, _, _⟩ := hval
  obtain ⟨fuel, hf⟩ := h
  obtain ⟨o, ho, _⟩ := pstep_read hf
  refine ⟨o, ?_⟩
  have : cs.toList = cellsP o := ho
  rw [show boxP o = (cellsP o).toArray from rfl, ← this]
end
theorem one_final (a : Option Addr) (n pc : Nat) (o : PS4) (f : Int) (w : World) (hf : (Lit.int .u8 f).wf = true) (h1 : PathArg w a n pc) :
    Calls Tryd.prog 6 #[.slice a n pc, .agg (boxP o), .int .u8 f] w fun e w' => e = .returned (.bool true) ∧ Below w.heap.size w w' := by
  obtain ⟨l, hn, hM, _⟩ := h1
  have hf' : 0 ≤ f ∧ f < 256 := by
    simp [Lit.wf, IntKind.min, IntKind.max, IntKind.bits, IntKind.signed] at hf
    omega
  exact onelaw_walk a n pc l hn.symm o f hf' w hM

end Go.Proofs.YtjnedbkbhoiopaaDoor
