/- The law PatternsParse at arguments that came in; no statement of the seat is proved here. -/
import Derived.Test.YtjnedbkbhoiopaaDoorPtLQ
namespace Go.Proofs.YtjnedbkbhoiopaaDoor
open Go.RowKit

section
variable {H : Type} {enc : TypeId × Value → H} {w : World} {base : Nat} {sp : Nat → Bool} {held : Bool}
def PathsArg (w : World) (a : Option Addr) (n _c : Nat) : Prop := PathsIs w a n
theorem paths_arg {d : DataW H} {p : List MemPlace} {a : Option Addr} {len cap : Nat} (h : DataW.Trod enc Tryd.prog w base sp held 39 (.slice a len cap) d p) : PathsArg w a len cap := paths_read h
end
theorem parse_final (s : ByteArray) (a : Option Addr) (n cap : Nat) (w : World) (hp : PathsArg w a n cap) :
    Calls Tryd.prog 5 #[.string s, .slice a n cap] w fun e w' => e = .returned (.bool true) ∧ Below w.heap.size w w' :=
  parselaw_walk s a n cap w hp

end Go.Proofs.YtjnedbkbhoiopaaDoor
