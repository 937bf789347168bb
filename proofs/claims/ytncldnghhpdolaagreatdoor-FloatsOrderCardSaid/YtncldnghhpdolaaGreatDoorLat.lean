/- A region that draws its order and whose calls only make memory of their own: one walk in the order of the text; over any program; no statement of the seat is proved here. -/
import Derived.Test.YtncldnghhpdolaaGreatDoorBase
import Derived.Below
import Derived.Deep.Quiet
import Derived.Deep.QuietTactic
import Derived.BigQuiet
namespace Go.Proofs.YtncldnghhpdolaaGreatDoor
open Go.RowKit

/-- A world that comes later: all that lay in the heap lies there as it was. -/
structure Later (w : World) where
  at_ : World
  below : Below w.heap.size w at_
instance (w : World) : Nonempty (Later w) := ⟨⟨w, Below.refl _ _⟩⟩
theorem wp_region_later {P : Program} {id : Nat} {Q : Exit → Act → World → Prop} {a : Act} (w0 : World) {w : World} {l : List Oper} (hm : P.follows .mixedOrders = true) (hB : Region.lexB .any l.toArray = true) (hb : Below w0.heap.size w0 w)
    (h : wpQuiet P l.toArray (fun w' => ∃ n : Later w0, w' = n.at_) (fun a' => ∀ w', (∃ n : Later w0, w' = n.at_) → Q .normal a' w') l a) : (Code.region id l.toArray true).wp P Q a w :=
  wp_region_quiet (C := fun w' => ∃ n : Later w0, w' = n.at_) hm hB ⟨⟨_, hb.drew⟩, rfl⟩ (by simpa using h)
theorem calls_later {P : Program} {f : FuncId} {args : Array Value} {w0 w : World} {v : Value} (h : Calls P f args w fun e w' => e = .returned v ∧ Below w0.heap.size w0 w') : Calls P f args w fun e w'' => e = .returned v ∧ ∃ m : Later w0, w'' = m.at_ :=
  h.mono fun _ w' ⟨he, hb⟩ => ⟨he, ⟨w', hb⟩, rfl⟩

end Go.Proofs.YtncldnghhpdolaaGreatDoor
