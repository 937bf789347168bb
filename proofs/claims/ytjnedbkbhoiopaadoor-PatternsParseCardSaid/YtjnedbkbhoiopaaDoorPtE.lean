/- Walks over package patterns: key; no statement of the seat is proved here. -/
import Derived.Test.YtjnedbkbhoiopaaDoorPtD
namespace Go.Proofs.YtjnedbkbhoiopaaDoor
open Go.RowKit

/-- A function value in a block of one cell. -/
def FV (w : World) (n : Nat) (f : Value) : Prop := w.heap[n]? = some (.cells #[f] 95 (0, 0))
theorem key_is (t : ByteArray) (ht : t.size ≤ 10000000) (fn : Fn) (fs cs : Array Value) (w : World) : Calls Tryd.prog 45 #[.string t, .func fn fs cs] w fun e w' =>
    e = .returned (.agg #[.string (⟨#[47]⟩ ++ t), .func (.func 57) #[] #[.pointer (some ⟨w.heap.size, 0, none⟩)], .bool false]) ∧ FV w' w.heap.size (.func fn fs cs) ∧ Below w.heap.size w w' := by
  have hmf : ∀ (fn : Fn) (first cap : Array Value) (w : World), (Instr.makeFunc fn first cap).run Tryd.prog w = .ok (.func fn first cap) w := fun _ _ _ _ => rfl
  go_enter Tryd.func45, Tryd.ntmps45
  go_wp2
  have h0 : FV (w.alloc (.cells #[.func fn fs cs] 95)) w.heap.size (.func fn fs cs) := heap_new1 w _
  exact bodyPost_ret (v := .agg #[.string (⟨#[47]⟩ ++ t), .func (.func 57) #[] #[.pointer (some ⟨w.heap.size, 0, none⟩)], .bool false]) (by simp [results, Tryd.results45, go_sem]) rfl
    ⟨rfl, blk_later h0 (below_new1 _ _) (blk_lt h0), (below_new1 w _).alloc (below_new1 w _).size _⟩

end Go.Proofs.YtjnedbkbhoiopaaDoor
