/- A region that draws its order and in which all operations leave a class of worlds, a store that writes what is there among them: one walk in the order of the text; over any program; no statement of the seat is proved here. -/
import Derived.Test.YtncldnghhpdolaaGreatDoorBase
import Derived.Below
import Derived.Deep.Quiet
import Derived.Deep.QuietTactic
import Derived.BigQuiet
namespace Go.Proofs.YtncldnghhpdolaaGreatDoor
open Go.RowKit

/-- A world of which S holds. -/
structure Keep (S : World → Prop) where
  at_ : World
  ok : S at_
theorem wp_region_keep {P : Program} {id : Nat} {Q : Exit → Act → World → Prop} {a : Act} {w : World} {l : List Oper} (S : World → Prop) (hm : P.follows .mixedOrders = true) (hB : Region.lexB .any l.toArray = true) (hS : S w.drew)
    (h : Nonempty (Keep S) → wpQuiet P l.toArray (fun w' => ∃ n : Keep S, w' = n.at_) (fun a' => ∀ w', (∃ n : Keep S, w' = n.at_) → Q .normal a' w') l a) : (Code.region id l.toArray true).wp P Q a w :=
  wp_region_quiet (C := fun w' => ∃ n : Keep S, w' = n.at_) hm hB ⟨⟨_, hS⟩, rfl⟩ (by simpa using h ⟨⟨_, hS⟩⟩)
theorem calls_keep {P : Program} {f : FuncId} {args : Array Value} {S : World → Prop} {w : World} {v : Value} (h : Calls P f args w fun e w' => e = .returned v ∧ S w') : Calls P f args w fun e w'' => e = .returned v ∧ ∃ m : Keep S, w'' = m.at_ :=
  h.mono fun _ w' ⟨he, hb⟩ => ⟨he, ⟨w', hb⟩, rfl⟩
/-- What is there is written. -/
theorem setCell_same {w : World} {b k : Nat} {cs : Array Value} {T : TypeId} {fz : Nat × Nat} {v : Value} (h : w.heap[b]? = some (.cells cs T fz)) (hk : cs[k]? = some v) : w.setCell ⟨b, k, none⟩ v = w := by
  have hkl : k < cs.size := (Array.getElem?_eq_some_iff.1 hk).1
  have hs : cs.setIfInBounds k v = cs := by
    apply Array.ext_getElem?
    intro i
    rw [Array.getElem?_setIfInBounds]
    split
    · rename_i e
      rw [← e, hk]
    · rfl
  have hh : (w.setCell ⟨b, k, none⟩ v).heap = w.heap := by
    apply Array.ext'
    apply List.ext_getElem?
    intro i
    have hx : (w.setCell ⟨b, k, none⟩ v).heap[i]? = w.heap[i]? := by
      by_cases e : b = i
      · subst e
        simp [World.setCell, Array.getElem?_modify, h, hs]
      · simp [World.setCell, Array.getElem?_modify, e]
    simpa using hx
  show { w with heap := (w.setCell ⟨b, k, none⟩ v).heap } = w
  rw [hh]

end Go.Proofs.YtncldnghhpdolaaGreatDoor
