/- Arguments that are slices of paths, read; no statement of the seat is proved here. -/
import Derived.Test.YtjnedbkbhoiopaaDoorPtAg
namespace Go.Proofs.YtjnedbkbhoiopaaDoor
open Go.RowKit Go.ChangeShapes Go.WideShapes Go.Deep

section
variable {H : Type} {enc : TypeId × Value → H} {w : World} {base : Nat} {sp : Nat → Bool} {held : Bool}
/-- Paths in memory. -/
def PathsIs (w : World) (a : Option Addr) (n : Nat) : Prop := ∃ ps : List (List PS4), ps.length = n ∧ ∀ j (h : j < ps.length), ∃ g off b pc, a = some ⟨g, off, none⟩ ∧ g < w.heap.size ∧ w.cell? ⟨g, off + j, none⟩ = some (.slice b ps[j].length pc) ∧ PM w b ps[j]
theorem one_path {fuel : Nat} {cs : List Value} {x : DataW H × List MemPlace} (h : DataW.trod enc Tryd.prog w base sp held fuel 31 cs = some x) : ∃ (b : Option Addr) (pc : Nat) (q : List PS4), cs = [.slice b q.length pc] ∧ PM w b q := by
  have h0 := h
  rcases open_slice Tryd.underlying31 h with ⟨hcs, _⟩ | ⟨a', len', cap', m, n, D, Pl, hcs, _⟩
  · subst hcs
    exact ⟨none, 0, [], rfl, fun j hj => absurd hj (by simp)⟩
  · subst hcs
    obtain ⟨q, hq, hM, _⟩ := path_read (d := x.1) (p := x.2) (a := some a') (len := len') (cap := cap') ⟨fuel, h0⟩
    subst hq
    exact ⟨some a', cap', q, rfl, hM⟩
set_option maxRecDepth 100000 in
theorem paths_read {d : DataW H} {p : List MemPlace} {a : Option Addr} {len cap : Nat} (h : DataW.Trod enc Tryd.prog w base sp held 39 (.slice a len cap) d p) : PathsIs w a len := by
  obtain ⟨fuel, hf⟩ := h
  rcases open_slice Tryd.underlying39 hf with ⟨hcs, _⟩ | ⟨a', len', cap', m, n, D, Pl, hcs, hb, hl, hm, hmm, _, hx⟩
  · simp [Value.cells] at hcs
    obtain ⟨rfl, rfl, rfl⟩ := hcs
    exact ⟨[], rfl, fun j hj => absurd hj (by simp)⟩
  · simp [Value.cells] at hcs
    obtain ⟨rfl, rfl, rfl⟩ := hcs
    have hC : Tryd.prog.cellsOf 31 = 1 := by kernel_rfl
    rw [hC] at hx
    have hlm : len ≤ m := by rw [hmm]; split <;> omega
    have step : ∀ i, i < len → ∃ q : List PS4, ∃ b pc, w.cell? (a'.add i) = some (.slice b q.length pc) ∧ PM w b q := by
      intro i hi
      obtain ⟨cs', h1, h2⟩ := hx i (by omega)
      obtain ⟨b, pc, q, rfl, hM⟩ := one_path h2
      obtain ⟨_, _, h5⟩ := World.cells?_some h1
      refine ⟨q, b, pc, ?_, hM⟩
      have := h5 0 (by omega)
      rw [add_add, Nat.mul_one, Nat.add_zero] at this
      exact this
    obtain ⟨ps, hpl, hp⟩ := list_of len step
    refine ⟨ps, hpl, fun j hj => ?_⟩
    obtain ⟨b, pc, hc, hM⟩ := hp j hj
    obtain ⟨b0, pc0, hc0, _⟩ := hp 0 (by omega)
    rw [show a'.add 0 = a' by unfold Addr.add; simp] at hc0
    obtain ⟨e, hlt⟩ := spot_none hc0
    rw [e, add_plain] at hc
    exact ⟨a'.block, a'.off, b, pc, by rw [← e], hlt, hc, hM⟩
end

end Go.Proofs.YtjnedbkbhoiopaaDoor
