/- Arguments that are steps of paths, or slices of them, read; no statement of the seat is proved here. -/
import Derived.Test.YtjnedbkbhoiopaaDoorPtS
import Derived.Deep.Slices
import Derived.ChangeSame
namespace Go.Proofs.YtjnedbkbhoiopaaDoor
open Go.RowKit Go.ChangeShapes Go.WideShapes Go.Deep

section
variable {H : Type} {enc : TypeId × Value → H} {w : World} {base : Nat} {sp : Nat → Bool} {held : Bool}
theorem fld_one {P : Program} {n : Nat} {fs : Array Field} {cs : List Value} {xs : List (DataW H × List MemPlace)} (hf : ∀ (i : Nat) (f : Field), fs[i]? = some f → DataW.trod enc P w base sp held n f.type ((cs.drop f.offset).take (P.cellsOf f.type)) = xs[i]?) (hl : xs.length = fs.size)
    (i : Nat) (f : Field) (hi : fs[i]? = some f) : ∃ x, DataW.trod enc P w base sp held n f.type ((cs.drop f.offset).take (P.cellsOf f.type)) = some x := by
  have h1 : i < xs.length := by rw [hl]; exact (Array.getElem?_eq_some_iff.1 hi).1
  exact ⟨xs[i], by rw [hf i f hi]; exact List.getElem?_eq_getElem h1⟩
theorem take_one {cs : List Value} {i : Nat} {v : Value} (h : (cs.drop i).take 1 = [v]) : cs[i]? = some v := by
  cases e : cs.drop i with
  | nil => rw [e] at h; cases h
  | cons x l =>
    rw [e] at h
    simp at h
    subst h
    have := congrArg (fun l => l[0]?) e
    simpa using this
/-- A step of a path is read. -/
theorem pstep_read {fuel : Nat} {cs : List Value} {x : DataW H × List MemPlace} (h : DataW.trod enc Tryd.prog w base sp held fuel 50 cs = some x) : ∃ s : PS4, cs = cellsP s ∧ s.t.size ≤ maxLen ∧ s.d.size ≤ maxLen ∧ (Lit.int .i64 s.a).wf = true := by
  obtain ⟨xs, n, _, _, hlen, hxl, hf⟩ := DataW.trod_struct Tryd.underlying50 h
  have hC : Tryd.prog.cellsOf 50 = 4 := by kernel_rfl
  rw [hC] at hlen
  obtain ⟨x0, g0⟩ := fld_one hf hxl 0 _ rfl
  obtain ⟨x1, g1⟩ := fld_one hf hxl 1 _ rfl
  obtain ⟨x2, g2⟩ := fld_one hf hxl 2 _ rfl
  obtain ⟨x3, g3⟩ := fld_one hf hxl 3 _ rfl
  have c0 : Tryd.prog.cellsOf 48 = 1 := by kernel_rfl
  have c1 : Tryd.prog.cellsOf 9 = 1 := by kernel_rfl
  have c3 : Tryd.prog.cellsOf 3 = 1 := by kernel_rfl
  change DataW.trod enc Tryd.prog w base sp held n 48 ((cs.drop 0).take (Tryd.prog.cellsOf 48)) = some x0 at g0
  change DataW.trod enc Tryd.prog w base sp held n 9 ((cs.drop 1).take (Tryd.prog.cellsOf 9)) = some x1 at g1
  change DataW.trod enc Tryd.prog w base sp held n 9 ((cs.drop 2).take (Tryd.prog.cellsOf 9)) = some x2 at g2
  change DataW.trod enc Tryd.prog w base sp held n 3 ((cs.drop 3).take (Tryd.prog.cellsOf 3)) = some x3 at g3
  rw [c0] at g0; rw [c1] at g1 g2; rw [c3] at g3
  obtain ⟨z0, e0, _, w0⟩ := DataW.trod_int Tryd.underlying48 g0
  obtain ⟨s1, e1, _, w1⟩ := DataW.trod_string Tryd.underlying9 g1
  obtain ⟨s2, e2, _, w2⟩ := DataW.trod_string Tryd.underlying9 g2
  obtain ⟨z3, e3, _, w3⟩ := DataW.trod_int Tryd.underlying3 g3
  obtain ⟨k, rfl⟩ := u8_of w0
  refine ⟨⟨k, s1, s2, z3⟩, ?_, w1, w2, w3⟩
  apply List.ext_getElem?
  intro j
  match j with
  | 0 => rw [take_one e0]; rfl
  | 1 => rw [take_one e1]; rfl
  | 2 => rw [take_one e2]; rfl
  | 3 => rw [take_one e3]; rfl
  | j + 4 => rw [List.getElem?_eq_none (by omega)]; rfl
/-- A path that came in. -/
def PathIs (w : World) (a : Option Addr) (n : Nat) : Prop := ∃ path : List PS4, path.length = n ∧ PM w a path ∧ ∀ x ∈ path, x.t.size ≤ maxLen ∧ x.d.size ≤ maxLen
theorem list_of {α : Type} {p : Nat → α → Prop} : ∀ n, (∀ i, i < n → ∃ x, p i x) → ∃ l : List α, l.length = n ∧ ∀ i (h : i < l.length), p i l[i]
  | 0, _ => ⟨[], rfl, fun i h => absurd h (by simp)⟩
  | n + 1, h => by
    obtain ⟨l, h1, h2⟩ := list_of n (fun i hi => h i (by omega))
    obtain ⟨x, hx⟩ := h n (by omega)
    refine ⟨l ++ [x], by simp [h1], fun i hi => ?_⟩
    rcases Nat.lt_or_ge i l.length with h3 | h3
    · rw [List.getElem_append_left h3]; exact h2 i h3
    · obtain rfl : i = l.length := by simp at hi; omega
      rw [List.getElem_append_right (Nat.le_refl _)]
      simp only [Nat.sub_self, List.getElem_cons_zero]
      rw [h1]; exact hx
theorem spot_none {w : World} {a : Addr} {v : Value} (h : w.cell? a = some v) : a = ⟨a.block, a.off, none⟩ ∧ a.block < w.heap.size := by
  obtain ⟨b, o, s⟩ := a
  have hlt := World.block_lt_of_cell? w _ h
  unfold World.cell? at h
  cases s with
  | none => exact ⟨rfl, hlt⟩
  | some x =>
    split at h
    · simp at h
    · cases h
theorem path_read {d : DataW H} {p : List MemPlace} {a : Option Addr} {len cap : Nat} (h : DataW.Trod enc Tryd.prog w base sp held 31 (.slice a len cap) d p) : PathIs w a len := by
  obtain ⟨fuel, hf⟩ := h
  rcases open_slice Tryd.underlying31 hf with ⟨hcs, _⟩ | ⟨a', len', cap', m, n, D, Pl, hcs, hb, hl, hm, hmm, _, hx⟩
  · simp [Value.cells] at hcs
    obtain ⟨rfl, rfl, rfl⟩ := hcs
    exact ⟨[], rfl, fun j hj => absurd hj (by simp), by simp⟩
  · simp [Value.cells] at hcs
    obtain ⟨rfl, rfl, rfl⟩ := hcs
    have hC : Tryd.prog.cellsOf 50 = 4 := by kernel_rfl
    rw [hC] at hx
    have hlm : len ≤ m := by rw [hmm]; split <;> omega
    have step : ∀ i, i < len → ∃ s : PS4, (∀ r, r < 4 → w.cell? (a'.add (i * 4 + r)) = (cellsP s)[r]?) ∧ s.t.size ≤ maxLen ∧ s.d.size ≤ maxLen := by
      intro i hi
      obtain ⟨cs', h1, h2⟩ := hx i (by omega)
      obtain ⟨s, rfl, h3, h4, _⟩ := pstep_read h2
      obtain ⟨_, _, h5⟩ := World.cells?_some h1
      exact ⟨s, fun r hr => by rw [← h5 r hr, add_add], h3, h4⟩
    obtain ⟨path, hpl, hp⟩ := list_of len step
    refine ⟨path, hpl, fun j hj => ?_, fun x hx => ?_⟩
    · obtain ⟨hc, _⟩ := hp j hj
      have q0 := hc 0 (by omega); have q1 := hc 1 (by omega); have q2 := hc 2 (by omega); have q3 := hc 3 (by omega)
      have z0 : w.cell? a' = some (.int .u8 ((path[0]'(by omega)).k.toNat : Int)) := by
        have := (hp 0 (by omega)).1 0 (by omega)
        rwa [show a'.add (0 * 4 + 0) = a' by unfold Addr.add; simp] at this
      obtain ⟨e, hlt⟩ := spot_none z0
      rw [e, add_plain] at q0 q1 q2 q3
      exact ⟨a'.block, a'.off, by rw [← e], hlt, q0, q1, q2, q3⟩
    · obtain ⟨i, hi, rfl⟩ := List.mem_iff_getElem.1 hx
      exact (hp i hi).2
end

end Go.Proofs.YtjnedbkbhoiopaaDoor
