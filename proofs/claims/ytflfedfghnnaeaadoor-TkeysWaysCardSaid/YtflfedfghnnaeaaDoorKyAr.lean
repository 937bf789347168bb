/- Arguments that are lists of strings, or of bytes, read; no statement of the seat is proved here. -/
import Derived.Test.YtflfedfghnnaeaaDoorKyG
import Derived.Deep.Strs
import Derived.ChangeSame
import Derived.WideShapes
namespace Go.Proofs.YtflfedfghnnaeaaDoor
open Go.RowKit Go.ChangeShapes Go.WideShapes Go.Deep
set_option maxRecDepth 10000

section
variable {H : Type} {enc : TypeId × Value → H} {w : World} {base : Nat} {sp : Nat → Bool} {held : Bool}
theorem list_of {α : Type} {p : Nat → α → Prop} : ∀ n, (∀ i, i < n → ∃ x, p i x) → ∃ l : List α, l.length = n ∧ ∀ i (h : i < l.length), p i l[i]
  | 0, _ => ⟨[], rfl, fun i h => absurd h (by simp)⟩
  | n + 1, h => by
    obtain ⟨l, h1, h2⟩ := list_of n (fun i hi => h i (by omega))
    obtain ⟨x, hx⟩ := h n (by omega)
    refine ⟨l ++ [x], by simp [h1], fun i hi => ?_⟩
    rcases Nat.lt_or_ge i l.length with h3 | h3
    · rw [List.getElem_append_left h3]; exact h2 i h3
    · obtain rfl : i = l.length := by simp at hi; omega
      rw [List.getElem_append_right (Nat.le_refl _)]
      simp only [Nat.sub_self, List.getElem_cons_zero]
      rw [h1]; exact hx
theorem spot_none {w : World} {a : Addr} {v : Value} (h : w.cell? a = some v) : a = ⟨a.block, a.off, none⟩ ∧ a.block < w.heap.size := by
  obtain ⟨b, o, s⟩ := a
  have hlt := World.block_lt_of_cell? w _ h
  unfold World.cell? at h
  cases s with
  | none => exact ⟨rfl, hlt⟩
  | some x =>
    split at h
    · simp at h
    · cases h
/-- Strings that came in. -/
def StrsArg (w : World) (a : Option Addr) (n cap : Nat) : Prop := n ≤ cap ∧ (n = 0 ∨ ∃ b o xs, a = some ⟨b, o, none⟩ ∧ xs.length = n ∧ TxA w b o xs)
theorem strs_read {d : DataW H} {p : List MemPlace} {a : Option Addr} {len cap : Nat} (h : DataW.Trod enc Tryd.prog w base sp held 22 (.slice a len cap) d p) : StrsArg w a len cap := by
  obtain ⟨fuel, hf⟩ := h
  rcases open_strs Tryd.underlying22 Tryd.underlying9 (by kernel_rfl) hf with ⟨hcs, _⟩ | ⟨a', len', cap', m, Sx, hcs, hb, hl, hm, hmm, _, hx⟩
  · simp [Value.cells] at hcs
    obtain ⟨rfl, rfl, rfl⟩ := hcs
    exact ⟨Nat.le_refl _, .inl rfl⟩
  · simp [Value.cells] at hcs
    obtain ⟨rfl, rfl, rfl⟩ := hcs
    have hlm : len ≤ m := by rw [hmm]; split <;> omega
    rcases Nat.eq_zero_or_pos len with h0 | h0
    · exact ⟨hl, .inl h0⟩
    have z0 : w.cell? a' = some (.string (Sx 0)) := by
      have := (hx 0 (by omega)).1
      rwa [show a'.add 0 = a' by unfold Addr.add; simp] at this
    obtain ⟨e, hlt⟩ := spot_none z0
    refine ⟨hl, .inr ⟨a'.block, a'.off, (List.range len).map Sx, by rw [← e], by simp, hlt, fun j hj => ?_⟩⟩
    have hj' : j < len := by simpa using hj
    have := (hx j (by omega)).1
    rw [e, add_plain] at this
    simpa using this
/-- Bytes that came in. -/
def BytesArg (w : World) (a : Option Addr) (n : Nat) : Prop := n = 0 ∨ ∃ b o, a = some ⟨b, o, none⟩ ∧ b < w.heap.size ∧ ∀ j, j < n → ∃ z : Nat, z < 256 ∧ w.cell? ⟨b, o + j, none⟩ = some (.int .u8 (z : Int))
theorem bytes_read {d : DataW H} {p : List MemPlace} {a : Option Addr} {len cap : Nat} (h : DataW.Trod enc Tryd.prog w base sp held 40 (.slice a len cap) d p) : BytesArg w a len := by
  obtain ⟨fuel, hf⟩ := h
  rcases open_slice1 Tryd.underlying40 (by kernel_rfl) hf with ⟨hcs, _⟩ | ⟨a', len', cap', m, n, V, D, Pl, hcs, hb, hl, hm, hmm, _, hx⟩
  · simp [Value.cells] at hcs
    obtain ⟨rfl, rfl, rfl⟩ := hcs
    exact .inl rfl
  · simp [Value.cells] at hcs
    obtain ⟨rfl, rfl, rfl⟩ := hcs
    have hlm : len ≤ m := by rw [hmm]; split <;> omega
    rcases Nat.eq_zero_or_pos len with h0 | h0
    · exact .inl h0
    have z0 : w.cell? a' = some (V 0) := by
      have := (hx 0 (by omega)).1
      rwa [show a'.add 0 = a' by unfold Addr.add; simp] at this
    obtain ⟨e, hlt⟩ := spot_none z0
    refine .inr ⟨a'.block, a'.off, by rw [← e], hlt, fun j hj => ?_⟩
    obtain ⟨h1, h2⟩ := hx j (by omega)
    obtain ⟨z, hz, _, hw⟩ := DataW.trod_int Tryd.underlying5 h2
    rw [e, add_plain] at h1
    simp [Lit.wf, IntKind.min, IntKind.max, IntKind.bits, IntKind.signed] at hw
    refine ⟨z.toNat, by omega, ?_⟩
    rw [h1]
    have hv : V j = .int .u8 z := by simpa using hz
    rw [hv, show ((z.toNat : Nat) : Int) = z by omega]
end

end Go.Proofs.YtflfedfghnnaeaaDoor
