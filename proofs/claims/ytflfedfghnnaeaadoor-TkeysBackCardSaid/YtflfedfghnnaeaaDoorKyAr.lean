/- Arguments that are lists of strings, or two strings, read; no statement of the seat is proved here. -/
import Derived.Test.YtflfedfghnnaeaaDoorKyG
import Derived.Deep.Strs
import Derived.ChangeSame
import Derived.WideKeyPair
import Derived.WideShapes
namespace Go.Proofs.YtflfedfghnnaeaaDoor
open Go.RowKit Go.ChangeShapes Go.WideShapes Go.Deep
set_option maxRecDepth 10000

theorem pairS : WideMaps.ArrKey Tryd.prog 23 9 2 := ⟨Tryd.underlying23, by kernel_rfl, by kernel_rfl, by kernel_rfl⟩
section
variable {H : Type} {enc : TypeId × Value → H} {w : World} {base : Nat} {sp : Nat → Bool} {held : Bool}
theorem list_of {α : Type} {p : Nat → α → Prop} : ∀ n, (∀ i, i < n → ∃ x, p i x) → ∃ l : List α, l.length = n ∧ ∀ i (h : i < l.length), p i l[i]
  | 0, _ => ⟨[], rfl, fun i h => absurd h (by simp)⟩
  | n + 1, h => by
    obtain ⟨l, h1, h2⟩ := list_of n (fun i hi => h i (by omega))
    obtain ⟨x, hx⟩ := h n (by omega)
    refine ⟨l ++ [x], by simp [h1], fun i hi => ?_⟩
    rcases Nat.lt_or_ge i l.length with h3 | h3
    · rw [List.getElem_append_left h3]; exact h2 i h3
    · obtain rfl : i = l.length := by simp at hi; omega
      rw [List.getElem_append_right (Nat.le_refl _)]
      simp only [Nat.sub_self, List.getElem_cons_zero]
      rw [h1]; exact hx
theorem spot_none {w : World} {a : Addr} {v : Value} (h : w.cell? a = some v) : a = ⟨a.block, a.off, none⟩ ∧ a.block < w.heap.size := by
  obtain ⟨b, o, s⟩ := a
  have hlt := World.block_lt_of_cell? w _ h
  unfold World.cell? at h
  cases s with
  | none => exact ⟨rfl, hlt⟩
  | some x =>
    split at h
    · simp at h
    · cases h
/-- Strings that came in. -/
def StrsArg (w : World) (a : Option Addr) (n cap : Nat) : Prop := n ≤ cap ∧ (n = 0 ∨ ∃ b o xs, a = some ⟨b, o, none⟩ ∧ xs.length = n ∧ TxA w b o xs)
theorem strs_read {d : DataW H} {p : List MemPlace} {a : Option Addr} {len cap : Nat} (h : DataW.Trod enc Tryd.prog w base sp held 22 (.slice a len cap) d p) : StrsArg w a len cap := by
  obtain ⟨fuel, hf⟩ := h
  rcases open_strs Tryd.underlying22 Tryd.underlying9 (by kernel_rfl) hf with ⟨hcs, _⟩ | ⟨a', len', cap', m, Sx, hcs, hb, hl, hm, hmm, _, hx⟩
  · simp [Value.cells] at hcs
    obtain ⟨rfl, rfl, rfl⟩ := hcs
    exact ⟨Nat.le_refl _, .inl rfl⟩
  · simp [Value.cells] at hcs
    obtain ⟨rfl, rfl, rfl⟩ := hcs
    have hlm : len ≤ m := by rw [hmm]; split <;> omega
    rcases Nat.eq_zero_or_pos len with h0 | h0
    · exact ⟨hl, .inl h0⟩
    have z0 : w.cell? a' = some (.string (Sx 0)) := by
      have := (hx 0 (by omega)).1
      rwa [show a'.add 0 = a' by unfold Addr.add; simp] at this
    obtain ⟨e, hlt⟩ := spot_none z0
    refine ⟨hl, .inr ⟨a'.block, a'.off, (List.range len).map Sx, by rw [← e], by simp, hlt, fun j hj => ?_⟩⟩
    have hj' : j < len := by simpa using hj
    have := (hx j (by omega)).1
    rw [e, add_plain] at this
    simpa using this
theorem open_two {r : Reach} {b0 : Nat} {v : Value} {d : DataW H} {ps : List MemPlace} (hval : Value.okWide Tryd.prog w r b0 23 v) (hd : DataW.Trod enc Tryd.prog w base sp held 23 v d ps) :
    ∃ x y : ByteArray, v = .agg #[.string x, .string y] := by
  obtain ⟨c0, c1, rfl⟩ := WideMaps.okWide_pair pairS hval
  obtain ⟨fuel, hf⟩ := hd
  cases fuel with
  | zero => simp [DataW.trod] at hf
  | succ n =>
    rw [DataW.trod_step] at hf
    unfold DataW.trodStep at hf
    simp only [pairS.hu, Value.cells] at hf
    rw [if_pos (by rw [pairS.size]; rfl)] at hf
    simp only [Option.map_eq_some_iff] at hf
    obtain ⟨xs, hx, e1⟩ := hf
    rw [show List.range 2 = [0, 1] from rfl, List.mapM_cons, List.mapM_cons, List.mapM_nil] at hx
    simp only [bind, Option.bind_eq_some_iff, pure, Option.some.injEq, pairS.one] at hx
    obtain ⟨y0, h0, _, ⟨y1, h1, _, rfl, rfl⟩, rfl⟩ := hx
    obtain ⟨a, ea, _, _⟩ := DataW.trod_string Tryd.underlying9 h0
    obtain ⟨b, eb, _, _⟩ := DataW.trod_string Tryd.underlying9 h1
    simp at ea eb
    subst ea; subst eb
    exact ⟨a, b, rfl⟩
end

end Go.Proofs.YtflfedfghnnaeaaDoor
