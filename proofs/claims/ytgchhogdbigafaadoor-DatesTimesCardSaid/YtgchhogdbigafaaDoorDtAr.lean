/- An argument that is an array of five whole numbers, by value, opened and shut; no statement of the seat is proved here. -/
import Derived.Test.YtgchhogdbigafaaDoorBase
import Derived.WideKeyPair
namespace Go.Proofs.YtgchhogdbigafaaDoor
open Go.ChangeShapes Go.WideShapes Go.WideMaps

section
variable {H : Type} {enc : TypeId × Value → H} {P : Program} {k e : TypeId} {q : IntKind} {W : World} {base : Nat} {sp : Nat → Bool} {held : Bool}

theorem okWide_five (A : ArrKey P k e 5) {r : Reach} {b0 : Nat} {v : Value} (h : Value.okWide P W r b0 k v) : ∃ c0 c1 c2 c3 c4, v = .agg #[c0, c1, c2, c3, c4] := by
  simp only [Value.okWide, A.hu] at h
  obtain ⟨cs, h1, h2, _⟩ := h
  rw [A.size] at h2
  obtain ⟨l⟩ := cs
  match l, h2 with
  | [c0, c1, c2, c3, c4], _ => exact ⟨c0, c1, c2, c3, c4, h1⟩

theorem open_five (A : ArrKey P k e 5) (he : P.underlying e = some (.int q)) {r : Reach} {b0 : Nat} {v : Value} {d : DataW H} {ps : List MemPlace} (hval : Value.okWide P W r b0 k v) (hd : DataW.Trod enc P W base sp held k v d ps) :
    ∃ x0 x1 x2 x3 x4 : Int, v = .agg #[.int q x0, .int q x1, .int q x2, .int q x3, .int q x4] ∧ d = .agg [.lit (.int q x0), .lit (.int q x1), .lit (.int q x2), .lit (.int q x3), .lit (.int q x4)] ∧ ps = [] ∧
      (Lit.int q x0).wf = true ∧ (Lit.int q x1).wf = true ∧ (Lit.int q x2).wf = true ∧ (Lit.int q x3).wf = true ∧ (Lit.int q x4).wf = true := by
  obtain ⟨c0, c1, c2, c3, c4, rfl⟩ := okWide_five A hval
  obtain ⟨fuel, hf⟩ := hd
  cases fuel with
  | zero => simp [DataW.trod] at hf
  | succ n =>
    rw [DataW.trod_step] at hf
    unfold DataW.trodStep at hf
    simp only [A.hu, Value.cells] at hf
    rw [if_pos (by rw [A.size]; rfl)] at hf
    simp only [Option.map_eq_some_iff] at hf
    obtain ⟨xs, hx, e1⟩ := hf
    rw [show List.range 5 = [0, 1, 2, 3, 4] from rfl, List.mapM_cons, List.mapM_cons, List.mapM_cons, List.mapM_cons, List.mapM_cons, List.mapM_nil] at hx
    simp only [bind, Option.bind_eq_some_iff, pure, Option.some.injEq, A.one] at hx
    obtain ⟨y0, h0, _, ⟨y1, h1, _, ⟨y2, h2, _, ⟨y3, h3, _, ⟨y4, h4, _, rfl, rfl⟩, rfl⟩, rfl⟩, rfl⟩, rfl⟩ := hx
    obtain ⟨x0, q0, rfl, w0⟩ := DataW.trod_int he h0
    obtain ⟨x1, q1, rfl, w1⟩ := DataW.trod_int he h1
    obtain ⟨x2, q2, rfl, w2⟩ := DataW.trod_int he h2
    obtain ⟨x3, q3, rfl, w3⟩ := DataW.trod_int he h3
    obtain ⟨x4, q4, rfl, w4⟩ := DataW.trod_int he h4
    simp at q0 q1 q2 q3 q4
    subst q0; subst q1; subst q2; subst q3; subst q4
    simp only [Prod.mk.injEq] at e1
    exact ⟨x0, x1, x2, x3, x4, rfl, by rw [← e1.1]; rfl, by rw [← e1.2]; rfl, w0, w1, w2, w3, w4⟩

theorem shut_five (A : ArrKey P k e 5) (he : P.underlying e = some (.int q)) {x0 x1 x2 x3 x4 : Int} (w0 : (Lit.int q x0).wf = true) (w1 : (Lit.int q x1).wf = true) (w2 : (Lit.int q x2).wf = true) (w3 : (Lit.int q x3).wf = true) (w4 : (Lit.int q x4).wf = true) :
    DataW.Trod enc P W base sp held k (.agg #[.int q x0, .int q x1, .int q x2, .int q x3, .int q x4]) (.agg [.lit (.int q x0), .lit (.int q x1), .lit (.int q x2), .lit (.int q x3), .lit (.int q x4)]) [] :=
  ⟨2, by
    show DataW.trod enc P W base sp held (1 + 1) k [.int q x0, .int q x1, .int q x2, .int q x3, .int q x4] = _
    rw [DataW.trod_step]
    unfold DataW.trodStep
    simp only [A.hu]
    rw [if_pos (by rw [A.size]; rfl), show List.range 5 = [0, 1, 2, 3, 4] from rfl, List.mapM_cons, List.mapM_cons, List.mapM_cons, List.mapM_cons, List.mapM_cons, List.mapM_nil]
    simp [A.one, DataW.trod, he, w0, w1, w2, w3, w4]⟩

end

end Go.Proofs.YtgchhogdbigafaaDoor
