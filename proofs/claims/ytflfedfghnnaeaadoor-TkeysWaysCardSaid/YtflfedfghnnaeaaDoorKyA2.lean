/- An argument of two strings, read; no statement of the seat is proved here. -/
import Derived.Test.YtflfedfghnnaeaaDoorKyAr
import Derived.WideKeyPair
namespace Go.Proofs.YtflfedfghnnaeaaDoor
open Go.RowKit Go.ChangeShapes Go.WideShapes Go.Deep
set_option maxRecDepth 10000

theorem pairS : WideMaps.ArrKey Tryd.prog 23 9 2 := ⟨Tryd.underlying23, by kernel_rfl, by kernel_rfl, by kernel_rfl⟩
section
variable {H : Type} {enc : TypeId × Value → H} {w : World} {base : Nat} {sp : Nat → Bool} {held : Bool}
theorem open_two {r : Reach} {b0 : Nat} {v : Value} {d : DataW H} {ps : List MemPlace} (hval : Value.okWide Tryd.prog w r b0 23 v) (hd : DataW.Trod enc Tryd.prog w base sp held 23 v d ps) :
    ∃ x y : ByteArray, v = .agg #[.string x, .string y] := by
  obtain ⟨c0, c1, rfl⟩ := WideMaps.okWide_pair pairS hval
  obtain ⟨fuel, hf⟩ := hd
  cases fuel with
  | zero => simp [DataW.trod] at hf
  | succ n =>
    rw [DataW.trod_step] at hf
    unfold DataW.trodStep at hf
    simp only [pairS.hu, Value.cells] at hf
    rw [if_pos (by rw [pairS.size]; rfl)] at hf
    simp only [Option.map_eq_some_iff] at hf
    obtain ⟨xs, hx, e1⟩ := hf
    rw [show List.range 2 = [0, 1] from rfl, List.mapM_cons, List.mapM_cons, List.mapM_nil] at hx
    simp only [bind, Option.bind_eq_some_iff, pure, Option.some.injEq, pairS.one] at hx
    obtain ⟨y0, h0, _, ⟨y1, h1, _, rfl, rfl⟩, rfl⟩ := hx
    obtain ⟨a, ea, _, _⟩ := DataW.trod_string Tryd.underlying9 h0
    obtain ⟨b, eb, _, _⟩ := DataW.trod_string Tryd.underlying9 h1
    simp at ea eb
    subst ea; subst eb
    exact ⟨a, b, rfl⟩
end

end Go.Proofs.YtflfedfghnnaeaaDoor
