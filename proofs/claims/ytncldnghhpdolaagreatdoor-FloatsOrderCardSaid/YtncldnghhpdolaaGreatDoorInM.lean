/- From the laid variables, and the world's shape, to what the walks lean on; no statement of the seat is proved here. -/
import Derived.Test.YtncldnghhpdolaaGreatDoorInY
import Derived.Test.YtncldnghhpdolaaGreatDoorRows
import Derived.LaidMore
import Derived.LaidLaws
import Derived.ProofKit
import Derived.Handed
import Derived.HandedShaped
import Derived.Stop.Joined
import Derived.Stop.LaidErr
import Derived.Lib.LaidTab
import Derived.Lib.LaidU8
import Derived.Shelf.Vars
import Derived.OpenShut
import Derived.Lib.AppendIntMem
namespace Go.Proofs.YtncldnghhpdolaaGreatDoor
open Go.ChangeShapes Go.WideShapes Go.ChangeAt Go.RowKit

theorem laid_next {P : Program} {w : World} {n : String} {d : DataW Unit} {l : List (String × DataW Unit)} {ps : List MemPlace} (h : DataW.LaidVars P w ((n, d) :: l) ps) :
    (∃ g t cs fuel p, P.globalNamed n = some g ∧ (P.globals[g]?).map (·.type) = some t ∧ w.var? P n = some cs ∧ DataW.trod (fun _ => ()) P w 0 (fun _ => true) false fuel t cs.toList = some (d, p)) ∧ ∃ q, DataW.LaidVars P w l q := by
  obtain ⟨g, t, cs, fuel, p, q, h1, h2, h3, h4, h5, _⟩ := h
  exact ⟨⟨g, t, cs, fuel, p, h1, h2, h3, h4⟩, q, h5⟩
def DataW.elem (d : DataW Unit) (k : Nat) : Option (DataW Unit) := match d with | .agg ds => ds[k]? | _ => Option.none
theorem star : "*" ++ "errors.errorString" = "*errors.errorString" := by decide
theorem row_err (u : TypeId) (h : Tryz.prog.typeName? 3 u = some "*errors.errorString") : u = 159 :=
  typeName_ptr_named (nm := "errors.errorString") (by rw [star]; kernel_rfl) (by kernel_rfl) (by decide) u (by rw [star]; exact h)
theorem cells_str : Tryz.prog.cellsOf 9 = 1 := by kernel_rfl
theorem cells_int : Tryz.prog.cellsOf 3 = 1 := by kernel_rfl
theorem cells_err : Tryz.prog.cellsOf 161 = 1 := by kernel_rfl
theorem cells_rad : Tryz.prog.cellsOf 55 = 3 := by kernel_rfl
theorem len3 {α : Type} {l : List α} (h : l.length = 3) : ∃ a b c, l = [a, b, c] := by
  cases l with
  | nil => cases h
  | cons a l =>
    cases l with
    | nil => cases h
    | cons b l =>
      cases l with
      | nil => cases h
      | cons c l =>
        have : l = [] := List.length_eq_zero_iff.1 (by simpa using h)
        exact ⟨a, b, c, by rw [this]⟩
theorem radix_cells {W : World} {fuel : Nat} {cs : List Value} {a d : List UInt8} {z : Int} {p : List MemPlace}
    (h : DataW.trod (fun _ => ()) Tryz.prog W 0 (fun _ => true) false fuel 55 cs = some ((.agg [.lit (.string a), .lit (.int .i64 z), .lit (.string d)] : DataW Unit), p)) :
    cs = [.string ⟨a.toArray⟩, .int .i64 z, .string ⟨d.toArray⟩] := by
  obtain ⟨xs, n, rfl, hx, hl, hxl, hall⟩ := DataW.trod_struct Tryz.underlying55 h
  have hxs : xs.map (·.1) = [.lit (.string a), .lit (.int .i64 z), .lit (.string d)] := by
    have := congrArg Prod.fst hx
    simpa using this.symm
  rw [cells_rad] at hl
  obtain ⟨x0, x1, x2, rfl⟩ := len3 (show xs.length = 3 from hxl)
  obtain ⟨c0, c1, c2, rfl⟩ := len3 hl
  simp only [List.map_cons, List.map_nil, List.cons.injEq, and_true] at hxs
  obtain ⟨e0, e1, e2⟩ := hxs
  have h0 : DataW.trod (fun _ => ()) Tryz.prog W 0 (fun _ => true) false n 9 (([c0, c1, c2].drop 0).take (Tryz.prog.cellsOf 9)) = some x0 := hall 0 _ rfl
  have h1 : DataW.trod (fun _ => ()) Tryz.prog W 0 (fun _ => true) false n 3 (([c0, c1, c2].drop 1).take (Tryz.prog.cellsOf 3)) = some x1 := hall 1 _ rfl
  have h2 : DataW.trod (fun _ => ()) Tryz.prog W 0 (fun _ => true) false n 9 (([c0, c1, c2].drop 2).take (Tryz.prog.cellsOf 9)) = some x2 := hall 2 _ rfl
  rw [cells_str] at h0 h2
  rw [cells_int] at h1
  obtain ⟨s0, k0, j0, _⟩ := DataW.trod_string Tryz.underlying9 h0
  obtain ⟨y1, k1, j1, _⟩ := DataW.trod_int Tryz.underlying3 h1
  obtain ⟨s2, k2, j2, _⟩ := DataW.trod_string Tryz.underlying9 h2
  have m0 : c0 = .string s0 := by simpa using k0
  have m1 : c1 = .int .i64 y1 := by simpa using k1
  have m2 : c2 = .string s2 := by simpa using k2
  subst m0 m1 m2
  rw [j0] at e0
  rw [j1] at e1
  rw [j2] at e2
  simp only [DataW.lit.injEq, Lit.string.injEq, Lit.int.injEq, true_and] at e0 e1 e2
  rw [← e0, ← e1, ← e2]

theorem cut9 {α : Type} {l A B C : List α} (hl : l.length = 9) (hA : (l.drop (0 * 3)).take 3 = A) (hB : (l.drop (1 * 3)).take 3 = B) (hC : (l.drop (2 * 3)).take 3 = C) : l = A ++ (B ++ C) := by
  rw [← hA, ← hB, ← hC]
  simp only [Nat.zero_mul, List.drop_zero, Nat.one_mul, Nat.reduceMul]
  conv => lhs; rw [← List.take_append_drop 3 l, ← List.take_append_drop 3 (l.drop 3), List.drop_drop]
  rw [List.take_of_length_le (l := l.drop (3 + 3)) (by rw [List.length_drop]; omega)]
theorem cells_rads : Tryz.prog.cellsOf 94 = 9 := by kernel_rfl
theorem rads_row {W : World} {fuel : Nat} {cs : Array Value} {p : List MemPlace}
    (h : DataW.trod (fun _ => ()) Tryz.prog W 0 (fun _ => true) false fuel 94 cs.toList = some ((Rows.laid_inarch_ints_radixes : DataW Unit), p)) :
    cs = #[.string (begB 16), .int .i64 16, .string (digB 16), .string (begB 8), .int .i64 8, .string (digB 8), .string (begB 2), .int .i64 2, .string (digB 2)] := by
  have el : ∀ k, k < 3 → ∃ fuel' d q, DataW.elem Rows.laid_inarch_ints_radixes k = some d ∧ DataW.trod (fun _ => ()) Tryz.prog W 0 (fun _ => true) false fuel' 55 ((cs.toList.drop (k * 3)).take 3) = some (d, q) := by
    intro k hk
    have h' := h
    unfold Rows.laid_inarch_ints_radixes at h' ⊢
    obtain ⟨f', d, q, hd, ht⟩ := Lib.array_elem Tryz.underlying94 h' k hk
    rw [cells_rad] at ht
    exact ⟨f', d, q, hd, ht⟩
  obtain ⟨xs, m, _, _, hl, _, _⟩ := DataW.trod_array Tryz.underlying94 h
  rw [cells_rads] at hl
  obtain ⟨f0, d0, q0, g0, t0⟩ := el 0 (by omega)
  obtain ⟨f1, d1, q1, g1, t1⟩ := el 1 (by omega)
  obtain ⟨f2, d2, q2, g2, t2⟩ := el 2 (by omega)
  obtain rfl := Option.some.inj g0
  obtain rfl := Option.some.inj g1
  obtain rfl := Option.some.inj g2
  have := cut9 hl (radix_cells t0) (radix_cells t1) (radix_cells t2)
  apply Array.toList_inj.1
  rw [this]
  rfl

/-- What the rows lay, and the shape of the first world. -/
theorem of_laid {l rest : List (String × DataW Unit)} (hl : l = ("math/bits.deBruijn32tab", Rows.laid_math_bits_deBruijn32tab) :: ("math/bits.deBruijn64tab", Rows.laid_math_bits_deBruijn64tab) :: ("internal/strconv.uint64pow10", Rows.laid_internal_strconv_uint64pow10) ::
      ("unicode/utf8.acceptRanges", Rows.laid_unicode_utf8_acceptRanges) :: ("strconv.ErrRange", Rows.laid_strconv_ErrRange) :: ("strconv.ErrSyntax", Rows.laid_strconv_ErrSyntax) :: ("inarch/ints.radixes", Rows.laid_inarch_ints_radixes) :: rest)
    {W : World} (h : laidMetH Tryz.prog l W) (hp : laidMetH Tryz.prog l W → laidMet Tryz.prog l W) (hsh : W.ShapedOpen Tryz.prog) : Gl W := by
  have h := hp h
  subst hl
  obtain ⟨_, _, vR, _⟩ := laid_sentinel (laidMet.tail (laidMet.tail (laidMet.tail (laidMet.tail h)))) (show Tryz.prog.globalNamed "strconv.ErrRange" = some 0 by kernel_rfl) (show (Tryz.prog.globals[0]?).map (·.type) = some 59 by kernel_rfl)
    Tryz.underlying59 row_err Tryz.underlying159 Tryz.underlying161 rfl rfl Tryz.underlying9 cells_err cells_str
  obtain ⟨_, _, vS, _⟩ := laid_sentinel (laidMet.tail (laidMet.tail (laidMet.tail (laidMet.tail (laidMet.tail h))))) (show Tryz.prog.globalNamed "strconv.ErrSyntax" = some 3 by kernel_rfl) (show (Tryz.prog.globals[3]?).map (·.type) = some 59 by kernel_rfl)
    Tryz.underlying59 row_err Tryz.underlying159 Tryz.underlying161 rfl rfl Tryz.underlying9 cells_err cells_str
  obtain ⟨ps, hv, _⟩ := h
  obtain ⟨_, _, hv⟩ := laid_next hv
  obtain ⟨_, _, hv⟩ := laid_next hv
  obtain ⟨⟨g1, t1, cs1, f1, p1, hg1, ht1, hv1, hd1⟩, _, hv⟩ := laid_next hv
  obtain ⟨_, _, hv⟩ := laid_next hv
  obtain ⟨_, _, hv⟩ := laid_next hv
  obtain ⟨_, _, hv⟩ := laid_next hv
  obtain ⟨⟨g2, t2, cs2, f2, p2, hg2, ht2, hv2, hd2⟩, _, hv⟩ := laid_next hv
  obtain rfl := Option.some.inj ((show Tryz.prog.globalNamed "internal/strconv.uint64pow10" = some 4 by kernel_rfl).symm.trans hg1)
  obtain rfl := Option.some.inj ((show (Tryz.prog.globals[4]?).map (·.type) = some 149 by kernel_rfl).symm.trans ht1)
  have hz : (Rows.laid_internal_strconv_uint64pow10 : DataW Unit) = Lib.tabData .u64 Lib.pow10Tab := by rfl
  rw [hz] at hd1
  have ht : Lib.TabIs Tryz.prog W "internal/strconv.uint64pow10" .u64 Lib.pow10Tab := by
    unfold Lib.TabIs
    rw [hv1, ← Lib.cells_of_tab Tryz.underlying149 Tryz.underlying117 (by kernel_rfl) (by kernel_rfl) hd1]
  obtain rfl := Option.some.inj ((show Tryz.prog.globalNamed "inarch/ints.radixes" = some 1 by kernel_rfl).symm.trans hg2)
  obtain rfl := Option.some.inj ((show (Tryz.prog.globals[1]?).map (·.type) = some 94 by kernel_rfl).symm.trans ht2)
  have hr := rads_row hd2
  have hM := Go.Proofs.cell_of_shapedOpen_int (P := Tryz.prog) (g := 2) (zero := #[.int .i64 0]) (t := 3) hsh (of_decide_eq_true (by kernel_rfl)) (by kernel_rfl) rfl (by kernel_rfl) (by kernel_rfl) Tryz.underlying3
  refine ⟨?_, ⟨_, (World.var?_cell (show Tryz.prog.globalNamed "strconv.ErrRange" = some 0 by kernel_rfl) vR 0).trans rfl⟩, ⟨_, (World.var?_cell (show Tryz.prog.globalNamed "strconv.ErrSyntax" = some 3 by kernel_rfl) vS 0).trans rfl⟩, hM, ?_, Lib.tabBelow_of_tabIs ht⟩
  · obtain ⟨cs, h9, _⟩ := hsh.1 8 (Array.replicate 64 (.int .u8 0)) 164 (of_decide_eq_true (by kernel_rfl)) (by kernel_rfl)
    have := (Array.getElem?_eq_some_iff.1 h9).1
    omega
  · subst hr
    unfold World.var? at hv2
    rw [hg2] at hv2
    simp only [Option.bind_some] at hv2
    cases e : W.heap[1]? with
    | none => rw [e] at hv2; cases hv2
    | some o =>
      rw [e] at hv2
      cases o with
      | cells cs t fz =>
        simp only at hv2
        injection hv2 with hv2
        exact ⟨t, fz, by rw [hv2]⟩
      | _ => cases hv2

/-- The plain wrap of a row that lists variables, the first world's shape kept. -/
theorem returns_shaped {H : Type} {enc : TypeId × Value → H} {a : Assume} {C : Checked} {os : Os} {f : FuncId} {fn : Func} {s : ChangeSpec} {conds : List PathCond} {apart fresh handsOn again : Bool} {X : World → Array Value → Prop}
    (hX : ∀ (w w' : World) (args : Array Value), w.heap = w'.heap → X w args → X w' args)
    (own : ownKnob C.prog.godebug = none) (started : os.Started) (noInit : C.prog.inits.idxOf? f = none) (hfn : C.prog.funcs[f]? = some fn)
    (witness : ∃ (w : World) (tape : Tape) (i : Input), w.os = os ∧ (w.forCall tape i).Shaped C.prog ∧ i.vars = [] ∧ Input.okWide C.prog (w.forCall tape i) .any w.heap.size f i ∧
      ((s.pre enc C.prog fn conds apart (w.forCall tape i).memory i.args ∧ X (w.forCall tape i).memory i.args) ∧ sizedMet enc C.prog fn (OpenSpec.ofChange s) apart (w.forCall tape i).memory i.args) ∧ a.holds C.prog (lone (Frame.enter C.prog f i.args .normal) [] (w.forCall tape i)))
    (contract : ∀ (W : World) (base : Nat) (args : Array Value) (ds gs : List (DataW H)) (before : List MemPlace),
      (∀ (j : Nat) t v, fn.params[j]? = some t → args[j]? = some v → Value.okWide C.prog W .any base t v) → DataW.Whole enc C.prog fn.params.toList s.vars apart W args.toList ds gs before → X W args → W.ShapedOpen C.prog →
      Calls C.prog f args W fun e W' => ∃ v, e = .returned v ∧ s.post enc C.prog fn apart fresh handsOn again W args v W') :
    ReturnsInHanded a C os f .any (fun w args => (s.pre enc C.prog fn conds apart w args ∧ X w args) ∧ sizedMet enc C.prog fn (OpenSpec.ofChange s) apart w args) (s.post enc C.prog fn apart fresh handsOn again) := by
  refine returnsInHanded_of_calls own started noInit witness ?_
  intro w tape i _ hsh _ hok hpre _
  obtain ⟨_, _, _, fn', hfn', _, _, _, _, hval⟩ := hok
  obtain rfl : fn' = fn := Option.some.inj (hfn'.symm.trans hfn)
  obtain ⟨⟨⟨ds, gs, before, hw, _⟩, hx⟩, _⟩ := hpre
  refine (contract (w.forCall tape i) w.heap.size i.args ds gs before hval (DataW.Whole.of_heap (w' := w.forCall tape i) (by rfl) hw) (hX _ _ _ (by rfl) hx) hsh).mono fun e W' ⟨v, he, hp⟩ => ?_
  subst he
  exact ChangeSpec.post_blind hp

end Go.Proofs.YtncldnghhpdolaaGreatDoor
