/- Arguments that are pieces or documents, read, with the bounds that the reach gives; no statement of the seat is proved here. -/
import Derived.Test.YtpafadfaphaoeaaDoorPcE
import Derived.Deep.Slices
import Derived.ChangeSame
import Derived.WideShapes
import Derived.Laws.IdiomArrays
namespace Go.Proofs.YtpafadfaphaoeaaDoor
open Go.RowKit Go.ChangeShapes Go.WideShapes Go.Deep
set_option maxRecDepth 10000

section
variable {H : Type} {enc : TypeId × Value → H} {w : World} {base : Nat} {sp : Nat → Bool} {held : Bool}
theorem wts_cons {P : Program} {t : TypeId} {ts : List TypeId} {d : DataW H} {r : List (DataW H)} {q : Nat → Bool} (h : (DataW.weightsEach P (t :: ts) (d :: r)).all q = true) : (d.weights P t).all q = true ∧ (DataW.weightsEach P ts r).all q = true := by
  rw [DataW.weightsEach, List.all_append, Bool.and_eq_true] at h
  exact h
theorem wts_mem {P : Program} {e : TypeId} {q : Nat → Bool} : ∀ (l : List (DataW H)), (DataW.weightsAll P e l).all q = true → ∀ d ∈ l, (d.weights P e).all q = true
  | [], _, d, hd => by cases hd
  | x :: l, h, d, hd => by
    rw [DataW.weightsAll, List.all_append, Bool.and_eq_true] at h
    rcases List.mem_cons.1 hd with rfl | hd
    · exact h.1
    · exact wts_mem l h.2 d hd
theorem take_one {cs : List Value} {i : Nat} {v : Value} (h : (cs.drop i).take 1 = [v]) : cs[i]? = some v := by
  cases e : cs.drop i with
  | nil => rw [e] at h; cases h
  | cons x l =>
    rw [e] at h
    simp at h
    subst h
    have := congrArg (fun l => l[0]?) e
    simpa using this
theorem list_of {α : Type} {p : Nat → α → Prop} : ∀ n, (∀ i, i < n → ∃ x, p i x) → ∃ l : List α, l.length = n ∧ ∀ i (h : i < l.length), p i l[i]
  | 0, _ => ⟨[], rfl, fun i h => absurd h (by simp)⟩
  | n + 1, h => by
    obtain ⟨l, h1, h2⟩ := list_of n (fun i hi => h i (by omega))
    obtain ⟨x, hx⟩ := h n (by omega)
    refine ⟨l ++ [x], by simp [h1], fun i hi => ?_⟩
    rcases Nat.lt_or_ge i l.length with h3 | h3
    · rw [List.getElem_append_left h3]; exact h2 i h3
    · obtain rfl : i = l.length := by simp at hi; omega
      rw [List.getElem_append_right (Nat.le_refl _)]
      simp only [Nat.sub_self, List.getElem_cons_zero]
      rw [h1]; exact hx
theorem spot_none {w : World} {a : Addr} {v : Value} (h : w.cell? a = some v) : a = ⟨a.block, a.off, none⟩ ∧ a.block < w.heap.size := by
  obtain ⟨b, o, s⟩ := a
  have hlt := World.block_lt_of_cell? w _ h
  unfold World.cell? at h
  cases s with
  | none => exact ⟨rfl, hlt⟩
  | some x =>
    split at h
    · simp at h
    · cases h
theorem byte_of {z : Int} (h : (Lit.int .u8 z).wf = true) : ∃ c : UInt8, z = (c.toNat : Int) := by
  simp [Lit.wf, IntKind.min, IntKind.max, IntKind.bits, IntKind.signed] at h
  exact ⟨UInt8.ofNat z.toNat, by rw [UInt8.toNat_ofNat']; omega⟩

/-- A piece is read. -/
theorem piece_read {fuel : Nat} {cs : List Value} {x : DataW H × List MemPlace} (h : DataW.trod enc Tryd.prog w base sp held fuel 36 cs = some x) (hw : (x.1.weights Tryd.prog 36).all (· ≤ reachBytes) = true) :
    ∃ p : Pc, cs = p.cells.toList ∧ p.txt.size ≤ reachBytes := by
  obtain ⟨xs, n, _, hx, hlen, hxl, hf⟩ := DataW.trod_struct Tryd.underlying36 h
  have hC : Tryd.prog.cellsOf 36 = 5 := by kernel_rfl
  rw [hC] at hlen
  obtain ⟨y0, y1, y2, y3, rfl⟩ : ∃ y0 y1 y2 y3, xs = [y0, y1, y2, y3] := by
    match xs, hxl with
    | [a, b, c, d], _ => exact ⟨a, b, c, d, rfl⟩
  have g0 := hf 0 _ rfl
  have g1 := hf 1 _ rfl
  have g2 := hf 2 _ rfl
  have g3 := hf 3 _ rfl
  have c0 : Tryd.prog.cellsOf 31 = 1 := by kernel_rfl
  have c1 : Tryd.prog.cellsOf 32 = 1 := by kernel_rfl
  have c2 : Tryd.prog.cellsOf 34 = 2 := by kernel_rfl
  have c3 : Tryd.prog.cellsOf 9 = 1 := by kernel_rfl
  have c4 : Tryd.prog.cellsOf 3 = 1 := by kernel_rfl
  change DataW.trod enc Tryd.prog w base sp held n 31 ((cs.drop 0).take (Tryd.prog.cellsOf 31)) = some y0 at g0
  change DataW.trod enc Tryd.prog w base sp held n 32 ((cs.drop 1).take (Tryd.prog.cellsOf 32)) = some y1 at g1
  change DataW.trod enc Tryd.prog w base sp held n 34 ((cs.drop 2).take (Tryd.prog.cellsOf 34)) = some y2 at g2
  change DataW.trod enc Tryd.prog w base sp held n 9 ((cs.drop 4).take (Tryd.prog.cellsOf 9)) = some y3 at g3
  rw [c0] at g0; rw [c1] at g1; rw [c2] at g2; rw [c3] at g3
  obtain ⟨z0, e0, _, w0⟩ := DataW.trod_int Tryd.underlying31 g0
  obtain ⟨z1, e1, _, w1⟩ := DataW.trod_int Tryd.underlying32 g1
  obtain ⟨xs2, n2, _, _, hlen2, hxl2, hf2⟩ := DataW.trod_struct Tryd.underlying34 g2
  obtain ⟨u0, u1, rfl⟩ : ∃ u0 u1, xs2 = [u0, u1] := by
    match xs2, hxl2 with
    | [a, b], _ => exact ⟨a, b, rfl⟩
  have k0 := hf2 0 _ rfl
  have k1 := hf2 1 _ rfl
  change DataW.trod enc Tryd.prog w base sp held n2 3 ((((cs.drop 2).take 2).drop 0).take (Tryd.prog.cellsOf 3)) = some u0 at k0
  change DataW.trod enc Tryd.prog w base sp held n2 3 ((((cs.drop 2).take 2).drop 1).take (Tryd.prog.cellsOf 3)) = some u1 at k1
  rw [c4] at k0 k1
  obtain ⟨z2, e2, _, w2⟩ := DataW.trod_int Tryd.underlying3 k0
  obtain ⟨z3, e3, _, w3⟩ := DataW.trod_int Tryd.underlying3 k1
  obtain ⟨s, e4, ey, w4⟩ := DataW.trod_string Tryd.underlying9 g3
  obtain ⟨k, rfl⟩ := byte_of w0
  obtain ⟨sd, rfl⟩ := byte_of w1
  refine ⟨⟨k, sd, z2, z3, s⟩, ?_, ?_⟩
  · have f2 : cs[2]? = some (.int .i64 z2) := by have := take_one e2; simpa using this
    have f3 : cs[3]? = some (.int .i64 z3) := by have := take_one e3; simpa using this
    apply List.ext_getElem?
    intro j
    match j with
    | 0 => rw [take_one e0]; rfl
    | 1 => rw [take_one e1]; rfl
    | 2 => rw [f2]; rfl
    | 3 => rw [f3]; rfl
    | 4 => rw [take_one e4]; rfl
    | j + 5 => rw [List.getElem?_eq_none (by omega)]; rfl
  · subst hx ey
    simp only [DataW.weights, Tryd.underlying36, List.map_cons, List.map_nil] at hw
    have h1 := (wts_cons hw).2
    have h2 := (wts_cons h1).2
    have h3 := (wts_cons h2).2
    have h4 := (wts_cons h3).1
    simpa [DataW.weights] using h4
def PcsArg (w : World) (a : Option Addr) (n cap : Nat) : Prop := ∃ l : List Pc, n = l.length ∧ n ≤ cap ∧ n ≤ 140737488355328 ∧ PcM w a l ∧ ∀ p ∈ l, p.txt.size ≤ 140737488355328
theorem pcs_read {d : DataW H} {p : List MemPlace} {a : Option Addr} {len cap : Nat} (h : DataW.Trod enc Tryd.prog w base sp held 22 (.slice a len cap) d p) (hw : (d.weights Tryd.prog 22).all (· ≤ reachBytes) = true) : PcsArg w a len cap := by
  obtain ⟨fuel, hf⟩ := h
  rcases open_slice Tryd.underlying22 hf with ⟨hcs, _⟩ | ⟨a', len', cap', m, n, D, Pl, hcs, hb, hl, hm, hmm, hd, hx⟩
  · simp [Value.cells] at hcs
    obtain ⟨rfl, rfl, rfl⟩ := hcs
    exact ⟨[], rfl, Nat.le_refl _, by omega, fun j hj => absurd hj (by simp), by simp⟩
  · simp [Value.cells] at hcs
    obtain ⟨rfl, rfl, rfl⟩ := hcs
    have hC : Tryd.prog.cellsOf 36 = 5 := by kernel_rfl
    rw [hC] at hx
    have hlm : len ≤ m := by rw [hmm]; split <;> omega
    obtain ⟨hd, _⟩ := Prod.mk.inj hd
    subst hd
    simp only [DataW.weights, Tryd.underlying22, List.all_cons, List.all_append, Bool.and_eq_true, List.length_map, List.length_range, decide_eq_true_eq] at hw
    obtain ⟨hw1, hw2, _⟩ := hw
    have hB : Tryd.prog.bytesOf 36 = 40 := by kernel_rfl
    rw [hB] at hw1
    have hR : reachBytes = 140737488351232 := rfl
    have step : ∀ i, i < len → ∃ s : Pc, (∀ r, r < 5 → w.cell? (a'.add (i * 5 + r)) = s.cells[r]?) ∧ s.txt.size ≤ reachBytes := by
      intro i hi
      obtain ⟨cs', h1, h2⟩ := hx i (by omega)
      obtain ⟨s, rfl, h3⟩ := piece_read h2 (wts_mem _ hw2 _ (List.mem_map.2 ⟨i, List.mem_range.2 hi, rfl⟩))
      obtain ⟨_, _, h5⟩ := World.cells?_some h1
      refine ⟨s, fun r hr => ?_, h3⟩
      have := h5 r hr
      rw [add_add] at this
      rw [this]; simp
    obtain ⟨l, hll, hp⟩ := list_of len step
    refine ⟨l, hll.symm, hl, by omega, fun j hj => ?_, fun x hx => ?_⟩
    · obtain ⟨hc, _⟩ := hp j hj
      have z0 : w.cell? a' = some (.int .u8 ((l[0]'(by omega)).kind.toNat : Int)) := by
        have := (hp 0 (by omega)).1 0 (by omega)
        rwa [show a'.add (0 * 5 + 0) = a' by unfold Addr.add; simp] at this
      obtain ⟨e, hlt⟩ := spot_none z0
      refine ⟨a'.block, a'.off, by rw [← e], hlt, fun r hr => ?_⟩
      have := hc r hr
      rw [e, add_plain] at this
      rw [← this, Nat.add_assoc]
    · obtain ⟨i, hi, rfl⟩ := List.mem_iff_getElem.1 hx
      have := (hp i hi).2
      omega

/-- A row of bytes is read. -/
theorem doc_one {fuel : Nat} {c : Value} {x : DataW H × List MemPlace} (hf : DataW.trod enc Tryd.prog w base sp held fuel 23 [c] = some x) (hw : (x.1.weights Tryd.prog 23).all (· ≤ reachBytes) = true) :
    ∃ A n cap l, c = .slice A n cap ∧ n = l.length ∧ n ≤ cap ∧ n ≤ 140737488355328 ∧ BS w w.heap.size A l := by
  rcases open_slice Tryd.underlying23 hf with ⟨hcs, _⟩ | ⟨a', len, cap, m, n, D, Pl, hcs, hb, hl, hm, hmm, hd, hx⟩
  · simp at hcs
    exact ⟨none, 0, 0, [], hcs, rfl, Nat.le_refl _, by omega, BS.nil _ _ _⟩
  · simp at hcs
    have hC : Tryd.prog.cellsOf 5 = 1 := by kernel_rfl
    rw [hC] at hx
    have hlm : len ≤ m := by rw [hmm]; split <;> omega
    subst hd
    simp only [DataW.weights, Tryd.underlying23, List.all_cons, List.all_append, Bool.and_eq_true, List.length_map, List.length_range, decide_eq_true_eq] at hw
    obtain ⟨hw1, _, _⟩ := hw
    have hB : Tryd.prog.bytesOf 5 = 1 := by kernel_rfl
    rw [hB] at hw1
    have hR : reachBytes = 140737488351232 := rfl
    have step : ∀ i, i < len → ∃ z : UInt8, w.cell? (a'.add i) = some (.int .u8 (z.toNat : Int)) := by
      intro i hi
      obtain ⟨cs', h1, h2⟩ := hx i (by omega)
      obtain ⟨z, rfl, _, wz⟩ := DataW.trod_int Tryd.underlying5 h2
      obtain ⟨z, rfl⟩ := byte_of wz
      obtain ⟨_, _, h5⟩ := World.cells?_some h1
      have := h5 0 (by omega)
      rw [add_add] at this
      refine ⟨z, ?_⟩
      simpa using this
    obtain ⟨l, hll, hp⟩ := list_of len step
    refine ⟨some a', len, cap, l, hcs, hll.symm, hl, by omega, fun j hj => ?_⟩
    have hc := hp j hj
    exact ⟨a', rfl, by have := World.block_lt_of_cell? w _ hc; rwa [add_block] at this, hc⟩
def DocsArg (w : World) (D : Docs) : Prop := ∃ b : UInt8 → List UInt8, DocsIs w D b ∧ (∀ s : UInt8, 3 ≤ s.toNat → b s = []) ∧ D.n0 ≤ 140737488355328 ∧ D.n1 ≤ 140737488355328 ∧ D.n2 ≤ 140737488355328
theorem docs_read {r : Reach} {b0 : Nat} {v : Value} {d : DataW H} {p : List MemPlace} (hval : Value.okWide Tryd.prog w r b0 24 v) (h : DataW.Trod enc Tryd.prog w base sp held 24 v d p) (hw : (d.weights Tryd.prog 24).all (· ≤ reachBytes) = true) :
    ∃ D : Docs, v = .agg D.cells ∧ DocsArg w D := by
  simp only [Value.okWide, Tryd.underlying24] at hval
  obtain ⟨cs, rfl, hsz, _⟩ := hval
  have hC : Tryd.prog.cellsOf 24 = 3 := by kernel_rfl
  have hE : Tryd.prog.cellsOf 23 = 1 := by kernel_rfl
  rw [hC] at hsz
  obtain ⟨l⟩ := cs
  obtain ⟨c0, c1, c2, rfl⟩ : ∃ a b c, l = [a, b, c] := by
    match l, hsz with
    | [a, b, c], _ => exact ⟨a, b, c, rfl⟩
  obtain ⟨fuel, hf⟩ := h
  obtain ⟨y0, y1, y2, n, hx, g0, g1, g2⟩ := trod_array3 Tryd.underlying24 hE hf
  obtain ⟨hx, _⟩ := Prod.mk.inj hx
  subst hx
  simp only [DataW.weights, Tryd.underlying24] at hw
  obtain ⟨A0, n0, k0, l0, rfl, e0, m0, u0, B0⟩ := doc_one g0 (wts_mem _ hw _ (by simp))
  obtain ⟨A1, n1, k1, l1, rfl, e1, m1, u1, B1⟩ := doc_one g1 (wts_mem _ hw _ (by simp))
  obtain ⟨A2, n2, k2, l2, rfl, e2, m2, u2, B2⟩ := doc_one g2 (wts_mem _ hw _ (by simp))
  refine ⟨⟨A0, n0, k0, A1, n1, k1, A2, n2, k2⟩, rfl, fun s => if s = 0 then l0 else if s = 1 then l1 else if s = 2 then l2 else [], ⟨fun s hs => ?_⟩, fun s hs => ?_, u0, u1, u2⟩
  · have h3 : s = 0 ∨ s = 1 ∨ s = 2 := by
      rcases (by omega : s.toNat = 0 ∨ s.toNat = 1 ∨ s.toNat = 2) with e | e | e
      · exact .inl (UInt8.toNat_inj.1 e)
      · exact .inr (.inl (UInt8.toNat_inj.1 e))
      · exact .inr (.inr (UInt8.toNat_inj.1 e))
    rcases h3 with rfl | rfl | rfl
    · exact ⟨A0, n0, k0, rfl, rfl, e0, m0, B0⟩
    · exact ⟨A1, n1, k1, rfl, rfl, e1, m1, B1⟩
    · exact ⟨A2, n2, k2, rfl, rfl, e2, m2, B2⟩
  · show (if s = 0 then l0 else if s = 1 then l1 else if s = 2 then l2 else []) = []
    rw [if_neg (by rintro rfl; exact absurd hs (by decide)), if_neg (by rintro rfl; exact absurd hs (by decide)), if_neg (by rintro rfl; exact absurd hs (by decide))]
end

end Go.Proofs.YtpafadfaphaoeaaDoor
