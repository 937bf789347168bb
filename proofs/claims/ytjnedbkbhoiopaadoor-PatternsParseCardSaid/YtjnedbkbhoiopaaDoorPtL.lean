/- The walk over patterns.Parse; no statement of the seat is proved here. -/
import Derived.Test.YtjnedbkbhoiopaaDoorPtK
import Derived.Deep.RegionLaw
import Derived.Deep.AppendLies
namespace Go.Proofs.YtjnedbkbhoiopaaDoor
open Go.RowKit

theorem step_info : (Tryd.prog.info? 65).map (fun i => (i.zero, i.size, i.bytes)) = some (some (.agg #[.string ⟨#[]⟩, .nilFunc, .bool false]), 3, 32) := by kernel_rfl
/-- A step's cells. -/
def cellsQ (x : Pat × Value) : List Value := [.string ⟨x.1.text.toArray⟩, x.2, .bool x.1.any]
def rowQ (q : List (Pat × Value)) : List Value := q.flatMap cellsQ
theorem rowQ_len (q : List (Pat × Value)) : (rowQ q).length = q.length * 3 := by
  induction q with
  | nil => rfl
  | cons x q ih => have e : rowQ (x :: q) = cellsQ x ++ rowQ q := rfl; rw [e]; simp [ih, cellsQ]; omega
theorem rowQ_snoc (q : List (Pat × Value)) (x : Pat × Value) : rowQ (q ++ [x]) = rowQ q ++ cellsQ x := by simp [rowQ]
/-- A pattern's block, and its row of steps. -/
def PB (w : World) (base b : Nat) (A : Option Addr) (c : Nat) (q : List (Pat × Value)) : Prop :=
  w.heap[b]? = some (.cells #[.bool true, .slice A q.length c] 34 (0, 0)) ∧ w.ownsRow base 65 3 (.slice A q.length c) q.length (rowQ q) ∧ ∀ x ∈ q, TK w x.2 x.1
theorem PB.keep {w w' : World} {base b : Nat} {A : Option Addr} {c : Nat} {q : List (Pat × Value)} (h : PB w base b A c q) {B : Nat} (hb : Below B w w') (hB : w.heap.size ≤ B) : PB w' base b A c q :=
  ⟨blk_later h.1 hb (Nat.lt_of_lt_of_le (blk_lt h.1) hB), own_keep h.2.1 hb hB, fun x hx => (h.2.2 x hx).keep (Keeps.of_below hb hB)⟩
theorem PB.cells {w : World} {base b : Nat} {A : Option Addr} {c : Nat} {q : List (Pat × Value)} (h : PB w base b A c q) : w.cell? ⟨b, 0, none⟩ = some (.bool true) ∧ w.cell? ⟨b, 1, none⟩ = some (.slice A q.length c) ∧ w.frozen? ⟨b, 1, none⟩ = false ∧ b < w.heap.size :=
  ⟨blk_cell h.1 0, blk_cell h.1 1, blk_frozen h.1 1, blk_lt h.1⟩
/-- The state of Parse: the fault's block, the pattern's. -/
def PI (w W : World) (A : Option Addr) (c : Nat) (q : List (Pat × Value)) : Prop := FB W w.heap.size 0 0 ∧ PB W w.heap.size (w.heap.size + 1) A c q ∧ Below w.heap.size w W
theorem PI.later {w W W' : World} {A : Option Addr} {c : Nat} {q : List (Pat × Value)} (h : PI w W A c q) (hb : Below W.heap.size W W') : PI w W' A c q :=
  ⟨h.1.keep hb (Nat.le_refl _), h.2.1.keep hb (Nat.le_refl _), h.2.2.trans (hb.mono h.2.2.size)⟩
theorem PI.new (w : World) : PI w ((w.alloc (.cells #[.int .i64 0, .int .i64 0] 27)).alloc (.cells #[.bool true, .slice none 0 0] 34)) none 0 [] :=
  ⟨(heap_new2 w _ _).1, ⟨(heap_new2 w _ _).2, World.ownsRow_nil _ _ _ _, by simp⟩, below_new2 _ _ _⟩
theorem own_ne {w : World} {base : Nat} {e T : TypeId} {size : Nat} {v : Value} {n : Nat} {xs : List Value} {b : Nat} {cs : Array Value} {fz : Nat × Nat} (h : w.ownsRow base e size v n xs) (hb : w.heap[b]? = some (.cells cs T fz)) (hT : T ≠ e) : v.ownBlock ≠ some b := by
  rcases h.2 with ⟨rfl, _⟩ | ⟨g, cap, cur, rfl, _, hg, _⟩
  · simp [Value.ownBlock]
  · intro q
    simp [Value.ownBlock] at q
    subst q
    rw [hb] at hg
    injection hg with hg; injection hg with _ hg _
    exact hT hg
/-- A step more. -/
theorem PI.push {w W W1 W2 : World} {A A' : Option Addr} {c c' : Nat} {q : List (Pat × Value)} {p : Pat} {f : Value} (h : PI w W A c q) (hf : TK W f p) (hb : Below W.heap.size W W1)
    (hg : W1.grownBy W2 (Value.slice A q.length c).ownBlock) (hown : W2.ownsRow w.heap.size 65 3 (.slice A' (q.length + 1) c') (q.length + 1) (rowQ q ++ cellsQ (p, f))) :
    PI w (W2.setCell ⟨w.heap.size + 1, 1, none⟩ (.slice A' (q.length + 1) c')) A' c' (q ++ [(p, f)]) := by
  obtain ⟨h1, ⟨h2, h3, h4⟩, h5⟩ := h
  have g1 : FB W1 w.heap.size 0 0 := h1.keep hb (Nat.le_refl _)
  have g2 := blk_later h2 hb (blk_lt h2)
  have g3 := own_keep h3 hb (Nat.le_refl _)
  have n1 := own_ne g3 g1 (by decide)
  have n2 := own_ne g3 g2 (by decide)
  have k1 : FB W2 w.heap.size 0 0 := (hg.block _ (blk_lt g1) (fun e => n1 e.symm)).trans g1
  have k2 := (hg.block _ (blk_lt g2) (fun e => n2 e.symm)).trans g2
  have n3 := own_ne hown k2 (by decide)
  have hk : Keeps W (W2.setCell ⟨w.heap.size + 1, 1, none⟩ (.slice A' (q.length + 1) c')) := by
    refine ((Keeps.of_below hb (Nat.le_refl _)).trans (Keeps.grown hg ?_)).trans (Keeps.set k2 (by decide) (by decide) _)
    intro g hgr
    rcases g3.2 with ⟨e, _⟩ | ⟨g', cap, cur, e, _, hh, _⟩
    · rw [e] at hgr; simp [Value.ownBlock] at hgr
    · rw [e] at hgr; simp [Value.ownBlock] at hgr; subst hgr
      exact ⟨cur, _, _, hh, by decide, by decide⟩
  refine ⟨?_, ⟨?_, ?_, ?_⟩, ?_⟩
  · unfold FB
    rw [Below.heap_setCell _ ⟨w.heap.size + 1, 1, none⟩ _ _ (by show w.heap.size ≠ w.heap.size + 1; omega)]; exact k1
  · rw [List.length_append]
    simp [World.setCell, Array.getElem?_modify, k2]
  · rw [List.length_append, rowQ_snoc]
    exact hown.kept (row := some (w.heap.size + 1)) ⟨rfl, rfl, rfl, by simp [World.setCell], fun k _ hk => Below.heap_setCell _ _ _ _ (fun e => hk (by simp [e]))⟩ (Or.inr n3)
  · intro x hx
    rcases List.mem_append.1 hx with hx | hx
    · exact (h4 x hx).keep hk
    · simp at hx; subst hx; exact hf.keep hk
  · exact (below_grown hg (own_ge g3) (h5.trans (hb.mono h5.size)) (by have := hb.size; have := h5.size; omega)).setCell (p := ⟨w.heap.size + 1, 1, none⟩) (by show w.heap.size ≤ w.heap.size + 1; omega) _

/-- What Parse answers. -/
def ParseRes (w' : World) (e : Ending) : Except Nat (List Pat) → Prop
  | .ok ps => ∃ base b A c q, ps = q.map (·.1) ∧ e = .returned (.tuple #[.pointer (some ⟨b, 0, none⟩), .agg #[.int .i64 0, .int .i64 0]]) ∧ PB w' base b A c q
  | .error k => e = .returned (.tuple #[.pointer none, .agg #[.int .i64 3, .int .i64 (k : Int)]])

set_option maxRecDepth 100000 in
set_option maxHeartbeats 4000000 in
theorem parse_root (w : World) : Calls Tryd.prog 9 #[.string ⟨#[46]⟩] w fun e w' => ParseRes w' e (parseL [46]) ∧ Below w.heap.size w w' := by
  go_enter Tryd.func9, Tryd.ntmps9
  go_wp2
  refine bodyPost_ret (v := .tuple #[.pointer (some ⟨w.heap.size + 1, 0, none⟩), .agg #[.int .i64 0, .int .i64 0]]) (by simp [results, Tryd.results9, go_sem]) rfl ?_
  exact ⟨⟨_, _, _, _, [], rfl, rfl, (PI.new w).2.1⟩, below_new2 _ _ _⟩

set_option maxRecDepth 100000 in
set_option maxHeartbeats 4000000 in
theorem parse_none (w : World) : Calls Tryd.prog 9 #[.string ⟨#[]⟩] w fun e w' => ParseRes w' e (parseL []) ∧ Below w.heap.size w w' := by
  go_enter Tryd.func9, Tryd.ntmps9
  go_wp2_with (go_at_call 26; (with_reducible refine (wrong_any _ _).mono ?_); rintro x w1 ⟨rfl, hb'⟩; have M := (PI.new w).later hb'; obtain ⟨f0, f1, g0, g1, hlt2⟩ := M.1.cells; have HM := Lib.hid M; clear M hb')
  refine bodyPost_ret (v := .tuple #[.pointer none, .agg #[.int .i64 3, .int .i64 0]]) (by simp [results, Tryd.results9, go_sem, f0, f1]) rfl ?_
  exact ⟨rfl, Below.two HM.out.2.2 (Nat.le_refl _) _ _⟩

theorem stepsL_end {l : List UInt8} {fuel i : Nat} {ps : List Pat} (h : ¬ i < l.length) : stepsL l (fuel + 1) i ps = .ok ps := by rw [stepsL, if_neg h]
theorem stepsL_most {l : List UInt8} {fuel i : Nat} {ps : List Pat} (h : i < l.length) (h5 : ps.length = 512) : stepsL l (fuel + 1) i ps = .error i := by rw [stepsL, if_pos h, if_pos h5]
def goOn (l : List UInt8) (fuel : Nat) (ps : List Pat) : Except Nat (Pat × Nat) → Except Nat (List Pat)
  | .error k => .error k
  | .ok x => stepsL l fuel x.2 (ps ++ [x.1])
theorem stepsL_key {l : List UInt8} {fuel i : Nat} {ps : List Pat} (h : i < l.length) (h5 : ¬ ps.length = 512) (h1 : l[i]? = some 47) : stepsL l (fuel + 1) i ps = goOn l fuel ps (keyedL l (i + 1)) := by
  rw [stepsL, if_pos h, if_neg h5, if_pos h1]; cases keyedL l (i + 1) <;> rfl
theorem stepsL_list {l : List UInt8} {fuel i : Nat} {ps : List Pat} (h : i < l.length) (h5 : ¬ ps.length = 512) (h1 : ¬ l[i]? = some 47) (h2 : l[i]? = some 91) : stepsL l (fuel + 1) i ps = goOn l fuel ps (listedL l (i + 1)) := by
  rw [stepsL, if_pos h, if_neg h5, if_neg h1, if_pos h2]; cases listedL l (i + 1) <;> rfl
theorem stepsL_bad {l : List UInt8} {fuel i : Nat} {ps : List Pat} (h : i < l.length) (h5 : ¬ ps.length = 512) (h1 : ¬ l[i]? = some 47) (h2 : ¬ l[i]? = some 91) : stepsL l (fuel + 1) i ps = .error (i + if i = 0 ∧ l[0]? = some 46 then 1 else 0) := by rw [stepsL, if_pos h, if_neg h5, if_neg h1, if_neg h2]

end Go.Proofs.YtjnedbkbhoiopaaDoor
