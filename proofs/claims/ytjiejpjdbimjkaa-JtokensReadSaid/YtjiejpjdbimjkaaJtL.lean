/- Walks over the laws of chapter 08: the chapter's examples; no statement of the seat is proved here. -/
import Derived.Test.YtjiejpjdbimjkaaJtE
import Derived.Test.YtjiejpjdbimjkaaJtR
import Derived.Lib.SmallJoins
namespace Go.Proofs.Ytjiejpjdbimjkaa
open Go.RowKit

/-- Read at a text of which the tokens are known. -/
theorem read_known (l : List UInt8) (ts : List TokF) (co at_ : Int) (n : Nat) (h : readM l 0 = (ts, co, at_)) (hn : ts.length = n) (A : Option Addr) (m c : Nat) (hm : l.length = m) (hc : m ≤ c) (hl : m ≤ 16777216) (w : World) {B : Nat} (hB : BS w B A l) (hBw : B = w.heap.size) :
    Calls Try.prog 8 #[.slice A m c] w fun e w' => ∃ A', e = .returned (.tuple #[.slice A' n n, .agg #[.int .i64 co, .int .i64 at_]]) ∧ OwnS w' w.heap.size 36 3 A' n (tokCells ts) ∧ Below w.heap.size w w' := by
  subst hm hn hBw
  have := read_any A l c hc hl w hB
  rw [h] at this
  exact this

theorem BS.made_at {w : World} {g : Nat} (l : List UInt8) (e : TypeId) (fz : Nat × Nat) (hg : g = w.heap.size) : BS (w.alloc (.cells (l.map fun b => Value.int .u8 ((b.toNat : Nat) : Int)).toArray e fz)) (w.heap.size + 1) (some ⟨g, 0, none⟩) l := by
  subst hg; exact BS.made w l e fz
theorem two_cells {w w' : World} {x y : Value} {e : TypeId} {o : Obj} (hb : Below ((w.alloc (.cells #[x, y] e)).alloc o).heap.size ((w.alloc (.cells #[x, y] e)).alloc o) w') :
    w'.cell? ⟨w.heap.size, 0, none⟩ = some x ∧ w'.cell? ⟨w.heap.size, 1, none⟩ = some y ∧ w.heap.size < w'.heap.size := by
  have h := blk_later (heap_new2 w (.cells #[x, y] e) o).1 hb (by rw [size_new2]; omega)
  exact ⟨blk_cell h 0, blk_cell h 1, blk_lt h⟩
theorem keep2 {w w' : World} {F o : Obj} (hb : Below ((w.alloc F).alloc o).heap.size ((w.alloc F).alloc o) w') {p : Addr} {x : Value} (h : w.cell? p = some x) : w'.cell? p = some x :=
  cell_later hb (cell_later (below_new2 w F o) h)

set_option maxHeartbeats 2000000 in
theorem lives_any (w : World) : Calls Try.prog 6 #[] w fun e w' => e = .returned (.bool true) ∧ Below w.heap.size w w' := by
  have kc := fun (w : World) (C : Array Value) (n c g : Nat) (hg : g = w.heap.size) => Joins.run_convert_bytes_const_at (P := Try.prog) w 22 5 C n c g hg Try.underlying22 Try.underlying5
  go_enter Try.func6, Try.ntmps6
  go_wp2_with fail
  refine (read_known _ _ _ _ 6 ex1 rfl _ 8 8 rfl (by omega) (by omega) _ (BS.made _ [91, 49, 44, 32, 34, 97, 34, 93] _ _) (by simp)).mono ?_
  rintro e w1 ⟨A1, rfl, hO1, hb1⟩
  obtain ⟨g, rfl, hg, hg1, c3⟩ := hO1.cell (j := 3) (by omega)
  obtain ⟨_, e4, _, _, c4⟩ := hO1.cell (j := 4) (by omega); cases e4
  obtain ⟨_, e4, _, _, c5⟩ := hO1.cell (j := 5) (by omega); cases e4
  obtain ⟨_, e4, _, _, c9⟩ := hO1.cell (j := 9) (by omega); cases e4
  obtain ⟨_, e4, _, _, c12⟩ := hO1.cell (j := 12) (by omega); cases e4
  obtain ⟨_, e4, _, _, c13⟩ := hO1.cell (j := 13) (by omega); cases e4
  obtain ⟨_, e4, _, _, c14⟩ := hO1.cell (j := 14) (by omega); cases e4
  simp only [tokCells, TokF.cells, List.flatMap_cons, List.flatMap_nil, List.cons_append, List.nil_append, List.append_nil, List.getElem_cons_succ, List.getElem_cons_zero] at c3 c4 c5 c9 c12 c13 c14
  clear hO1
  go_wp2_with fail
  refine (read_known _ _ _ _ 0 ex2 rfl _ 1 1 rfl (Nat.le_refl _) (by omega) _ (BS.made_at [45] _ _ ?_) ?_).mono ?_
  · simp
  · simp
  rintro e w2 ⟨A2, rfl, _, hb2⟩
  replace c3 := keep2 hb2 c3; replace c4 := keep2 hb2 c4; replace c5 := keep2 hb2 c5; replace c9 := keep2 hb2 c9; replace c12 := keep2 hb2 c12; replace c13 := keep2 hb2 c13; replace c14 := keep2 hb2 c14
  obtain ⟨x1, y1, z1⟩ := two_cells hb2
  go_wp2_with fail
  refine (read_known _ _ _ _ 2 ex3 rfl _ 2 2 rfl (Nat.le_refl _) (by omega) _ (BS.made_at [48, 49] _ _ ?_) ?_).mono ?_
  · simp
  · simp
  rintro e w3 ⟨A3, rfl, _, hb3⟩
  replace c3 := keep2 hb3 c3; replace c4 := keep2 hb3 c4; replace c5 := keep2 hb3 c5; replace c9 := keep2 hb3 c9; replace c12 := keep2 hb3 c12; replace c13 := keep2 hb3 c13; replace c14 := keep2 hb3 c14; replace x1 := keep2 hb3 x1; replace y1 := keep2 hb3 y1
  obtain ⟨x2, y2, z2⟩ := two_cells hb3
  go_wp2_with fail
  refine (read_known _ _ _ _ 0 ex4 rfl _ 4 4 rfl (Nat.le_refl _) (by omega) _ (BS.made_at [34, 92, 120, 34] _ _ ?_) ?_).mono ?_
  · simp
  · simp
  rintro e w4 ⟨A4, rfl, _, hb4⟩
  replace c3 := keep2 hb4 c3; replace c4 := keep2 hb4 c4; replace c5 := keep2 hb4 c5; replace c9 := keep2 hb4 c9; replace c12 := keep2 hb4 c12; replace c13 := keep2 hb4 c13; replace c14 := keep2 hb4 c14; replace x1 := keep2 hb4 x1; replace y1 := keep2 hb4 y1; replace x2 := keep2 hb4 x2; replace y2 := keep2 hb4 y2
  obtain ⟨x3, y3, z3⟩ := two_cells hb4
  go_wp2_with fail
  refine (read_known _ _ _ _ 1 ex5 rfl _ 3 3 rfl (Nat.le_refl _) (by omega) _ (BS.made_at [49, 46, 101] _ _ ?_) ?_).mono ?_
  · simp
  · simp
  rintro e w5 ⟨A5, rfl, _, hb5⟩
  replace c3 := keep2 hb5 c3; replace c4 := keep2 hb5 c4; replace c5 := keep2 hb5 c5; replace c9 := keep2 hb5 c9; replace c12 := keep2 hb5 c12; replace c13 := keep2 hb5 c13; replace c14 := keep2 hb5 c14; replace x1 := keep2 hb5 x1; replace y1 := keep2 hb5 y1; replace x2 := keep2 hb5 x2; replace y2 := keep2 hb5 y2; replace x3 := keep2 hb5 x3; replace y3 := keep2 hb5 y3
  obtain ⟨x4, y4, z4⟩ := two_cells hb5
  have hb : Below w.heap.size w w5 := by
    have a1 := (below_new1 w _).trans (hb1.mono (by simp))
    have a2 := (a1.trans ((below_new2 w1 _ _).mono a1.size)).trans (hb2.mono (by have := a1.size; simp; omega))
    have a3 := (a2.trans ((below_new2 w2 _ _).mono a2.size)).trans (hb3.mono (by have := a2.size; simp; omega))
    have a4 := (a3.trans ((below_new2 w3 _ _).mono a3.size)).trans (hb4.mono (by have := a3.size; simp; omega))
    exact (a4.trans ((below_new2 w4 _ _).mono a4.size)).trans (hb5.mono (by have := a4.size; simp; omega))
  have t1 : w1.heap.size < w5.heap.size := by omega
  have t2 : w2.heap.size < w5.heap.size := by omega
  have t3 : w3.heap.size < w5.heap.size := by omega
  have tg : g < w5.heap.size := by omega
  clear hb1 hb2 hb3 hb4 hb5
  go_wp2
  go_ret
  exact ⟨rfl, hb.alloc hb.size _⟩

end Go.Proofs.Ytjiejpjdbimjkaa
