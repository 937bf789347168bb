/- Walks over package ints: of, tens, number, Cmp; what the walks want of the package's variables; no statement of the seat is proved here. -/
import Derived.Test.YtncldnghhpdolaaGreatDoorInX
import Derived.Test.YtncldnghhpdolaaGreatDoorInQ
import Derived.Test.YtncldnghhpdolaaGreatDoorPre
import Derived.Test.YtncldnghhpdolaaGreatDoorDcC
import Derived.Lib.ParseIntB
import Derived.Lib.ItoaMem
namespace Go.Proofs.YtncldnghhpdolaaGreatDoor
open Go.RowKit

theorem str_eq {a b : ByteArray} (h : a.data.toList = b.data.toList) : a = b := by
  rcases a with ⟨⟨a⟩⟩; rcases b with ⟨⟨b⟩⟩
  simp only at h
  rw [h]
def begB (q : Nat) : ByteArray := if q = 16 then ⟨#[48, 120]⟩ else if q = 8 then ⟨#[48, 111]⟩ else if q = 2 then ⟨#[48, 98]⟩ else ⟨#[]⟩
def digB (q : Nat) : ByteArray := if q = 16 then ⟨#[48, 49, 50, 51, 52, 53, 54, 55, 56, 57, 97, 98, 99, 100, 101, 102, 65, 66, 67, 68, 69, 70]⟩ else if q = 10 then ⟨#[48, 49, 50, 51, 52, 53, 54, 55, 56, 57]⟩ else if q = 8 then ⟨#[48, 49, 50, 51, 52, 53, 54, 55]⟩ else ⟨#[48, 49]⟩
def radV (q : Nat) : Value := .agg #[.string (begB q), .int .i64 (q : Int), .string (digB q)]
/-- What the walks want of the package's variables. -/
structure Gl (w : World) : Prop where
  big : 9 ≤ w.heap.size
  rng : ∃ b, w.cell? ⟨0, 0, none⟩ = some (.iface 159 (.pointer (some b)))
  syn : ∃ b, w.cell? ⟨3, 0, none⟩ = some (.iface 159 (.pointer (some b)))
  max : ∃ m, w.cell? ⟨2, 0, none⟩ = some (.int .i64 m)
  rad : ∃ t fz, w.heap[1]? = some (.cells #[.string (begB 16), .int .i64 16, .string (digB 16), .string (begB 8), .int .i64 8, .string (digB 8), .string (begB 2), .int .i64 2, .string (digB 2)] t fz)
  tab : TAB w
theorem Gl.later {w w' : World} (h : Gl w) (hb : Below w.heap.size w w') : Gl w' := by
  have hz := h.big
  have hs := hb.size
  obtain ⟨b1, h1⟩ := h.rng
  obtain ⟨b2, h2⟩ := h.syn
  obtain ⟨m, h3⟩ := h.max
  obtain ⟨t, fz, h4⟩ := h.rad
  exact ⟨by omega, ⟨b1, (hb.cell (p := ⟨0, 0, none⟩) (by dsimp only; omega)).trans h1⟩, ⟨b2, (hb.cell (p := ⟨3, 0, none⟩) (by dsimp only; omega)).trans h2⟩, ⟨m, (hb.cell (p := ⟨2, 0, none⟩) (by dsimp only; omega)).trans h3⟩,
    ⟨t, fz, (hb.block 1 (by omega)).trans h4⟩, h.tab.later hb⟩
theorem rad_cell {w : World} {cs : Array Value} {t : TypeId} {fz : Nat × Nat} (h : w.heap[1]? = some (.cells cs t fz)) (k : Nat) : w.cell? ⟨1, k, none⟩ = cs[k]? := by
  unfold World.cell?; simp only [h]; rfl

theorem rad_alloc {w : World} {cs : Array Value} {t : TypeId} {fz : Nat × Nat} (h : w.heap[1]? = some (.cells cs t fz)) (hb : 9 ≤ w.heap.size) (o : Obj) : (w.alloc o).heap[1]? = some (.cells cs t fz) := (Below.heap_alloc w o 1 (by omega)).trans h

theorem tens_is (w : World) : Calls Tryz.prog 44 #[] w fun e w' => e = .returned (.agg #[.string (begB 10), .int .i64 10, .string (digB 10)]) ∧ Below w.heap.size w w' := by
  go_enter Tryz.func44, Tryz.ntmps44
  go_wp2
  refine bodyPost_ret (results_cell_row rfl _ _ _ _ _ _ _ rfl (heap_new1 _ _) Tryz.underlying55 rfl (by kernel_rfl)) rfl ?_
  exact ⟨rfl, below_new1 _ _⟩

theorem idx0 (w : World) : (Instr.index 94 (.agg #[.string (begB 16), .int .i64 16, .string (digB 16), .string (begB 8), .int .i64 8, .string (digB 8), .string (begB 2), .int .i64 2, .string (digB 2)]) (.int .i64 0)).run Tryz.prog w = .ok (.agg #[.string (begB 16), .int .i64 16, .string (digB 16)]) w := by kernel_rfl
theorem idx1 (w : World) : (Instr.index 94 (.agg #[.string (begB 16), .int .i64 16, .string (digB 16), .string (begB 8), .int .i64 8, .string (digB 8), .string (begB 2), .int .i64 2, .string (digB 2)]) (.int .i64 1)).run Tryz.prog w = .ok (.agg #[.string (begB 8), .int .i64 8, .string (digB 8)]) w := by kernel_rfl
theorem idx2 (w : World) : (Instr.index 94 (.agg #[.string (begB 16), .int .i64 16, .string (digB 16), .string (begB 8), .int .i64 8, .string (digB 8), .string (begB 2), .int .i64 2, .string (digB 2)]) (.int .i64 2)).run Tryz.prog w = .ok (.agg #[.string (begB 2), .int .i64 2, .string (digB 2)]) w := by kernel_rfl
theorem froz_of {W : World} {b : Nat} {c : Array Value} {t : TypeId} (h : W.heap[b]? = some (.cells c t (0, 0))) (o : Nat) : W.frozen? ⟨b, o, none⟩ = false := by unfold World.frozen?; simp [h]
theorem row_under1 (w : World) (a b : Obj) : ((w.alloc a).alloc b).heap[w.heap.size]? = some a := (Below.heap_alloc _ _ _ (by simp)).trans (World.alloc_heap_new w a)
theorem row_under2 (w : World) (a b c : Obj) : (((w.alloc a).alloc b).alloc c).heap[w.heap.size]? = some a := (Below.heap_alloc _ _ _ (by simp <;> omega)).trans (row_under1 w a b)
theorem row_under3 (w : World) (a b c d : Obj) : ((((w.alloc a).alloc b).alloc c).alloc d).heap[w.heap.size]? = some a := (Below.heap_alloc _ _ _ (by simp <;> omega)).trans (row_under2 w a b c)
theorem set3_cells {W : World} {b : Nat} {x0 x1 x2 : Value} (y0 y1 y2 : Value) (h0 : W.cell? ⟨b, 0, none⟩ = some x0) (h1 : W.cell? ⟨b, 1, none⟩ = some x1) (h2 : W.cell? ⟨b, 2, none⟩ = some x2) :
    (((W.setCell ⟨b, 0, none⟩ y0).setCell ⟨b, 1, none⟩ y1).setCell ⟨b, 2, none⟩ y2).cell? ⟨b, 0, none⟩ = some y0 ∧ (((W.setCell ⟨b, 0, none⟩ y0).setCell ⟨b, 1, none⟩ y1).setCell ⟨b, 2, none⟩ y2).cell? ⟨b, 1, none⟩ = some y1 ∧
    (((W.setCell ⟨b, 0, none⟩ y0).setCell ⟨b, 1, none⟩ y1).setCell ⟨b, 2, none⟩ y2).cell? ⟨b, 2, none⟩ = some y2 := by
  have o : ∀ (W : World) (i j : Nat) (v : Value), i ≠ j → (W.setCell ⟨b, i, none⟩ v).cell? ⟨b, j, none⟩ = W.cell? ⟨b, j, none⟩ := fun W i j v h => World.cell?_setCell_other _ _ _ _ (by intro e; injection e with _ e; exact h e)
  refine ⟨?_, ?_, ?_⟩
  · rw [o _ 2 0 _ (by omega), o _ 1 0 _ (by omega)]; exact World.cell?_setCell_same _ _ _ h0
  · rw [o _ 2 1 _ (by omega)]; exact World.cell?_setCell_same _ _ _ ((o _ 0 1 _ (by omega)).trans h1)
  · exact World.cell?_setCell_same _ _ _ ((o _ 1 2 _ (by omega)).trans ((o _ 0 2 _ (by omega)).trans h2))
theorem below_over1 (w : World) (a b : Obj) : Below w.heap.size w ((w.alloc a).alloc b) := ((Below.refl _ w).alloc (Nat.le_refl _) _).alloc (by simp) _
theorem below_over2 (w : World) (a b c : Obj) : Below w.heap.size w (((w.alloc a).alloc b).alloc c) := (below_over1 w a b).alloc (by simp <;> omega) _
theorem below_over3 (w : World) (a b c d : Obj) : Below w.heap.size w ((((w.alloc a).alloc b).alloc c).alloc d) := (below_over2 w a b c).alloc (by simp <;> omega) _
set_option maxRecDepth 100000 in
set_option maxHeartbeats 2000000 in
theorem of_is (s : ByteArray) (hs : s.size ≤ 1000000) (q : Nat) (hq : (wayI s.data.toList).1 = q) (w : World) (hG : Gl w) :
    Calls Tryz.prog 43 #[.string s] w fun e w' => e = .returned (radV q) ∧ Below w.heap.size w w' := by
  obtain ⟨t, fz, hrad⟩ := hG.rad
  have hbig := hG.big
  clear hG
  have HT := Lib.hid tens_is
  have i0 := idx0
  have i1 := idx1
  have i2 := idx2
  have r0 := fun o => rad_cell (rad_alloc hrad hbig o) 0
  have r1 := fun o => rad_cell (rad_alloc hrad hbig o) 1
  have r2 := fun o => rad_cell (rad_alloc hrad hbig o) 2
  have r3 := fun o => rad_cell (rad_alloc hrad hbig o) 3
  have r4 := fun o => rad_cell (rad_alloc hrad hbig o) 4
  have r5 := fun o => rad_cell (rad_alloc hrad hbig o) 5
  have r6 := fun o => rad_cell (rad_alloc hrad hbig o) 6
  have r7 := fun o => rad_cell (rad_alloc hrad hbig o) 7
  have r8 := fun o => rad_cell (rad_alloc hrad hbig o) 8
  simp only [List.getElem?_toArray, List.getElem?_cons_succ, List.getElem?_cons_zero] at r0 r1 r2 r3 r4 r5 r6 r7 r8
  clear hrad
  have H1 := Lib.hid (fun w => has_is s (begB 16) (decide (s.data.toList.take 2 = [48, 120])) rfl (by omega) (by decide) w)
  have H2 := Lib.hid (fun w => has_is s (begB 8) (decide (s.data.toList.take 2 = [48, 111])) rfl (by omega) (by decide) w)
  have H3 := Lib.hid (fun w => has_is s (begB 2) (decide (s.data.toList.take 2 = [48, 98])) rfl (by omega) (by decide) w)
  by_cases c1 : s.data.toList.take 2 = [48, 120]
  · have hq' : radV q = radV 16 := by rw [← hq]; unfold wayI; rw [if_pos c1]
    rw [decide_eq_true c1] at H1
    clear c1
    rw [hq']; clear hq hq'
    go_enter Tryz.func43, Tryz.ntmps43
    go_wp2
    refine wp_loop_rounds 1 ?_
    rw [rounds_succ]
    go_wp2_with (first
        | (go_at_call 73; (first | refine (H1.out _).mono ?_ | refine (H2.out _).mono ?_ | refine (H3.out _).mono ?_); rintro e w' ⟨rfl, rfl⟩)
        | (go_at_call 44; refine (HT.out _).mono ?_; rintro e w2 ⟨rfl, hb2⟩))
    refine bodyPost_ret (results_cell_row rfl _ _ _ _ _ _ _ rfl (row_under1 _ _ _) Tryz.underlying55 rfl (by kernel_rfl)) rfl ⟨rfl, below_over1 _ _ _⟩
  · rw [decide_eq_false c1] at H1
    by_cases c2 : s.data.toList.take 2 = [48, 111]
    · have hq' : radV q = radV 8 := by rw [← hq]; unfold wayI; rw [if_neg c1, if_pos c2]
      rw [decide_eq_true c2] at H2
      clear c1 c2
      rw [hq']; clear hq hq'
      go_enter Tryz.func43, Tryz.ntmps43
      go_wp2
      refine wp_loop_rounds 2 ?_
      rw [rounds_succ]
      go_wp2_with (first
          | (go_at_call 73; (first | refine (H1.out _).mono ?_ | refine (H2.out _).mono ?_ | refine (H3.out _).mono ?_); rintro e w' ⟨rfl, rfl⟩)
          | (go_at_call 44; refine (HT.out _).mono ?_; rintro e w2 ⟨rfl, hb2⟩))
      rw [rounds_succ]
      go_wp2_with (first
          | (go_at_call 73; (first | refine (H1.out _).mono ?_ | refine (H2.out _).mono ?_ | refine (H3.out _).mono ?_); rintro e w' ⟨rfl, rfl⟩)
          | (go_at_call 44; refine (HT.out _).mono ?_; rintro e w2 ⟨rfl, hb2⟩))
      refine bodyPost_ret (results_cell_row rfl _ _ _ _ _ _ _ rfl (row_under2 _ _ _ _) Tryz.underlying55 rfl (by kernel_rfl)) rfl ⟨rfl, below_over2 _ _ _ _⟩
    · rw [decide_eq_false c2] at H2
      by_cases c3 : s.data.toList.take 2 = [48, 98]
      · have hq' : radV q = radV 2 := by rw [← hq]; unfold wayI; rw [if_neg c1, if_neg c2, if_pos c3]
        rw [decide_eq_true c3] at H3
        clear c1 c2 c3
        rw [hq']; clear hq hq'
        go_enter Tryz.func43, Tryz.ntmps43
        go_wp2
        refine wp_loop_rounds 3 ?_
        rw [rounds_succ]
        go_wp2_with (first
            | (go_at_call 73; (first | refine (H1.out _).mono ?_ | refine (H2.out _).mono ?_ | refine (H3.out _).mono ?_); rintro e w' ⟨rfl, rfl⟩)
            | (go_at_call 44; refine (HT.out _).mono ?_; rintro e w2 ⟨rfl, hb2⟩))
        rw [rounds_succ]
        go_wp2_with (first
            | (go_at_call 73; (first | refine (H1.out _).mono ?_ | refine (H2.out _).mono ?_ | refine (H3.out _).mono ?_); rintro e w' ⟨rfl, rfl⟩)
            | (go_at_call 44; refine (HT.out _).mono ?_; rintro e w2 ⟨rfl, hb2⟩))
        rw [rounds_succ]
        go_wp2_with (first
            | (go_at_call 73; (first | refine (H1.out _).mono ?_ | refine (H2.out _).mono ?_ | refine (H3.out _).mono ?_); rintro e w' ⟨rfl, rfl⟩)
            | (go_at_call 44; refine (HT.out _).mono ?_; rintro e w2 ⟨rfl, hb2⟩))
        refine bodyPost_ret (results_cell_row rfl _ _ _ _ _ _ _ rfl (row_under3 _ _ _ _ _) Tryz.underlying55 rfl (by kernel_rfl)) rfl ⟨rfl, below_over3 _ _ _ _ _⟩
      · have hq' : radV q = radV 10 := by
          rw [← hq]; unfold wayI; rw [if_neg c1, if_neg c2, if_neg c3]
          split
          · rfl
          · split <;> rfl
        rw [decide_eq_false c3] at H3
        clear c1 c2 c3
        rw [hq']; clear hq hq'
        go_enter Tryz.func43, Tryz.ntmps43
        go_wp2
        refine wp_loop_rounds 4 ?_
        rw [rounds_succ]
        go_wp2_with (first
            | (go_at_call 73; (first | refine (H1.out _).mono ?_ | refine (H2.out _).mono ?_ | refine (H3.out _).mono ?_); rintro e w' ⟨rfl, rfl⟩)
            | (go_at_call 44; refine (HT.out _).mono ?_; rintro e w2 ⟨rfl, hb2⟩; have hr := (hb2.block w.heap.size (by simp; omega)).trans (row_under3 _ _ _ _ _); have k0 := (cell_of hr (o := 0) rfl).1; have k1 := (cell_of hr (o := 1) rfl).1; have k2 := (cell_of hr (o := 2) rfl).1; have kf := froz_of hr 0; have kf1 := froz_of hr 1; have kf2 := froz_of hr 2; clear hr))
        rw [rounds_succ]
        go_wp2_with (first
            | (go_at_call 73; (first | refine (H1.out _).mono ?_ | refine (H2.out _).mono ?_ | refine (H3.out _).mono ?_); rintro e w' ⟨rfl, rfl⟩)
            | (go_at_call 44; refine (HT.out _).mono ?_; rintro e w2 ⟨rfl, hb2⟩; have hr := (hb2.block w.heap.size (by simp; omega)).trans (row_under3 _ _ _ _ _); have k0 := (cell_of hr (o := 0) rfl).1; have k1 := (cell_of hr (o := 1) rfl).1; have k2 := (cell_of hr (o := 2) rfl).1; have kf := froz_of hr 0; have kf1 := froz_of hr 1; have kf2 := froz_of hr 2; clear hr))
        rw [rounds_succ]
        go_wp2_with (first
            | (go_at_call 73; (first | refine (H1.out _).mono ?_ | refine (H2.out _).mono ?_ | refine (H3.out _).mono ?_); rintro e w' ⟨rfl, rfl⟩)
            | (go_at_call 44; refine (HT.out _).mono ?_; rintro e w2 ⟨rfl, hb2⟩; have hr := (hb2.block w.heap.size (by simp; omega)).trans (row_under3 _ _ _ _ _); have k0 := (cell_of hr (o := 0) rfl).1; have k1 := (cell_of hr (o := 1) rfl).1; have k2 := (cell_of hr (o := 2) rfl).1; have kf := froz_of hr 0; have kf1 := froz_of hr 1; have kf2 := froz_of hr 2; clear hr))
        rw [rounds_succ]
        go_wp2_with (first
            | (go_at_call 73; (first | refine (H1.out _).mono ?_ | refine (H2.out _).mono ?_ | refine (H3.out _).mono ?_); rintro e w' ⟨rfl, rfl⟩)
            | (go_at_call 44; refine (HT.out _).mono ?_; rintro e w2 ⟨rfl, hb2⟩; have hr := (hb2.block w.heap.size (by simp; omega)).trans (row_under3 _ _ _ _ _); have k0 := (cell_of hr (o := 0) rfl).1; have k1 := (cell_of hr (o := 1) rfl).1; have k2 := (cell_of hr (o := 2) rfl).1; have kf := froz_of hr 0; have kf1 := froz_of hr 1; have kf2 := froz_of hr 2; clear hr))
        all_goals obtain ⟨e0, e1, e2⟩ := set3_cells (.string (begB 10)) (.int .i64 10) (.string (digB 10)) k0 k1 k2
        all_goals refine bodyPost_ret (v := radV 10) ?_ rfl ⟨rfl, ((((below_over3 w _ _ _ _).trans (hb2.mono (by simp; omega))).setCell (p := ⟨w.heap.size, 0, none⟩) (Nat.le_refl _) _).setCell (p := ⟨w.heap.size, 1, none⟩) (Nat.le_refl _) _).setCell (p := ⟨w.heap.size, 2, none⟩) (Nat.le_refl _) _⟩
        all_goals simp [results, Tryz.f43, go_sem, e0, e1, e2, radV]

end Go.Proofs.YtncldnghhpdolaaGreatDoor
