/- Walks over package pieces: glue, key, mark, kinds, May; no statement of the seat is proved here. -/
import Derived.Test.YtpafadfaphaoeaaDoorPcA
namespace Go.Proofs.YtpafadfaphaoeaaDoor
open Go.RowKit

theorem Below.on {w W w' : World} (h : Below w.heap.size w W) (hb : Below W.heap.size W w') : Below w.heap.size w w' := h.trans (hb.mono h.size)
theorem key_at (k s : UInt8) (f t : Int) (x : ByteArray) (d : Docs) (w : World) : Calls Tryd.prog 27 #[.agg #[.int .u8 (k.toNat : Int), .int .u8 (s.toNat : Int), .int .i64 f, .int .i64 t, .string x], .agg d.cells] w fun e w' =>
    e = .returned (.bool (bareP ⟨k, s, f, t, x⟩)) ∧ Below w.heap.size w w' := by
  have HB := Lib.hid (fun w => bareP_is ⟨k, s, f, t, x⟩ w)
  unfold Pc.val Pc.cells at HB
  dsimp only at HB
  obtain ⟨r, hr⟩ : ∃ r, bareP ⟨k, s, f, t, x⟩ = r := ⟨_, rfl⟩
  rw [hr] at HB ⊢
  clear hr
  obtain ⟨cs, hcs⟩ : ∃ cs, cs = d.cells := ⟨_, rfl⟩
  rw [← hcs]
  clear hcs
  go_enter Tryd.func27, Tryd.ntmps27
  go_wp2_with (go_at_call 36; (with_reducible refine (HB.out _).mono ?_); rintro e w1 ⟨rfl, hb1⟩)
  go_ret
  exact ⟨rfl, Below.on (below_new2 w _ _) hb1⟩

set_option maxHeartbeats 1000000 in
theorem glue_at (k s : UInt8) (f t : Int) (x : ByteArray) (hx : x.size ≤ 1000000) (d : Docs) (w : World) : Calls Tryd.prog 26 #[.agg #[.int .u8 (k.toNat : Int), .int .u8 (s.toNat : Int), .int .i64 f, .int .i64 t, .string x], .agg d.cells] w fun e w' =>
    e = .returned (.bool (glueP ⟨k, s, f, t, x⟩)) ∧ Below w.heap.size w w' := by
  have HB := Lib.hid (fun w => bareP_is ⟨k, s, f, t, x⟩ w)
  unfold Pc.val Pc.cells at HB
  dsimp only at HB
  have hg : glueP ⟨k, s, f, t, x⟩ = (bareP ⟨k, s, f, t, x⟩ && (Lib.trimS x.data.toList glueS).isEmpty) := rfl
  obtain ⟨r, hr⟩ : ∃ r, bareP ⟨k, s, f, t, x⟩ = r := ⟨_, rfl⟩
  have ht := fun w => Any.strings_Trim_laid Tryd.lays160 (by kernel_rfl) x ⟨#[32, 10, 44, 58, 123, 125, 91, 93, 61, 46]⟩ w (by omega) (by decide) (ascii_of_all (by decide))
  obtain ⟨y, hy⟩ : ∃ y : ByteArray, y = ⟨(Lib.trimS x.data.toList (⟨#[32, 10, 44, 58, 123, 125, 91, 93, 61, 46]⟩ : ByteArray).data.toList).toArray⟩ := ⟨_, rfl⟩
  rw [← hy] at ht
  have hye : y.toList.isEmpty = (Lib.trimS x.data.toList glueS).isEmpty := by
    rw [ByteArray.toList_eq, hy]; rfl
  rw [hr] at HB hg
  rw [hg, ← hye]
  have HT := Lib.hid ht
  clear hr hg hye hy ht
  obtain ⟨cs, hcs⟩ : ∃ cs, cs = d.cells := ⟨_, rfl⟩
  rw [← hcs]
  clear hcs
  cases r
  all_goals (
    go_enter Tryd.func26, Tryd.ntmps26
    go_wp2_with (first
      | (go_at_call 36; (with_reducible refine (HB.out _).mono ?_); rintro e w1 ⟨rfl, hb1⟩; have q4 : w1.cell? ⟨w.heap.size, 4, none⟩ = some (.string x) := blk_cell (blk_later (heap_new2 w _ _).1 hb1 (by rw [size_new2]; omega)) 4)
      | (go_at_call 37; refine (HT.out _).mono ?_; rintro e w2 ⟨rfl, hb2⟩))
    go_ret
    first
      | exact ⟨ret_boo (by simp), Below.on (below_new2 w _ _) hb1⟩
      | exact ⟨ret_boo (by simp), Below.on (Below.on (below_new2 w _ _) hb1) hb2⟩)

set_option maxRecDepth 100000 in
set_option maxHeartbeats 4000000 in
theorem mark_at (k s : UInt8) (f t : Int) (x : ByteArray) (hx : x.size ≤ 1000000) (d : Docs) (w : World) : Calls Tryd.prog 28 #[.agg #[.int .u8 (k.toNat : Int), .int .u8 (s.toNat : Int), .int .i64 f, .int .i64 t, .string x], .agg d.cells] w fun e w' =>
    e = .returned (.bool (markP ⟨k, s, f, t, x⟩)) ∧ Below w.heap.size w w' := by
  have HB := Lib.hid (fun w => bareP_is ⟨k, s, f, t, x⟩ w)
  unfold Pc.val Pc.cells at HB
  dsimp only at HB
  obtain ⟨r, hr⟩ : ∃ r, bareP ⟨k, s, f, t, x⟩ = r := ⟨_, rfl⟩
  rw [hr] at HB
  obtain ⟨l, hl⟩ : ∃ l, lineP ⟨k, s, f, t, x⟩ = l := ⟨_, rfl⟩
  obtain ⟨y, hy⟩ : ∃ y : ByteArray, (⟨l.toArray⟩ : ByteArray) = y := ⟨_, rfl⟩
  have hyl : y.data.toList = l := by rw [← hy]
  obtain ⟨u, hu⟩ : ∃ u, Lib.hasSuffix x.data.toList [10] = u := ⟨_, rfl⟩
  have cs1 := fun w => Tryd.strings_CutSuffix x ⟨#[10]⟩ w (by omega)
  rw [show (⟨#[10]⟩ : ByteArray).data.toList = [10] from rfl, hu, show Lib.trimSuffix x.data.toList [10] = l from hl, hy] at cs1
  have CS := Lib.hid cs1
  obtain ⟨v, hv⟩ : ∃ v, decide (0 ≤ Lib.indexByte l 10) = v := ⟨_, rfl⟩
  have cn := fun w => Tryd.strings_Contains_one y 10 w
  rw [hyl, hv] at cn
  have CN := Lib.hid cn
  have hm : markP ⟨k, s, f, t, x⟩ = (r && u && !l.isEmpty && !v && headM l) := by
    rw [← hr, ← hu, ← hv, ← hl]; rfl
  rw [hm]
  have hye : y.toList.isEmpty = l.isEmpty := by rw [ByteArray.toList_eq, hyl]
  clear hr cs1 cn hm hu hv hl hy
  obtain ⟨cs, hcs⟩ : ∃ cs, cs = d.cells := ⟨_, rfl⟩
  rw [← hcs]
  clear hcs
  cases l with
  | nil =>
    have hye' : y.toList.isEmpty = true := hye
    clear hye hyl
    cases r <;> cases u
    all_goals (
      go_enter Tryd.func28, Tryd.ntmps28
      go_wp2_with (first
        | (go_at_call 36; (with_reducible refine (HB.out _).mono ?_); rintro e w1 ⟨rfl, hb1⟩)
        | (go_at_call 38; refine (CS.out _).mono ?_; rintro e w2 ⟨rfl, rfl⟩))
      go_ret
      exact ⟨ret_boo (by simp), Below.on (below_new2 w _ _) hb1⟩)
  | cons c l =>
    have hye' : y.toList.isEmpty = false := hye
    have hys : 0 < y.size := by
      have : y.data.toList.length = y.size := by simp
      rw [hyl] at this; simp at this; omega
    have hy0 : y[0] = c := by
      have : y.data.toList[0]? = some c := by rw [hyl]; rfl
      have h2 : y.data.toList[0]? = some y[0] := List.getElem?_eq_getElem (by simpa using hys)
      rw [h2] at this; injection this
    obtain ⟨z, hz⟩ : ∃ z, Lib.indexByte [60, 61, 62] c = z := ⟨_, rfl⟩
    have ix := fun w => Tryd.strings_IndexByte ⟨#[60, 61, 62]⟩ (c.toNat : Int) w
    rw [show (⟨#[60, 61, 62]⟩ : ByteArray).data.toList = [60, 61, 62] from rfl, show ((c.toNat : Int)).toNat.toUInt8 = c by simp, hz] at ix
    have IX := Lib.hid ix
    rw [show headM (c :: l) = decide (0 ≤ z) by rw [← hz]; rfl]
    clear hye hyl ix hz
    cases r <;> cases u <;> cases v
    all_goals (
      go_enter Tryd.func28, Tryd.ntmps28
      go_wp2_with (first
        | (go_at_call 36; (with_reducible refine (HB.out _).mono ?_); rintro e w1 ⟨rfl, hb1⟩)
        | (go_at_call 38; refine (CS.out _).mono ?_; rintro e w2 ⟨rfl, rfl⟩)
        | (go_at_call 39; refine (CN.out _).mono ?_; rintro e w2 ⟨rfl, rfl⟩)
        | (go_at_call 40; refine (IX.out _).mono ?_; rintro e w2 ⟨rfl, rfl⟩))
      go_ret
      exact ⟨ret_boo (by simp), Below.on (below_new2 w _ _) hb1⟩)

def kindsV : Array Value := #[.func (.func 25) #[] #[], .func (.func 26) #[] #[], .func (.func 27) #[] #[], .func (.func 28) #[] #[]]
theorem kinds_is (w : World) : Calls Tryd.prog 16 #[] w fun e w' => e = .returned (.agg #[.func (.func 25) #[] #[], .func (.func 26) #[] #[], .func (.func 27) #[] #[], .func (.func 28) #[] #[]]) ∧ Below w.heap.size w w' := by
  go_enter Tryd.func16, Tryd.ntmps16
  go_wp2
  exact bodyPost_ret (v := .agg #[.func (.func 25) #[] #[], .func (.func 26) #[] #[], .func (.func 27) #[] #[], .func (.func 28) #[] #[]]) (by simp [results, Tryd.results16, go_sem]) rfl ⟨rfl, below_new1 _ _⟩

theorem later_cell {W : World} {a : Addr} {v : Value} (h : W.cell? a = some v) (m : Later W) : m.at_.cell? a = some v := cell_later m.below h
theorem load_cells {W : World} {n : Nat} {cs : Array Value} {T : TypeId} {fz : Nat × Nat} (h : W.heap[n]? = some (.cells cs T fz)) (m : Later W) : m.at_.heap[n]? = some (.cells cs T fz) := blk_later h m.below (blk_lt h)

set_option maxRecDepth 100000 in
set_option maxHeartbeats 8000000 in
theorem may_at (q : Int) (k s : UInt8) (f t : Int) (x : ByteArray) (hx : x.size ≤ 1000000) (d : Docs) (w : World) :
    Calls Tryd.prog 8 #[.int .u8 q, .agg #[.int .u8 (k.toNat : Int), .int .u8 (s.toNat : Int), .int .i64 f, .int .i64 t, .string x], .agg d.cells] w fun e w' => e = .returned (.bool (mayP ⟨k, s, f, t, x⟩ d)) ∧ Below w.heap.size w w' := by
  have KI := Lib.hid (fun w => kinds_is w)
  have fin : ∀ r, mayP ⟨k, s, f, t, x⟩ d = r → (Calls Tryd.prog 8 #[.int .u8 q, .agg #[.int .u8 (k.toNat : Int), .int .u8 (s.toNat : Int), .int .i64 f, .int .i64 t, .string x], .agg d.cells] w fun e w' => e = .returned (.bool r) ∧ Below w.heap.size w w') →
      Calls Tryd.prog 8 #[.int .u8 q, .agg #[.int .u8 (k.toNat : Int), .int .u8 (s.toNat : Int), .int .i64 f, .int .i64 t, .string x], .agg d.cells] w fun e w' => e = .returned (.bool (mayP ⟨k, s, f, t, x⟩ d)) ∧ Below w.heap.size w w' := by
    rintro r rfl h; exact h
  by_cases h4 : k.toNat < 4
  · have hk : k = 0 ∨ k = 1 ∨ k = 2 ∨ k = 3 := by
      rcases (by omega : k.toNat = 0 ∨ k.toNat = 1 ∨ k.toNat = 2 ∨ k.toNat = 3) with e | e | e | e
      · exact .inl (UInt8.toNat_inj.1 e)
      · exact .inr (.inl (UInt8.toNat_inj.1 e))
      · exact .inr (.inr (.inl (UInt8.toNat_inj.1 e)))
      · exact .inr (.inr (.inr (UInt8.toNat_inj.1 e)))
    clear h4
    rcases hk with rfl | rfl | rfl | rfl
    · refine fin (spanP ⟨0, s, f, t, x⟩ d) rfl ?_
      have C0 := fun w => span_at 0 s f t x d w
      unfold Docs.cells at C0
      obtain ⟨r, hr⟩ : ∃ r, spanP ⟨0, s, f, t, x⟩ d = r := ⟨_, rfl⟩
      rw [hr] at C0 ⊢
      have CC := Lib.hid C0
      clear hr C0
      clear fin
      unfold Docs.cells
      go_enter Tryd.func8, Tryd.ntmps8
      go_wp2_with (go_at_call 16; (with_reducible refine (KI.out _).mono ?_); rintro e w1 ⟨rfl, hb1⟩; have HP1 := Lib.hid (blk_later (heap_new2 w _ _).1 hb1 (by rw [size_new2]; omega)); have HD1 := Lib.hid (blk_later (heap_new2 w _ _).2 hb1 (by rw [size_new2]; omega)); have HB1 := Lib.hid (Below.on (below_new2 w _ _) hb1); clear hb1)
      have hb2 := HB1.out.alloc HB1.out.size (.cells #[.func (.func 25) #[] #[], .func (.func 26) #[] #[], .func (.func 27) #[] #[], .func (.func 28) #[] #[]] 49)
      have hk2 := heap_new1 w1 (.cells #[.func (.func 25) #[] #[], .func (.func 26) #[] #[], .func (.func 27) #[] #[], .func (.func 28) #[] #[]] 49)
      have hp2 := blk_later HP1.out (below_new1 w1 (.cells #[.func (.func 25) #[] #[], .func (.func 26) #[] #[], .func (.func 27) #[] #[], .func (.func 28) #[] #[]] 49)) (blk_lt HP1.out)
      have hd2 := blk_later HD1.out (below_new1 w1 (.cells #[.func (.func 25) #[] #[], .func (.func 26) #[] #[], .func (.func 27) #[] #[], .func (.func 28) #[] #[]] 49)) (blk_lt HD1.out)
      obtain ⟨W2, hW2⟩ : ∃ W2, W2 = w1.alloc (.cells #[.func (.func 25) #[] #[], .func (.func 26) #[] #[], .func (.func 27) #[] #[], .func (.func 28) #[] #[]] 49) := ⟨_, rfl⟩
      rw [← hW2] at hb2 hk2 hp2 hd2 ⊢
      have HB2 := Lib.hid hb2
      have p0 := later_cell (show W2.cell? ⟨w.heap.size, 0, none⟩ = some (.int .u8 (((0 : UInt8).toNat : Int))) from blk_cell hp2 0)
      have p1 := later_cell (show W2.cell? ⟨w.heap.size, 1, none⟩ = some (.int .u8 (s.toNat : Int)) from blk_cell hp2 1)
      have p2 := later_cell (show W2.cell? ⟨w.heap.size, 2, none⟩ = some (.int .i64 f) from blk_cell hp2 2)
      have p3 := later_cell (show W2.cell? ⟨w.heap.size, 3, none⟩ = some (.int .i64 t) from blk_cell hp2 3)
      have p4 := later_cell (show W2.cell? ⟨w.heap.size, 4, none⟩ = some (.string x) from blk_cell hp2 4)
      have q0 := later_cell (show W2.cell? ⟨w.heap.size + 1, 0, none⟩ = some (.slice d.a0 d.n0 d.c0) from blk_cell hd2 0)
      have q1 := later_cell (show W2.cell? ⟨w.heap.size + 1, 1, none⟩ = some (.slice d.a1 d.n1 d.c1) from blk_cell hd2 1)
      have q2 := later_cell (show W2.cell? ⟨w.heap.size + 1, 2, none⟩ = some (.slice d.a2 d.n2 d.c2) from blk_cell hd2 2)
      have k0 := later_cell (show W2.cell? ⟨w1.heap.size, 0, none⟩ = some (.func (.func 25) #[] #[]) from blk_cell hk2 0)
      have C1 : Hid (∀ m : Later W2, Calls Tryd.prog 25 #[.agg #[.int .u8 ((0 : UInt8).toNat : Int), .int .u8 (s.toNat : Int), .int .i64 f, .int .i64 t, .string x], .agg #[.slice d.a0 d.n0 d.c0, .slice d.a1 d.n1 d.c1, .slice d.a2 d.n2 d.c2]] m.at_ fun e w'' => e = .returned (.bool r) ∧ ∃ m' : Later W2, w'' = m'.at_) := fun m => (CC.out m.at_).mono fun e w'' ⟨h1, h2⟩ => ⟨h1, ⟨w'', m.below.trans (h2.mono m.below.size)⟩, rfl⟩
      clear hb2 hW2 hk2 hp2 hd2
      refine wp_region_later W2 (by kernel_rfl) (by kernel_rfl) (Below.refl _ _) ?_
      repeat (go_big_quiet_step ((go_at_call 25; exact C1.out _)))
      refine wpQuiet_nil ?_
      intro w3 hw3
      obtain ⟨⟨w4, hb3⟩, e4⟩ := hw3
      have e5 : w3 = w4 := e4
      subst e5
      clear e4
      go_wp2
      go_ret
      exact ⟨rfl, Below.on HB2.out hb3⟩
    · refine fin (glueP ⟨1, s, f, t, x⟩) rfl ?_
      have C0 := fun w => glue_at 1 s f t x hx d w
      unfold Docs.cells at C0
      obtain ⟨r, hr⟩ : ∃ r, glueP ⟨1, s, f, t, x⟩ = r := ⟨_, rfl⟩
      rw [hr] at C0 ⊢
      have CC := Lib.hid C0
      clear hr C0
      clear fin
      unfold Docs.cells
      go_enter Tryd.func8, Tryd.ntmps8
      go_wp2_with (go_at_call 16; (with_reducible refine (KI.out _).mono ?_); rintro e w1 ⟨rfl, hb1⟩; have HP1 := Lib.hid (blk_later (heap_new2 w _ _).1 hb1 (by rw [size_new2]; omega)); have HD1 := Lib.hid (blk_later (heap_new2 w _ _).2 hb1 (by rw [size_new2]; omega)); have HB1 := Lib.hid (Below.on (below_new2 w _ _) hb1); clear hb1)
      have hb2 := HB1.out.alloc HB1.out.size (.cells #[.func (.func 25) #[] #[], .func (.func 26) #[] #[], .func (.func 27) #[] #[], .func (.func 28) #[] #[]] 49)
      have hk2 := heap_new1 w1 (.cells #[.func (.func 25) #[] #[], .func (.func 26) #[] #[], .func (.func 27) #[] #[], .func (.func 28) #[] #[]] 49)
      have hp2 := blk_later HP1.out (below_new1 w1 (.cells #[.func (.func 25) #[] #[], .func (.func 26) #[] #[], .func (.func 27) #[] #[], .func (.func 28) #[] #[]] 49)) (blk_lt HP1.out)
      have hd2 := blk_later HD1.out (below_new1 w1 (.cells #[.func (.func 25) #[] #[], .func (.func 26) #[] #[], .func (.func 27) #[] #[], .func (.func 28) #[] #[]] 49)) (blk_lt HD1.out)
      obtain ⟨W2, hW2⟩ : ∃ W2, W2 = w1.alloc (.cells #[.func (.func 25) #[] #[], .func (.func 26) #[] #[], .func (.func 27) #[] #[], .func (.func 28) #[] #[]] 49) := ⟨_, rfl⟩
      rw [← hW2] at hb2 hk2 hp2 hd2 ⊢
      have HB2 := Lib.hid hb2
      have p0 := later_cell (show W2.cell? ⟨w.heap.size, 0, none⟩ = some (.int .u8 (((1 : UInt8).toNat : Int))) from blk_cell hp2 0)
      have p1 := later_cell (show W2.cell? ⟨w.heap.size, 1, none⟩ = some (.int .u8 (s.toNat : Int)) from blk_cell hp2 1)
      have p2 := later_cell (show W2.cell? ⟨w.heap.size, 2, none⟩ = some (.int .i64 f) from blk_cell hp2 2)
      have p3 := later_cell (show W2.cell? ⟨w.heap.size, 3, none⟩ = some (.int .i64 t) from blk_cell hp2 3)
      have p4 := later_cell (show W2.cell? ⟨w.heap.size, 4, none⟩ = some (.string x) from blk_cell hp2 4)
      have q0 := later_cell (show W2.cell? ⟨w.heap.size + 1, 0, none⟩ = some (.slice d.a0 d.n0 d.c0) from blk_cell hd2 0)
      have q1 := later_cell (show W2.cell? ⟨w.heap.size + 1, 1, none⟩ = some (.slice d.a1 d.n1 d.c1) from blk_cell hd2 1)
      have q2 := later_cell (show W2.cell? ⟨w.heap.size + 1, 2, none⟩ = some (.slice d.a2 d.n2 d.c2) from blk_cell hd2 2)
      have k0 := later_cell (show W2.cell? ⟨w1.heap.size, 1, none⟩ = some (.func (.func 26) #[] #[]) from blk_cell hk2 1)
      have C1 : Hid (∀ m : Later W2, Calls Tryd.prog 26 #[.agg #[.int .u8 ((1 : UInt8).toNat : Int), .int .u8 (s.toNat : Int), .int .i64 f, .int .i64 t, .string x], .agg #[.slice d.a0 d.n0 d.c0, .slice d.a1 d.n1 d.c1, .slice d.a2 d.n2 d.c2]] m.at_ fun e w'' => e = .returned (.bool r) ∧ ∃ m' : Later W2, w'' = m'.at_) := fun m => (CC.out m.at_).mono fun e w'' ⟨h1, h2⟩ => ⟨h1, ⟨w'', m.below.trans (h2.mono m.below.size)⟩, rfl⟩
      clear hb2 hW2 hk2 hp2 hd2
      refine wp_region_later W2 (by kernel_rfl) (by kernel_rfl) (Below.refl _ _) ?_
      repeat (go_big_quiet_step ((go_at_call 26; exact C1.out _)))
      refine wpQuiet_nil ?_
      intro w3 hw3
      obtain ⟨⟨w4, hb3⟩, e4⟩ := hw3
      have e5 : w3 = w4 := e4
      subst e5
      clear e4
      go_wp2
      go_ret
      exact ⟨rfl, Below.on HB2.out hb3⟩
    · refine fin (bareP ⟨2, s, f, t, x⟩) rfl ?_
      have C0 := fun w => key_at 2 s f t x d w
      unfold Docs.cells at C0
      obtain ⟨r, hr⟩ : ∃ r, bareP ⟨2, s, f, t, x⟩ = r := ⟨_, rfl⟩
      rw [hr] at C0 ⊢
      have CC := Lib.hid C0
      clear hr C0
      clear fin
      unfold Docs.cells
      go_enter Tryd.func8, Tryd.ntmps8
      go_wp2_with (go_at_call 16; (with_reducible refine (KI.out _).mono ?_); rintro e w1 ⟨rfl, hb1⟩; have HP1 := Lib.hid (blk_later (heap_new2 w _ _).1 hb1 (by rw [size_new2]; omega)); have HD1 := Lib.hid (blk_later (heap_new2 w _ _).2 hb1 (by rw [size_new2]; omega)); have HB1 := Lib.hid (Below.on (below_new2 w _ _) hb1); clear hb1)
      have hb2 := HB1.out.alloc HB1.out.size (.cells #[.func (.func 25) #[] #[], .func (.func 26) #[] #[], .func (.func 27) #[] #[], .func (.func 28) #[] #[]] 49)
      have hk2 := heap_new1 w1 (.cells #[.func (.func 25) #[] #[], .func (.func 26) #[] #[], .func (.func 27) #[] #[], .func (.func 28) #[] #[]] 49)
      have hp2 := blk_later HP1.out (below_new1 w1 (.cells #[.func (.func 25) #[] #[], .func (.func 26) #[] #[], .func (.func 27) #[] #[], .func (.func 28) #[] #[]] 49)) (blk_lt HP1.out)
      have hd2 := blk_later HD1.out (below_new1 w1 (.cells #[.func (.func 25) #[] #[], .func (.func 26) #[] #[], .func (.func 27) #[] #[], .func (.func 28) #[] #[]] 49)) (blk_lt HD1.out)
      obtain ⟨W2, hW2⟩ : ∃ W2, W2 = w1.alloc (.cells #[.func (.func 25) #[] #[], .func (.func 26) #[] #[], .func (.func 27) #[] #[], .func (.func 28) #[] #[]] 49) := ⟨_, rfl⟩
      rw [← hW2] at hb2 hk2 hp2 hd2 ⊢
      have HB2 := Lib.hid hb2
      have p0 := later_cell (show W2.cell? ⟨w.heap.size, 0, none⟩ = some (.int .u8 (((2 : UInt8).toNat : Int))) from blk_cell hp2 0)
      have p1 := later_cell (show W2.cell? ⟨w.heap.size, 1, none⟩ = some (.int .u8 (s.toNat : Int)) from blk_cell hp2 1)
      have p2 := later_cell (show W2.cell? ⟨w.heap.size, 2, none⟩ = some (.int .i64 f) from blk_cell hp2 2)
      have p3 := later_cell (show W2.cell? ⟨w.heap.size, 3, none⟩ = some (.int .i64 t) from blk_cell hp2 3)
      have p4 := later_cell (show W2.cell? ⟨w.heap.size, 4, none⟩ = some (.string x) from blk_cell hp2 4)
      have q0 := later_cell (show W2.cell? ⟨w.heap.size + 1, 0, none⟩ = some (.slice d.a0 d.n0 d.c0) from blk_cell hd2 0)
      have q1 := later_cell (show W2.cell? ⟨w.heap.size + 1, 1, none⟩ = some (.slice d.a1 d.n1 d.c1) from blk_cell hd2 1)
      have q2 := later_cell (show W2.cell? ⟨w.heap.size + 1, 2, none⟩ = some (.slice d.a2 d.n2 d.c2) from blk_cell hd2 2)
      have k0 := later_cell (show W2.cell? ⟨w1.heap.size, 2, none⟩ = some (.func (.func 27) #[] #[]) from blk_cell hk2 2)
      have C1 : Hid (∀ m : Later W2, Calls Tryd.prog 27 #[.agg #[.int .u8 ((2 : UInt8).toNat : Int), .int .u8 (s.toNat : Int), .int .i64 f, .int .i64 t, .string x], .agg #[.slice d.a0 d.n0 d.c0, .slice d.a1 d.n1 d.c1, .slice d.a2 d.n2 d.c2]] m.at_ fun e w'' => e = .returned (.bool r) ∧ ∃ m' : Later W2, w'' = m'.at_) := fun m => (CC.out m.at_).mono fun e w'' ⟨h1, h2⟩ => ⟨h1, ⟨w'', m.below.trans (h2.mono m.below.size)⟩, rfl⟩
      clear hb2 hW2 hk2 hp2 hd2
      refine wp_region_later W2 (by kernel_rfl) (by kernel_rfl) (Below.refl _ _) ?_
      repeat (go_big_quiet_step ((go_at_call 27; exact C1.out _)))
      refine wpQuiet_nil ?_
      intro w3 hw3
      obtain ⟨⟨w4, hb3⟩, e4⟩ := hw3
      have e5 : w3 = w4 := e4
      subst e5
      clear e4
      go_wp2
      go_ret
      exact ⟨rfl, Below.on HB2.out hb3⟩
    · refine fin (markP ⟨3, s, f, t, x⟩) rfl ?_
      have C0 := fun w => mark_at 3 s f t x hx d w
      unfold Docs.cells at C0
      obtain ⟨r, hr⟩ : ∃ r, markP ⟨3, s, f, t, x⟩ = r := ⟨_, rfl⟩
      rw [hr] at C0 ⊢
      have CC := Lib.hid C0
      clear hr C0
      clear fin
      unfold Docs.cells
      go_enter Tryd.func8, Tryd.ntmps8
      go_wp2_with (go_at_call 16; (with_reducible refine (KI.out _).mono ?_); rintro e w1 ⟨rfl, hb1⟩; have HP1 := Lib.hid (blk_later (heap_new2 w _ _).1 hb1 (by rw [size_new2]; omega)); have HD1 := Lib.hid (blk_later (heap_new2 w _ _).2 hb1 (by rw [size_new2]; omega)); have HB1 := Lib.hid (Below.on (below_new2 w _ _) hb1); clear hb1)
      have hb2 := HB1.out.alloc HB1.out.size (.cells #[.func (.func 25) #[] #[], .func (.func 26) #[] #[], .func (.func 27) #[] #[], .func (.func 28) #[] #[]] 49)
      have hk2 := heap_new1 w1 (.cells #[.func (.func 25) #[] #[], .func (.func 26) #[] #[], .func (.func 27) #[] #[], .func (.func 28) #[] #[]] 49)
      have hp2 := blk_later HP1.out (below_new1 w1 (.cells #[.func (.func 25) #[] #[], .func (.func 26) #[] #[], .func (.func 27) #[] #[], .func (.func 28) #[] #[]] 49)) (blk_lt HP1.out)
      have hd2 := blk_later HD1.out (below_new1 w1 (.cells #[.func (.func 25) #[] #[], .func (.func 26) #[] #[], .func (.func 27) #[] #[], .func (.func 28) #[] #[]] 49)) (blk_lt HD1.out)
      obtain ⟨W2, hW2⟩ : ∃ W2, W2 = w1.alloc (.cells #[.func (.func 25) #[] #[], .func (.func 26) #[] #[], .func (.func 27) #[] #[], .func (.func 28) #[] #[]] 49) := ⟨_, rfl⟩
      rw [← hW2] at hb2 hk2 hp2 hd2 ⊢
      have HB2 := Lib.hid hb2
      have p0 := later_cell (show W2.cell? ⟨w.heap.size, 0, none⟩ = some (.int .u8 (((3 : UInt8).toNat : Int))) from blk_cell hp2 0)
      have p1 := later_cell (show W2.cell? ⟨w.heap.size, 1, none⟩ = some (.int .u8 (s.toNat : Int)) from blk_cell hp2 1)
      have p2 := later_cell (show W2.cell? ⟨w.heap.size, 2, none⟩ = some (.int .i64 f) from blk_cell hp2 2)
      have p3 := later_cell (show W2.cell? ⟨w.heap.size, 3, none⟩ = some (.int .i64 t) from blk_cell hp2 3)
      have p4 := later_cell (show W2.cell? ⟨w.heap.size, 4, none⟩ = some (.string x) from blk_cell hp2 4)
      have q0 := later_cell (show W2.cell? ⟨w.heap.size + 1, 0, none⟩ = some (.slice d.a0 d.n0 d.c0) from blk_cell hd2 0)
      have q1 := later_cell (show W2.cell? ⟨w.heap.size + 1, 1, none⟩ = some (.slice d.a1 d.n1 d.c1) from blk_cell hd2 1)
      have q2 := later_cell (show W2.cell? ⟨w.heap.size + 1, 2, none⟩ = some (.slice d.a2 d.n2 d.c2) from blk_cell hd2 2)
      have k0 := later_cell (show W2.cell? ⟨w1.heap.size, 3, none⟩ = some (.func (.func 28) #[] #[]) from blk_cell hk2 3)
      have C1 : Hid (∀ m : Later W2, Calls Tryd.prog 28 #[.agg #[.int .u8 ((3 : UInt8).toNat : Int), .int .u8 (s.toNat : Int), .int .i64 f, .int .i64 t, .string x], .agg #[.slice d.a0 d.n0 d.c0, .slice d.a1 d.n1 d.c1, .slice d.a2 d.n2 d.c2]] m.at_ fun e w'' => e = .returned (.bool r) ∧ ∃ m' : Later W2, w'' = m'.at_) := fun m => (CC.out m.at_).mono fun e w'' ⟨h1, h2⟩ => ⟨h1, ⟨w'', m.below.trans (h2.mono m.below.size)⟩, rfl⟩
      clear hb2 hW2 hk2 hp2 hd2
      refine wp_region_later W2 (by kernel_rfl) (by kernel_rfl) (Below.refl _ _) ?_
      repeat (go_big_quiet_step ((go_at_call 28; exact C1.out _)))
      refine wpQuiet_nil ?_
      intro w3 hw3
      obtain ⟨⟨w4, hb3⟩, e4⟩ := hw3
      have e5 : w3 = w4 := e4
      subst e5
      clear e4
      go_wp2
      go_ret
      exact ⟨rfl, Below.on HB2.out hb3⟩
  · refine fin false ?_ ?_
    · have h0 : k ≠ 0 := by rintro rfl; exact h4 (by decide)
      have h1 : k ≠ 1 := by rintro rfl; exact h4 (by decide)
      have h2 : k ≠ 2 := by rintro rfl; exact h4 (by decide)
      have h3 : k ≠ 3 := by rintro rfl; exact h4 (by decide)
      simp [mayP, h0, h1, h2, h3]
    · have b4 : decide ((k.toNat : Int) < 4) = false := decide_eq_false (by omega)
      have b4' : decide (k.toNat < 4) = false := decide_eq_false h4
      have hwr : wrap64 (k.toNat : Int) = (k.toNat : Int) := by unfold wrap64; have := k.toNat_lt; omega
      obtain ⟨cs, hcs⟩ : ∃ cs, cs = d.cells := ⟨_, rfl⟩
      rw [← hcs]
      clear fin hcs
      go_enter Tryd.func8, Tryd.ntmps8
      go_wp2_with (go_at_call 16; (with_reducible refine (KI.out _).mono ?_); rintro e w1 ⟨rfl, hb1⟩; have HP1 := Lib.hid (blk_later (heap_new2 w _ _).1 hb1 (by rw [size_new2]; omega)); have HD1 := Lib.hid (blk_later (heap_new2 w _ _).2 hb1 (by rw [size_new2]; omega)); have HB1 := Lib.hid (Below.on (below_new2 w _ _) hb1); clear hb1)
      have hb2 := HB1.out.alloc HB1.out.size (.cells #[.func (.func 25) #[] #[], .func (.func 26) #[] #[], .func (.func 27) #[] #[], .func (.func 28) #[] #[]] 49)
      have hk2 := heap_new1 w1 (.cells #[.func (.func 25) #[] #[], .func (.func 26) #[] #[], .func (.func 27) #[] #[], .func (.func 28) #[] #[]] 49)
      have hp2 := blk_later HP1.out (below_new1 w1 (.cells #[.func (.func 25) #[] #[], .func (.func 26) #[] #[], .func (.func 27) #[] #[], .func (.func 28) #[] #[]] 49)) (blk_lt HP1.out)
      have hd2 := blk_later HD1.out (below_new1 w1 (.cells #[.func (.func 25) #[] #[], .func (.func 26) #[] #[], .func (.func 27) #[] #[], .func (.func 28) #[] #[]] 49)) (blk_lt HD1.out)
      obtain ⟨W2, hW2⟩ : ∃ W2, W2 = w1.alloc (.cells #[.func (.func 25) #[] #[], .func (.func 26) #[] #[], .func (.func 27) #[] #[], .func (.func 28) #[] #[]] 49) := ⟨_, rfl⟩
      rw [← hW2] at hb2 hk2 hp2 hd2 ⊢
      have HB2 := Lib.hid hb2
      have p0 := later_cell (show W2.cell? ⟨w.heap.size, 0, none⟩ = some (.int .u8 ((k.toNat : Int))) from blk_cell hp2 0)
      clear hb2 hW2 hk2 hp2 hd2
      refine wp_region_later W2 (by kernel_rfl) (by kernel_rfl) (Below.refl _ _) ?_
      repeat (go_big_quiet_step ((fail)))
      refine wpQuiet_nil ?_
      intro w3 hw3
      obtain ⟨⟨w4, hb3⟩, e4⟩ := hw3
      have e5 : w3 = w4 := e4
      subst e5
      clear e4
      go_wp2
      go_ret
      exact ⟨rfl, Below.on HB2.out hb3⟩

end Go.Proofs.YtpafadfaphaoeaaDoor
