/- Words for the walk over tkeys.Read: what it collects in memory; no statement of the seat is proved here. -/
import Derived.Test.YtflfedfghnnaeaaDoorKyC
import Derived.Deep.RegionHeld3
import Derived.Deep.AppendLies
namespace Go.Proofs.YtflfedfghnnaeaaDoor
open Go.RowKit

theorem str_info : (Tryd.prog.info? 9).map (fun i => (i.zero, i.size, i.bytes)) = some (some (.string ByteArray.empty), 1, 16) := by kernel_rfl
theorem span_info : (Tryd.prog.info? 37).map (fun i => (i.zero, i.size, i.bytes)) = some (some (.agg #[.int .i64 0, .int .i64 0]), 2, 16) := by kernel_rfl
abbrev Ent := List UInt8 × Nat × Nat
def textV (es : List Ent) : List Value := es.map fun e => .string ⟨e.1.toArray⟩
def spanV (es : List Ent) : List Value := es.flatMap fun e => [.int .i64 (e.2.1 : Int), .int .i64 (e.2.2 : Int)]
theorem textV_one (es : List Ent) (e : Ent) : textV (es ++ [e]) = textV es ++ [.string ⟨e.1.toArray⟩] := by simp [textV]
theorem spanV_one (es : List Ent) (e : Ent) : spanV (es ++ [e]) = spanV es ++ [.int .i64 (e.2.1 : Int), .int .i64 (e.2.2 : Int)] := by simp [spanV]
/-- What has been collected. -/
structure KM (w wr : World) (v1 v2 : Value) (es : List Ent) : Prop where
  kb : wr.heap[w.heap.size]? = some (.cells #[v1, v2] 30 (0, 0))
  fb : FB wr (w.heap.size + 1) 0 0
  o1 : wr.ownsRow (w.heap.size + 2) 9 1 v1 es.length (textV es)
  o2 : wr.ownsRow (w.heap.size + 2) 37 2 v2 es.length (spanV es)
  ne : ∀ g, v1.ownBlock = some g → v2.ownBlock ≠ some g
  below : Below w.heap.size w wr
theorem KM.keep {w wr w2 : World} {v1 v2 : Value} {es : List Ent} (h : KM w wr v1 v2 es) {B : Nat} (hb : Below B wr w2) (hB : wr.heap.size ≤ B) : KM w w2 v1 v2 es :=
  ⟨blk_later h.kb hb (Nat.lt_of_lt_of_le (blk_lt h.kb) hB), h.fb.keep hb hB, own_keep h.o1 hb hB, own_keep h.o2 hb hB, h.ne, h.below.trans (hb.mono (by have := h.below.size; omega))⟩
theorem KM.start (w : World) : KM w ((w.alloc (.cells #[.slice none 0 0, .slice none 0 0] 30)).alloc (.cells #[.int .i64 0, .int .i64 0] 33)) (.slice none 0 0) (.slice none 0 0) [] :=
  ⟨(heap_new2 w _ _).1, (heap_new2 w _ _).2, World.ownsRow_nil _ _ _ _, World.ownsRow_nil _ _ _ _, fun g h => (by cases h), (below_new1 w _).trans ((below_new1 _ _).mono (by simp))⟩
theorem KM.lt {w wr : World} {v1 v2 : Value} {es : List Ent} (h : KM w wr v1 v2 es) : w.heap.size + 1 < wr.heap.size := blk_lt h.fb
/-- A world in which nothing but two rows has turned. -/
structure Grow2 (w w' : World) (b1 b2 : Option Nat) : Prop where
  os : w'.os = w.os
  tape : w'.tape = w.tape
  output : w'.output = w.output
  size : w.heap.size ≤ w'.heap.size
  block : ∀ k, k < w.heap.size → some k ≠ b1 → some k ≠ b2 → w'.heap[k]? = w.heap[k]?
theorem own_blk {w w' : World} {base : Nat} {e : TypeId} {size : Nat} {v : Value} {n : Nat} {xs : List Value} (h : w.ownsRow base e size v n xs) (hb : ∀ g, v.ownBlock = some g → w'.heap[g]? = w.heap[g]?) : w'.ownsRow base e size v n xs := by
  obtain ⟨hl, h⟩ := h
  refine ⟨hl, ?_⟩
  rcases h with h | ⟨g, cap, cur, hv, h1, h2, h3⟩
  · exact .inl h
  · exact .inr ⟨g, cap, cur, hv, h1, by rw [hb g (by rw [hv]; rfl)]; exact h2, h3⟩
theorem own_in {w : World} {base : Nat} {e : TypeId} {size : Nat} {v : Value} {n : Nat} {xs : List Value} (h : w.ownsRow base e size v n xs) {g : Nat} (hg : v.ownBlock = some g) : base ≤ g ∧ g < w.heap.size := World.ownsRow.lt h g hg
theorem KM.done {w wX W : World} {v1 v2 s1 s2 : Value} {es : List Ent} {e : Ent} (h : KM w wX v1 v2 es) (hG : Grow2 wX W v1.ownBlock v2.ownBlock)
    (o1 : W.ownsRow (w.heap.size + 2) 9 1 s1 (es.length + 1) (textV es ++ [.string ⟨e.1.toArray⟩])) (o2 : W.ownsRow (w.heap.size + 2) 37 2 s2 (es.length + 1) (spanV es ++ [.int .i64 (e.2.1 : Int), .int .i64 (e.2.2 : Int)]))
    (ne : ∀ g, s1.ownBlock = some g → s2.ownBlock ≠ some g) : KM w ((W.setCell ⟨w.heap.size, 0, none⟩ s1).setCell ⟨w.heap.size, 1, none⟩ s2) s1 s2 (es ++ [e]) := by
  have hlt := h.lt
  have far : ∀ k, k < w.heap.size + 2 → W.heap[k]? = wX.heap[k]? := fun k hk => hG.block k (by omega) (fun e => by have := (own_in h.o1 e.symm).1; omega) (fun e => by have := (own_in h.o2 e.symm).1; omega)
  have kb : W.heap[w.heap.size]? = some (.cells #[v1, v2] 30 (0, 0)) := (far _ (by omega)).trans h.kb
  have fb : FB W (w.heap.size + 1) 0 0 := (far _ (by omega)).trans h.fb
  have k1 : (W.setCell ⟨w.heap.size, 0, none⟩ s1).heap[w.heap.size]? = some (.cells #[s1, v2] 30 (0, 0)) := by simp [World.setCell, Array.getElem?_modify, kb]
  have nb : ∀ {s : Value} {n : Nat} {xs : List Value} {ty : TypeId} {sz : Nat}, W.ownsRow (w.heap.size + 2) ty sz s n xs → s.ownBlock ≠ some w.heap.size := fun ho hs => by have := (own_in ho hs).1; omega
  refine ⟨by simp [World.setCell, Array.getElem?_modify, kb], ?_, ?_, ?_, ne, ?_⟩
  · have e1 := Below.heap_setCell (W.setCell ⟨w.heap.size, 0, none⟩ s1) ⟨w.heap.size, 1, none⟩ s2 (w.heap.size + 1) (by show w.heap.size + 1 ≠ w.heap.size; omega)
    have e2 := Below.heap_setCell W ⟨w.heap.size, 0, none⟩ s1 (w.heap.size + 1) (by show w.heap.size + 1 ≠ w.heap.size; omega)
    exact (e1.trans e2).trans fb
  · rw [List.length_append, textV_one]
    exact own_set_ne (own_set_ne o1 (p := ⟨w.heap.size, 0, none⟩) (nb o1) _) (p := ⟨w.heap.size, 1, none⟩) (nb o1) _
  · rw [List.length_append, spanV_one]
    exact own_set_ne (own_set_ne o2 (p := ⟨w.heap.size, 0, none⟩) (nb o2) _) (p := ⟨w.heap.size, 1, none⟩) (nb o2) _
  · have hb : Below w.heap.size w W := h.below.trans ⟨hG.os, hG.tape, hG.output, hG.size, fun k hk => far k (by omega)⟩
    exact (hb.setCell (p := ⟨w.heap.size, 0, none⟩) (Nat.le_refl _) _).setCell (p := ⟨w.heap.size, 1, none⟩) (Nat.le_refl _) _
theorem Grow2.drew (w : World) (b1 b2 : Option Nat) : Grow2 w w.drew b1 b2 := ⟨rfl, rfl, rfl, Nat.le_refl _, fun _ _ _ _ => rfl⟩
theorem Grow2.alloc {w w' : World} {b1 b2 : Option Nat} (h : Grow2 w w' b1 b2) (o : Obj) : Grow2 w (w'.alloc o) b1 b2 :=
  ⟨h.os, h.tape, h.output, by have := h.size; simp; omega, fun k hk h1 h2 => (Below.heap_alloc w' o k (by have := h.size; omega)).trans (h.block k hk h1 h2)⟩
theorem Grow2.grown {w w' w'' : World} {b1 b2 r : Option Nat} (h : Grow2 w w' b1 b2) (hg : w'.grownBy w'' r) (hr : r = b1 ∨ r = b2) : Grow2 w w'' b1 b2 :=
  ⟨hg.os.trans h.os, hg.tape.trans h.tape, hg.output.trans h.output, by have := h.size; have := hg.size; omega, fun k hk h1 h2 => (hg.block k (by have := h.size; omega) (fun e => by rcases hr with rfl | rfl; exact h1 e; exact h2 e)).trans (h.block k hk h1 h2)⟩
theorem Grow2.refl (w : World) (b1 b2 : Option Nat) : Grow2 w w b1 b2 := ⟨rfl, rfl, rfl, Nat.le_refl _, fun _ _ _ _ => rfl⟩
theorem Grow2.trans {w w' w'' : World} {b1 b2 : Option Nat} (h : Grow2 w w' b1 b2) (h' : Grow2 w' w'' none none) : Grow2 w w'' b1 b2 :=
  ⟨h'.os.trans h.os, h'.tape.trans h.tape, h'.output.trans h.output, Nat.le_trans h.size h'.size, fun k hk h1 h2 => (h'.block k (by have := h.size; omega) (by simp) (by simp)).trans (h.block k hk h1 h2)⟩
theorem Grow2.wide {w w' : World} (h : Grow2 w w' none none) (b1 b2 : Option Nat) : Grow2 w w' b1 b2 := ⟨h.os, h.tape, h.output, h.size, fun k hk _ _ => h.block k hk (by simp) (by simp)⟩
theorem Grow2.drew' {w w' : World} {b1 b2 : Option Nat} (h : Grow2 w w' b1 b2) : Grow2 w w'.drew b1 b2 := h.trans (Grow2.drew _ _ _)
theorem Grow2.own {w w' : World} (h : Grow2 w w' none none) {base : Nat} {e : TypeId} {size : Nat} {v : Value} {n : Nat} {xs : List Value} (ho : w.ownsRow base e size v n xs) : w'.ownsRow base e size v n xs :=
  own_blk ho fun g hg => h.block g (own_in ho hg).2 (by simp) (by simp)
/-- Behind the first append. -/
theorem KM.mid {w wX Wa w1 : World} {v1 v2 : Value} {es : List Ent} (h : KM w wX v1 v2 es) (ha : Grow2 wX Wa none none) (hg1 : Wa.grownBy w1 v1.ownBlock) :
    w1.ownsRow (w.heap.size + 2) 37 2 v2 es.length (spanV es) ∧ w1.cell? ⟨w.heap.size, 0, none⟩ = some v1 ∧ w1.cell? ⟨w.heap.size, 1, none⟩ = some v2 ∧ w.heap.size < w1.heap.size ∧ (∀ k, wX.heap.size ≤ k → k < Wa.heap.size → w1.heap[k]? = Wa.heap[k]?) := by
  have hlt := h.lt
  have hs := ha.size
  have ho2 := ha.own h.o2
  have hk1 : w1.heap[w.heap.size]? = some (.cells #[v1, v2] 30 (0, 0)) := (hg1.block _ (by omega) (fun e => by have := (own_in h.o1 e.symm).1; omega)).trans ((ha.block _ (by omega) (by simp) (by simp)).trans h.kb)
  exact ⟨own_blk ho2 fun g hg => hg1.block g (own_in ho2 hg).2 (fun e => h.ne g e.symm hg), blk_cell hk1 0, blk_cell hk1 1, blk_lt hk1, fun k hk hk' => hg1.block k hk' (fun e => by have := (own_in h.o1 e.symm).2; omega)⟩
/-- Behind the second append: the collected key's cells may be stored to. -/
theorem KM.end_ {w wX Wa w1 Wb w2 : World} {v1 v2 : Value} {es : List Ent} (h : KM w wX v1 v2 es) (ha : Grow2 wX Wa none none) (hg1 : Wa.grownBy w1 v1.ownBlock) (hb : Grow2 w1 Wb none none) (hg2 : Wb.grownBy w2 v2.ownBlock) :
    w2.cell? ⟨w.heap.size, 0, none⟩ = some v1 ∧ w2.cell? ⟨w.heap.size, 1, none⟩ = some v2 ∧ w2.frozen? ⟨w.heap.size, 0, none⟩ = false ∧ w2.frozen? ⟨w.heap.size, 1, none⟩ = false := by
  have hlt := h.lt
  have hs := ha.size
  have hs1 := hg1.size
  have hsb := hb.size
  have hk1 : w1.heap[w.heap.size]? = some (.cells #[v1, v2] 30 (0, 0)) := (hg1.block _ (by omega) (fun e => by have := (own_in h.o1 e.symm).1; omega)).trans ((ha.block _ (by omega) (by simp) (by simp)).trans h.kb)
  have hk2 : w2.heap[w.heap.size]? = some (.cells #[v1, v2] 30 (0, 0)) := (hg2.block _ (by omega) (fun e => by have := (own_in h.o2 e.symm).1; omega)).trans ((hb.block _ (by omega) (by simp) (by simp)).trans hk1)
  exact ⟨blk_cell hk2 0, blk_cell hk2 1, blk_frozen hk2 0, blk_frozen hk2 1⟩
theorem KM.two {w wX Wa w1 Wb w2 : World} {v1 v2 : Value} {es : List Ent} {e : Ent} {g1 c1 g2 c2 : Nat} (h : KM w wX v1 v2 es) (ha : Grow2 wX Wa none none) (hg1 : Wa.grownBy w1 v1.ownBlock)
    (hown1 : w1.ownsRow (w.heap.size + 2) 9 1 (.slice (some ⟨g1, 0, none⟩) (es.length + 1) c1) (es.length + 1) (textV es ++ [.string ⟨e.1.toArray⟩])) (hat1 : v1.ownBlock = some g1 ∨ g1 = Wa.heap.size) (hlt1 : g1 < w1.heap.size)
    (hb : Grow2 w1 Wb none none) (hg2 : Wb.grownBy w2 v2.ownBlock) (hown2 : w2.ownsRow (w.heap.size + 2) 37 2 (.slice (some ⟨g2, 0, none⟩) (es.length + 1) c2) (es.length + 1) (spanV es ++ [.int .i64 (e.2.1 : Int), .int .i64 (e.2.2 : Int)])) (hat2 : v2.ownBlock = some g2 ∨ g2 = Wb.heap.size) :
    KM w ((w2.setCell ⟨w.heap.size, 0, none⟩ (.slice (some ⟨g1, 0, none⟩) (es.length + 1) c1)).setCell ⟨w.heap.size, 1, none⟩ (.slice (some ⟨g2, 0, none⟩) (es.length + 1) c2)) (.slice (some ⟨g1, 0, none⟩) (es.length + 1) c1) (.slice (some ⟨g2, 0, none⟩) (es.length + 1) c2) (es ++ [e]) := by
  have hsa := ha.size
  have hsb := hb.size
  have hs1 := hg1.size
  have n12 : v2.ownBlock ≠ some g1 := fun hv => by
    rcases hat1 with h1 | h1
    · exact h.ne _ h1 hv
    · have := (own_in h.o2 hv).2; omega
  have hownb := hb.own hown1
  have o1 := own_blk (w' := w2) hownb fun g hg => hg2.block g (own_in hownb hg).2 (fun e => by
    have hgg : g1 = g := by injection hg
    subst hgg
    exact n12 e.symm)
  refine h.done ((((ha.wide v1.ownBlock v2.ownBlock).grown hg1 (.inl rfl)).trans hb).grown hg2 (.inr rfl)) o1 hown2 (fun g hg hg' => ?_)
  have e1 : g1 = g := by injection hg
  have e2 : g2 = g := by injection hg'
  subst e1
  subst e2
  rcases hat2 with h2 | h2
  · exact n12 h2
  · omega

end Go.Proofs.YtflfedfghnnaeaaDoor
