/- Walks over package decimals: split; no statement of the seat is proved here. -/
import Derived.Test.YtncldnghhpdolaaGreatDoorDcA
import Derived.Deep.RegionWith
import Derived.StillTailTactics
namespace Go.Proofs.YtncldnghhpdolaaGreatDoor
open Go.RowKit

theorem cset_own {n : Nat} {w : World} {cs : Array Value} {T : TypeId} {fz : Nat × Nat} (h : w.heap[n]? = some (.cells cs T fz)) (k : Nat) (v : Value) : (w.setCell ⟨n, k, none⟩ v).heap[n]? = some (.cells (cs.setIfInBounds k v) T fz) := by
  simp [World.setCell, Array.getElem?_modify, h]
theorem cset_other {n b : Nat} {w : World} {o : Obj} (h : w.heap[n]? = some o) (hb : b ≠ n) (k : Nat) (v : Value) : (w.setCell ⟨b, k, none⟩ v).heap[n]? = some o := by
  simp [World.setCell, Array.getElem?_modify, h, hb]

/-- A text's parts in memory, the taker's text behind them, in a world that came of w0. -/
structure SW (w0 w : World) (m : Bool) (wh pa sg po : ByteArray) (pt ra : Bool) (s : ByteArray) : Prop where
  blk : w.heap[w0.heap.size]? = some (.cells #[.bool m, .string wh, .string pa, .string sg, .string po, .bool pt, .bool ra] 43 (0, 0))
  tb : TB w (w0.heap.size + 1) s
  below : Below w0.heap.size w0 w
variable {w0 w : World} {m : Bool} {wh pa sg po : ByteArray} {pt ra : Bool} {s : ByteArray}
theorem SW.facts (h : SW w0 w m wh pa sg po pt ra s) :
    w.cell? ⟨w0.heap.size, 0, none⟩ = some (.bool m) ∧ w.cell? ⟨w0.heap.size, 1, none⟩ = some (.string wh) ∧ w.cell? ⟨w0.heap.size, 2, none⟩ = some (.string pa) ∧ w.cell? ⟨w0.heap.size, 3, none⟩ = some (.string sg) ∧ w.cell? ⟨w0.heap.size, 4, none⟩ = some (.string po) ∧ w.cell? ⟨w0.heap.size, 5, none⟩ = some (.bool pt) ∧ w.cell? ⟨w0.heap.size, 6, none⟩ = some (.bool ra) ∧ (∀ i, w.frozen? ⟨w0.heap.size, i, none⟩ = false) ∧ w0.heap.size < w.heap.size :=
  ⟨blk_cell h.blk 0, blk_cell h.blk 1, blk_cell h.blk 2, blk_cell h.blk 3, blk_cell h.blk 4, blk_cell h.blk 5, blk_cell h.blk 6, fun i => blk_frozen h.blk i, blk_lt h.blk⟩
theorem SW.set {m' : Bool} {wh' pa' sg' po' : ByteArray} {pt' ra' : Bool} (h : SW w0 w m wh pa sg po pt ra s) (k : Nat) (v : Value)
    (he : (#[.bool m, .string wh, .string pa, .string sg, .string po, .bool pt, .bool ra] : Array Value).setIfInBounds k v = #[.bool m', .string wh', .string pa', .string sg', .string po', .bool pt', .bool ra']) : SW w0 (w.setCell ⟨w0.heap.size, k, none⟩ v) m' wh' pa' sg' po' pt' ra' s :=
  ⟨by rw [← he]; exact cset_own h.blk k v, cset_other h.tb (by omega) k v, h.below.setCell (Nat.le_refl _) _⟩
theorem SW.new (w : World) (s : ByteArray) : SW w ((w.alloc (.cells #[.bool false, .string ⟨#[]⟩, .string ⟨#[]⟩, .string ⟨#[]⟩, .string ⟨#[]⟩, .bool false, .bool false] 43)).alloc (.cells #[.string s] 9)) false ⟨#[]⟩ ⟨#[]⟩ ⟨#[]⟩ ⟨#[]⟩ false false s :=
  ⟨(heap_new2 w _ _).1, (heap_new2 w _ _).2, below_new2 w _ _⟩
theorem SW.take {n : Nat} (h : SW w0 w m wh pa sg po pt ra s) (set : ByteArray) (p : UInt8 → Bool) (hp : ∀ c, decide (0 ≤ Lib.indexByte set.data.toList c) = p c) (k : Nat) (hk : k ≤ 1099511627776) (hs : s.size ≤ 1099511627776) (hn : tkN p k s.data.toList = n) (t r : ByteArray) (ht : t.data.toList = s.data.toList.take n) (hr : r.data.toList = s.data.toList.drop n) :
    Calls Tryz.prog 94 #[.string set, .int .i64 (k : Int), .pointer (some ⟨w0.heap.size + 1, 0, none⟩)] w fun e w' => e = .returned (.string t) ∧ SW w0 w' m wh pa sg po pt ra r := by
  have e1 : s.extract 0 n = t := str_of (by rw [ext_list, ht]; simp)
  have e2 : s.extract n s.size = r := str_of (by rw [ext_end, hr])
  refine (take_is set s p hp k hk hs n hn _ w h.tb).mono ?_
  rintro e w' ⟨rfl, rfl⟩
  rw [e1, e2]
  exact ⟨rfl, cset_other h.blk (by omega) _ _, cset_own h.tb 0 _, h.below.setCell (by simp) _⟩
theorem SW.over (h : SW w0 w m wh pa sg po pt ra s) (b : Bool) (hb : s.data.toList.isEmpty = b) :
    Calls Tryz.prog 96 #[.pointer (some ⟨w0.heap.size + 1, 0, none⟩)] w fun e w' => e = .returned (.bool b) ∧ w = w' := over_is s b hb _ w h.tb
theorem res_split (h : SW w0 w m wh pa sg po pt ra s) (b : Bool) (a : Array Value) (ha : a[2]?.getD undef = .pointer (some ⟨w0.heap.size, 0, none⟩)) (hb : a[3]?.getD undef = .bool b) :
    (results Tryz.f36 a).run Tryz.prog w = .ok (.tuple #[.agg #[.bool m, .string wh, .string pa, .string sg, .string po, .bool pt, .bool ra], .bool b]) w := by
  obtain ⟨x0, x1, x2, x3, x4, x5, x6, _, _⟩ := h.facts
  simp [results, Tryz.results36, go_sem, ha, hb, x0, x1, x2, x3, x4, x5, x6]

theorem u8_allB {p : UInt8 → Bool} (h : ∀ n : Fin 256, p (UInt8.ofNat n.1) = true) (c : UInt8) : p c = true := by
  have := h ⟨c.toNat, c.toNat_lt⟩
  simpa using this
theorem set_min (c : UInt8) : decide (0 ≤ Lib.indexByte [45] c) = isMin c := by
  rw [index_mem]
  have := u8_allB (p := fun c => ([45] : List UInt8).contains c == isMin c) (by decide +kernel) c
  simpa using this
theorem set_dot (c : UInt8) : decide (0 ≤ Lib.indexByte [46] c) = isDot c := by
  rw [index_mem]
  have := u8_allB (p := fun c => ([46] : List UInt8).contains c == isDot c) (by decide +kernel) c
  simpa using this
theorem set_exp (c : UInt8) : decide (0 ≤ Lib.indexByte [101, 69] c) = isExp c := by
  rw [index_mem]
  have := u8_allB (p := fun c => ([101, 69] : List UInt8).contains c == isExp c) (by decide +kernel) c
  simpa using this
theorem set_sig (c : UInt8) : decide (0 ≤ Lib.indexByte [43, 45] c) = isSig c := by
  rw [index_mem]
  have := u8_allB (p := fun c => ([43, 45] : List UInt8).contains c == isSig c) (by decide +kernel) c
  simpa using this
theorem set_num (c : UInt8) : decide (0 ≤ Lib.indexByte [48, 49, 50, 51, 52, 53, 54, 55, 56, 57] c) = dgB c := by
  rw [index_mem]
  have := u8_allB (p := fun c => ([48, 49, 50, 51, 52, 53, 54, 55, 56, 57] : List UInt8).contains c == dgB c) (by decide +kernel) c
  simpa using this
/-- one byte taken, or none -/
theorem one_str (p : UInt8 → Bool) (l : List UInt8) (t : ByteArray) (ht : t.data.toList = l.take (one p l)) : t.toList.isEmpty = !hdB p l := by
  have e0 : t.toList = t.data.toList := ByteArray.toList_eq t
  rw [e0, ht]
  unfold one
  cases h : hdB p l
  · simp
  · cases l with
    | nil => cases h
    | cons c q => simp

end Go.Proofs.YtncldnghhpdolaaGreatDoor
