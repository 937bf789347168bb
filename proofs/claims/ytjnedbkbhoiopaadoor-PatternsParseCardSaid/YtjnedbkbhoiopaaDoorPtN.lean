/- Walks over package patterns: Parse whole, Len; rows of truth values; no statement of the seat is proved here. -/
import Derived.Test.YtjnedbkbhoiopaaDoorPtM
import Derived.Deep.OwnRows
namespace Go.Proofs.YtjnedbkbhoiopaaDoor
open Go.RowKit

theorem parse_is (s : ByteArray) (hs : s.size ≤ 1000000) (w : World) : Calls Tryd.prog 9 #[.string s] w fun e w' => ParseRes w' e (parseL s.data.toList) ∧ Below w.heap.size w w' := by
  by_cases h46 : s.data.toList = [46]
  · obtain rfl : s = ⟨#[46]⟩ := bytes_ext h46
    exact parse_root w
  · by_cases h0 : s.data.toList = []
    · obtain rfl : s = ⟨#[]⟩ := bytes_ext h0
      exact parse_none w
    · have := parse_loop s hs h0 h46 w
      unfold parseL
      rw [if_neg h46, if_neg h0]; exact this

theorem len_nil (w : World) : Calls Tryd.prog 12 #[.pointer none] w fun e w' => e = .returned (.int .i64 0) ∧ w = w' := by
  go_enter Tryd.func12, Tryd.ntmps12
  go_wp2
  go_ret
  exact ⟨rfl, rfl⟩
theorem len_is (b : Nat) (x : Bool) (A : Option Addr) (n c : Nat) (w : World) (h : w.heap[b]? = some (.cells #[.bool x, .slice A n c] 34 (0, 0))) : Calls Tryd.prog 12 #[.pointer (some ⟨b, 0, none⟩)] w fun e w' => e = .returned (.int .i64 n) ∧ w = w' := by
  have c1 : w.cell? ⟨b, 1, none⟩ = some (.slice A n c) := blk_cell h 1
  go_enter Tryd.func12, Tryd.ntmps12
  go_wp2
  go_ret
  exact ⟨rfl, rfl⟩
theorem text_nil (w : World) : Calls Tryd.prog 11 #[.pointer none] w fun e w' => e = .returned (.string ⟨#[]⟩) ∧ w = w' := by
  go_enter Tryd.func11, Tryd.ntmps11
  go_wp2
  go_ret
  exact ⟨rfl, rfl⟩
theorem text_void (b : Nat) (v : Value) (w : World) (h : w.heap[b]? = some (.cells #[.bool false, v] 34 (0, 0))) : Calls Tryd.prog 11 #[.pointer (some ⟨b, 0, none⟩)] w fun e w' => e = .returned (.string ⟨#[]⟩) ∧ w = w' := by
  have c0 : w.cell? ⟨b, 0, none⟩ = some (.bool false) := blk_cell h 0
  go_enter Tryd.func11, Tryd.ntmps11
  go_wp2
  go_ret
  exact ⟨rfl, rfl⟩
theorem match_nil (v : Value) (w : World) : Calls Tryd.prog 10 #[.pointer none, v] w fun e w' => e = .returned (.bool false) ∧ w = w' := by
  go_enter Tryd.func10, Tryd.ntmps10
  go_wp2
  go_ret
  exact ⟨rfl, rfl⟩
theorem match_void (b : Nat) (u v : Value) (w : World) (h : w.heap[b]? = some (.cells #[.bool false, v] 34 (0, 0))) : Calls Tryd.prog 10 #[.pointer (some ⟨b, 0, none⟩), u] w fun e w' => e = .returned (.bool false) ∧ w = w' := by
  have c0 : w.cell? ⟨b, 0, none⟩ = some (.bool false) := blk_cell h 0
  go_enter Tryd.func10, Tryd.ntmps10
  go_wp2
  go_ret
  exact ⟨rfl, rfl⟩

/-- A row of truth values. -/
def brow (n : Nat) (f : Nat → Bool) : Array Value := ((List.range n).map fun j => Value.bool (f j)).toArray
theorem brow_get {n : Nat} {f : Nat → Bool} {j : Nat} (h : j < n) : (brow n f)[j]? = some (.bool (f j)) := by simp [brow, h]
theorem brow_out {n : Nat} {f : Nat → Bool} {j : Nat} (h : n ≤ j) : (brow n f)[j]? = none := by simp [brow, h]
theorem brow_made (n : Nat) : madeCells #[.bool false] n = brow n fun _ => false := by
  apply Array.ext_getElem?
  intro j
  rcases Nat.lt_or_ge j n with h | h
  · rw [brow_get h]; simp [madeCells, h, Nat.mod_one]
  · rw [brow_out h]; simp [madeCells, h]
theorem brow_set (n : Nat) (f : Nat → Bool) (i : Nat) (x : Bool) : (brow n f).setIfInBounds i (.bool x) = brow n fun j => if j = i then x else f j := by
  apply Array.ext_getElem?
  intro j
  rw [Array.getElem?_setIfInBounds]
  have hs : (brow n f).size = n := by simp [brow]
  rcases Nat.lt_or_ge j n with h | h
  · rw [brow_get h]
    by_cases e : i = j
    · subst e; rw [if_pos rfl, if_pos (by omega), brow_get h, if_pos rfl]
    · rw [if_neg e, brow_get h, if_neg (fun q => e q.symm)]
  · rw [brow_out h]
    by_cases e : i = j
    · subst e; rw [if_pos rfl, if_neg (by omega), brow_out h]
    · rw [if_neg e, brow_out h]
def BR (w : World) (M n : Nat) (f : Nat → Bool) : Prop := w.heap[M]? = some (.cells (brow n f) 4 (0, 0))
theorem BR.cell {w : World} {M n : Nat} {f : Nat → Bool} (h : BR w M n f) {j : Nat} (hj : j < n) : w.cell? ⟨M, j, none⟩ = some (.bool (f j)) := (blk_cell h j).trans (brow_get hj)
theorem BR.keep {w w' : World} {M n : Nat} {f : Nat → Bool} (h : BR w M n f) {B : Nat} (hb : Below B w w') (hB : w.heap.size ≤ B) : BR w' M n f := blk_later h hb (Nat.lt_of_lt_of_le (blk_lt h) hB)
theorem BR.set {w : World} {M n : Nat} {f : Nat → Bool} (h : BR w M n f) (i : Nat) (x : Bool) : BR (w.setCell ⟨M, i, none⟩ (.bool x)) M n fun j => if j = i then x else f j := by
  unfold BR at *
  rw [← brow_set]
  simp [World.setCell, Array.getElem?_modify, h]
theorem BR.other {w : World} {M N n i : Nat} {f : Nat → Bool} (h : BR w M n f) (hn : N ≠ M) (v : Value) : BR (w.setCell ⟨N, i, none⟩ v) M n f := (Below.heap_setCell w ⟨N, i, none⟩ v M (fun e => hn e.symm)).trans h

end Go.Proofs.YtjnedbkbhoiopaaDoor
