/- Words for quotes.Write and tquotes.Write: rows of bytes of the call's own; no statement of the seat is proved here. -/
import Derived.Test.YtpafadfaphaoeaaDoorApp
import Derived.Test.YtpafadfaphaoeaaDoorAp1
import Derived.Deep.RegionLaw
import Derived.Laws.ShiftsVarLaws
import Derived.LoopN
import Derived.Outline
namespace Go.Proofs.YtpafadfaphaoeaaDoor
open Go.RowKit

theorem put_byte : (Tryd.prog.info? 5).map (fun i => (i.zero, i.size, i.bytes)) = some (some (.int .u8 0), 1, 1) := by kernel_rfl

/-- A row of bytes of the call's own (or nil). -/
def OwnB (w : World) (base : Nat) (A : Option Addr) (n c : Nat) (l : List UInt8) : Prop := w.ownsRow base 5 1 (.slice A n c) n (byteVals l)
theorem OwnB.len {w : World} {base : Nat} {A : Option Addr} {n c : Nat} {l : List UInt8} (h : OwnB w base A n c l) : n = l.length := (own_bs h).1
theorem OwnB.bs {w : World} {base : Nat} {A : Option Addr} {n c : Nat} {l : List UInt8} (h : OwnB w base A n c l) : BS w w.heap.size A l := (own_bs h).2
theorem OwnB.cap {w : World} {base : Nat} {A : Option Addr} {n c : Nat} {l : List UInt8} (h : OwnB w base A n c l) : n ≤ c := by
  obtain ⟨A', c', e, hc⟩ := own_slice h
  injection e with _ _ e3
  omega
theorem OwnB.keep {w w' : World} {base : Nat} {A : Option Addr} {n c : Nat} {l : List UInt8} (h : OwnB w base A n c l) {B : Nat} (hb : Below B w w') (hB : w.heap.size ≤ B) : OwnB w' base A n c l := own_keep h hb hB
theorem OwnB.nil (w : World) (base : Nat) : OwnB w base none 0 0 [] := World.ownsRow_nil _ _ _ _
theorem OwnB.ge {w : World} {base : Nat} {A : Option Addr} {n c : Nat} {l : List UInt8} (h : OwnB w base A n c l) : ∀ q, (Value.slice A n c).ownBlock = some q → base ≤ q := fun q hq => (World.ownsRow.lt h q hq).1

theorem cell_lt {w : World} {p : Addr} {v : Value} (h : w.cell? p = some v) : p.block < w.heap.size := by
  rcases Nat.lt_or_ge p.block w.heap.size with h' | h'
  · exact h'
  · simp [World.cell?, Array.getElem?_eq_none h'] at h
theorem cell_keep {B : Nat} {w w' : World} {p : Addr} {v : Value} (h : w.cell? p = some v) (hb : Below B w w') (hB : w.heap.size ≤ B) : w'.cell? p = some v :=
  (hb.cell (Nat.lt_of_lt_of_le (cell_lt h) hB)).trans h
theorem u8_all {p : UInt8 → Prop} (h : ∀ n : Fin 256, p (UInt8.ofNat n.val)) (c : UInt8) : p c := by
  have := h ⟨c.toNat, c.toNat_lt⟩
  simpa using this
theorem byte_info : (Tryd.prog.info? 5).map (fun i => (i.zero, i.size, i.bytes)) = some (some (.int .u8 0), 1, 1) := by kernel_rfl
theorem ret_u8 {a b : UInt8} (h : a = b) : Ending.returned (.int .u8 (a.toNat : Int)) = .returned (.int .u8 (b.toNat : Int)) := by rw [h]
theorem and15 : ∀ x : UInt8, bits .and .u8 (x.toNat : Int) 15 = ((x.toNat % 16 : Nat) : Int) := u8_all (by decide +kernel)
/-- The row that is written, and the bytes that are read beside it. -/
def WInv (w w1 wr : World) (g n c : Nat) (l : List UInt8) : Prop :=
  OwnB wr w.heap.size (some ⟨g, 0, none⟩) n c l ∧ g ≠ w.heap.size + 1 ∧ wr.heap[w.heap.size + 1]? = w1.heap[w.heap.size + 1]? ∧ w.heap.size + 1 < wr.heap.size ∧ Below w.heap.size w wr
theorem WInv.step {w w1 wr w2 w3 : World} {g n c m : Nat} {l t : List UInt8} {v' : Value} (h : WInv w w1 wr g n c l) (hb : Below wr.heap.size wr w2) (hm : 0 < m) (hown : w3.ownsRow w.heap.size 5 1 v' (n + m) (byteVals l ++ byteVals t)) (hg : w2.grownBy w3 (some g))
    {q : Nat} (hl : v'.ownBlock = (Value.slice (some ⟨g, 0, none⟩) n c).ownBlock ∨ v'.ownBlock = some q) (hq : q = w2.heap.size) : ∃ g' c', v' = .slice (some ⟨g', 0, none⟩) (n + m) c' ∧ WInv w w1 w3 g' (n + m) c' (l ++ t) := by
  obtain ⟨h1, h2, h3, h4, h5⟩ := h
  obtain ⟨g', cap, hv, hg', hlt⟩ := hown.form (by omega)
  subst hv
  have hs2 := hb.size
  have hs3 := hg.size
  refine ⟨g', cap, rfl, by rw [← byteVals_app] at hown; exact hown, ?_, ?_, by omega, (h5.trans (hb.mono h5.size)).grown hg (by have := h5.size; omega) (fun q hq => ?_)⟩
  · rcases hl with hl | hl <;> simp [Value.ownBlock] at hl <;> omega
  · rw [hg.block _ (by omega) (fun e => h2 (by injection e with e; exact e.symm)), hb.block _ h4, h3]
  · cases hq; exact h1.ge g rfl
theorem WInv.src {w w1 wr : World} {g n c : Nat} {l : List UInt8} {s : List UInt8} (h : WInv w w1 wr g n c l) {B : Nat} (hS : BS w1 B (some ⟨w.heap.size + 1, 0, none⟩) s) (k : Nat) (hk : k < s.length) : wr.cell? ⟨w.heap.size + 1, k, none⟩ = some (.int .u8 ((s[k].toNat : Nat) : Int)) := by
  obtain ⟨a, e, _, hc⟩ := hS k hk
  cases e
  rw [add_plain, Nat.zero_add] at hc
  rw [← hc]
  exact World.cell?_of_block (a := ⟨w.heap.size + 1, k, none⟩) h.2.2.1

theorem WInv.keep {w w1 wr w2 : World} {g n c : Nat} {l : List UInt8} (h : WInv w w1 wr g n c l) (hb : Below wr.heap.size wr w2) : WInv w w1 w2 g n c l := by
  obtain ⟨h1, h2, h3, h4, h5⟩ := h
  have := hb.size
  exact ⟨h1.keep hb (Nat.le_refl _), h2, by rw [hb.block _ h4, h3], by omega, h5.trans (hb.mono h5.size)⟩


end Go.Proofs.YtpafadfaphaoeaaDoor
