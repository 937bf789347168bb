/- From a row of numbers, as the frame of a statement's proof has it, to a list of bytes; no statement of the seat is proved here. -/
import Derived.Test.YtjiejpjdbimjkaaBase
namespace Go.Proofs.Ytjiejpjdbimjkaa
open Go.RowKit

theorem row_bs {w : World} {a : Option Addr} {len cap : Nat} {zs : List Int} (h : (a = none ∧ len = 0 ∧ cap = 0 ∧ zs = []) ∨
    ∃ x, a = some x ∧ len ≤ cap ∧ cap ≤ maxLen ∧ zs.length = cap ∧ (∀ i, i < zs.length → w.cell? (x.add i) = some (.int .u8 (zs.getD i 0))) ∧ ∀ n ∈ zs, (Lit.int .u8 n).wf = true) :
    ∃ l : List UInt8, l.length = len ∧ len ≤ cap ∧ cap ≤ maxLen ∧ BS w w.heap.size a l := by
  rcases h with ⟨rfl, rfl, rfl, rfl⟩ | ⟨x, rfl, hl, hm, hz, hc, hw⟩
  · exact ⟨[], rfl, Nat.le_refl _, by omega, BS.nil _ _ _⟩
  · refine ⟨(zs.take len).map fun z => UInt8.ofNat z.toNat, by simp; omega, hl, hm, ?_⟩
    intro k hk
    have hk' : k < len ∧ k < zs.length := by simp at hk; omega
    have hcell := hc k hk'.2
    refine ⟨x, rfl, ?_, ?_⟩
    · have hb : (x.add k).block < w.heap.size := by
        rcases Nat.lt_or_ge (x.add k).block w.heap.size with h | h
        · exact h
        · simp [World.cell?, Array.getElem?_eq_none h] at hcell
      rwa [add_block] at hb
    · rw [hcell]
      have hz := hw zs[k] (List.getElem_mem _)
      have hd : zs.getD k 0 = zs[k] := by simp [List.getD, hk'.2]
      rw [hd]
      have hr : 0 ≤ zs[k] ∧ zs[k] < 256 := by
        simp [Lit.wf, IntKind.min, IntKind.max, IntKind.bits, IntKind.signed] at hz
        omega
      congr 2
      simp
      omega

end Go.Proofs.Ytjiejpjdbimjkaa
