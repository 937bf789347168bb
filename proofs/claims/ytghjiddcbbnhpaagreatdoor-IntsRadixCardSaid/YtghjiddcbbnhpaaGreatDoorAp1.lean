/- append of one element onto a slice of the call's own, over any program; no statement of the seat is proved here. -/
import Derived.Test.YtghjiddcbbnhpaaGreatDoorBase
import Derived.BigFrame
namespace Go.Proofs.YtghjiddcbbnhpaaGreatDoor
open Go.RowKit

theorem below_grown {w w0 w' : World} {base : Nat} {row : Option Nat} (hg : w0.grownBy w' row) (hrow : ∀ q, row = some q → base ≤ q) (hb : Below base w w0) (hbase : base ≤ w0.heap.size) : Below base w w' := by
  refine hb.trans ⟨hg.os, hg.tape, hg.output, hg.size, fun k hk => hg.block k (by omega) (fun e => ?_)⟩
  have := hrow k e.symm
  omega
theorem own_ge {w : World} {base : Nat} {e : TypeId} {size : Nat} {v : Value} {n : Nat} {xs : List Value} (h : w.ownsRow base e size v n xs) : ∀ q, v.ownBlock = some q → base ≤ q := by
  intro q hq
  rcases h.2 with ⟨rfl, _⟩ | ⟨g, cap, cur, rfl, hg, _⟩
  · cases hq
  · simp [Value.ownBlock] at hq; omega

section
variable {P : Program} (w : World)
theorem wp_app1 {o : Oper} {a : Act} {K : Act → World → Prop} {Q : Exit → Act → World → Prop} (s x : Operand) (t : TypeId)
    (ho : o.op = .call { callee := .builtin .append, args := #[s, x], argTypes := #[t, t] })
    (base : Nat) (e : TypeId) (i : TypeInfo) (z : Value) (size bytes : Nat) (ht : P.underlying t = some (.slice e)) (hi : P.info? e = some i) (hz : i.zero = some z)
    (hsize : i.size = size) (hby : i.bytes = bytes) (hzs : z.cells.size = size) (hsz : 0 < size)
    (A : Option Addr) (n c : Nat) (xs : List Value) (hs : a.eval s = .slice A n c) (hown : w.ownsRow base e size (.slice A n c) n xs)
    (news : List Value) (fz : Nat × Nat) (hx : a.eval x = .slice (some ⟨w.heap.size, 0, none⟩) 1 1) (hl : news.length = size) (h1 : ∀ u ∈ news, u.oneCell' = true)
    (hn : n ≤ 16777216) (hb8 : bytes ≤ 4096) (hbase : base ≤ w.heap.size)
    (h : ∀ A' c' w', w'.ownsRow base e size (.slice A' (n + 1) c') (n + 1) (xs ++ news) → n + 1 ≤ c' → Below base w w' → K (a.put o.dst (.slice A' (n + 1) c')) w') : o.wp P a (w.alloc (.cells news.toArray e fz)) K Q := by
  have h63 : n + 1 ≤ maxLen := by simp only [maxLen]; omega
  have hbytes : (n + 1) * bytes ≤ 140737488355328 := Nat.le_trans (Nat.mul_le_mul (by omega : n + 1 ≤ 16777217) hb8) (by decide)
  refine wp_append_own _ s x t ho base e i z size bytes ht hi hz hsize hby hzs hsz (.slice A n c) n xs hs (own_keep hown (below_new1 w _) (Nat.le_refl _)) ⟨w.heap.size, 0, none⟩ 1 1 news hx (by omega) (news_at (heap_new1 w _)) h1 h63 hbytes (by simp; omega) ?_
  intro v' w' h2 h3 _
  obtain ⟨A', c', rfl, hc⟩ := own_slice h2
  exact h A' c' w' h2 hc (below_grown h3 (own_ge hown) ((Below.refl _ _).alloc hbase _) (by simp; omega))
theorem wpList_app1 {ops : Array Oper} {rest : List Oper} {o : Oper} {a : Act} {Q : Exit → Act → World → Prop} (hw : Region.wanted o (yielded ops a.tmps) = true) (s x : Operand) (t : TypeId)
    (ho : o.op = .call { callee := .builtin .append, args := #[s, x], argTypes := #[t, t] })
    (base : Nat) (e : TypeId) (i : TypeInfo) (z : Value) (size bytes : Nat) (ht : P.underlying t = some (.slice e)) (hi : P.info? e = some i) (hz : i.zero = some z)
    (hsize : i.size = size) (hby : i.bytes = bytes) (hzs : z.cells.size = size) (hsz : 0 < size)
    (A : Option Addr) (n c : Nat) (xs : List Value) (hs : a.eval s = .slice A n c) (hown : w.ownsRow base e size (.slice A n c) n xs)
    (news : List Value) (fz : Nat × Nat) (hx : a.eval x = .slice (some ⟨w.heap.size, 0, none⟩) 1 1) (hl : news.length = size) (h1 : ∀ u ∈ news, u.oneCell' = true)
    (hn : n ≤ 16777216) (hb8 : bytes ≤ 4096) (hbase : base ≤ w.heap.size)
    (h : ∀ A' c' w', w'.ownsRow base e size (.slice A' (n + 1) c') (n + 1) (xs ++ news) → n + 1 ≤ c' → Below base w w' → wpList P ops Q rest (a.put o.dst (.slice A' (n + 1) c')) w') : wpList P ops Q (o :: rest) a (w.alloc (.cells news.toArray e fz)) :=
  BigFrame.wpList_want hw fun _ hK => wp_app1 w s x t ho base e i z size bytes ht hi hz hsize hby hzs hsz A n c xs hs hown news fz hx hl h1 hn hb8 hbase fun A' c' w' h2 h3 h4 => hK _ _ (h A' c' w' h2 h3 h4)
end

end Go.Proofs.YtghjiddcbbnhpaaGreatDoor
