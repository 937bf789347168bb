/- append of bytes that came in onto a slice of the call's own, over any program; no statement of the seat is proved here. -/
import Derived.Test.YtflfedfghnnaeaaDoorBase
import Derived.Maps.AppendAt
namespace Go.Proofs.YtflfedfghnnaeaaDoor
open Go.RowKit

def byteVals (l : List UInt8) : List Value := l.map fun b => Value.int .u8 ((b.toNat : Nat) : Int)
theorem byteVals_len (l : List UInt8) : (byteVals l).length = l.length := by simp [byteVals]
theorem byteVals_app (a b : List UInt8) : byteVals (a ++ b) = byteVals a ++ byteVals b := by simp [byteVals]

section
variable {P : Program} (w : World)

theorem append_none_run (base : Nat) (t ty e : TypeId) (i : TypeInfo) (size : Nat) (ht : P.underlying t = some (.slice e)) (hi : P.info? e = some i)
    (v : Value) (n : Nat) (xs : List Value) (hown : w.ownsRow base e size v n xs) (c : Nat) : (Builtin.append_ #[t, t] ty #[v, .slice none 0 c]).run P w = .ok v w := by
  obtain ⟨A, c', rfl, hc⟩ := own_slice hown
  rcases hown.2 with ⟨hv, rfl⟩ | ⟨g, cap, cur, hv, _⟩
  · injection hv with hA _ _
    subst hA
    simp [Builtin.append_, run_underlying ht, sizeOf, typeInfo, hi, Builtin.lenOf, Builtin.firstCells]
  · injection hv with hA _ _
    subst hA
    simp [Builtin.append_, run_underlying ht, sizeOf, typeInfo, hi, Builtin.lenOf, Builtin.firstCells, hc, storeCells]

theorem append_bs_run (base : Nat) (t ty e : TypeId) (i : TypeInfo) (z : Value) (ht : P.underlying t = some (.slice e)) (hi : P.info? e = some i) (hz : i.zero = some z)
    (hsize : i.size = 1) (hby : i.bytes = 1) (hzs : z.cells.size = 1)
    (v : Value) (n : Nat) (xs : List Value) (hown : w.ownsRow base e 1 v n xs) (B : Nat) (A : Option Addr) (l : List UInt8) (c : Nat) (hB : BS w B A l)
    (hbytes : n + l.length ≤ 140737488355328) (hbase : base ≤ w.heap.size) :
    ∃ v' w', (Builtin.append_ #[t, t] ty #[v, .slice A l.length c]).run P w = .ok v' w' ∧ w'.ownsRow base e 1 v' (n + l.length) (xs ++ byteVals l) ∧ w.grownBy w' v.ownBlock := by
  have step : ∀ ad : Addr, (∀ j u, (byteVals l)[j]? = some u → w.cell? (ad.add j) = some u) → ∃ v' w', (Builtin.append_ #[t, t] ty #[v, .slice (some ad) l.length c]).run P w = .ok v' w' ∧ w'.ownsRow base e 1 v' (n + l.length) (xs ++ byteVals l) ∧ w.grownBy w' v.ownBlock := fun ad hc => by
    obtain ⟨v', w', h1, h2, h3, _⟩ := run_append_own_at (P := P) w base t ty e i z 1 1 ht hi hz hsize hby hzs (by omega) v n xs hown ad l.length c (byteVals l) (by rw [byteVals_len]; omega) hc
      (fun u hu => by simp [byteVals] at hu; obtain ⟨b, _, rfl⟩ := hu; rfl) (by simp only [maxLen]; omega) (by omega) hbase
    exact ⟨v', w', h1, h2, h3⟩
  rcases A with _ | ad
  · have : l = [] := by
      cases l with
      | nil => rfl
      | cons x r => obtain ⟨a, e, _⟩ := hB 0 (by simp); cases e
    subst this
    exact ⟨v, w, append_none_run w base t ty e i 1 ht hi v n xs hown c, by simpa [byteVals] using hown, World.grownBy.refl w _⟩
  · refine step ad fun j u hj => ?_
    have hlt : j < l.length := by have := (List.getElem?_eq_some_iff.1 hj).1; rwa [byteVals_len] at this
    obtain ⟨a', e', _, hc⟩ := hB j hlt
    cases e'
    rw [hc]
    simp [byteVals, hlt] at hj
    rw [← hj]

theorem wpList_append_bs {ops : Array Oper} {rest : List Oper} {o : Oper} {a : Act} {Q : Exit → Act → World → Prop} (hgd : o.guard = none) (s x : Operand) (t : TypeId)
    (ho : o.op = .call { callee := .builtin .append, args := #[s, x], argTypes := #[t, t] })
    (base : Nat) (e : TypeId) (i : TypeInfo) (z : Value) (ht : P.underlying t = some (.slice e)) (hi : P.info? e = some i) (hz : i.zero = some z)
    (hsize : i.size = 1) (hby : i.bytes = 1) (hzs : z.cells.size = 1)
    (v : Value) (n : Nat) (xs : List Value) (hs : a.eval s = v) (hown : w.ownsRow base e 1 v n xs)
    (B : Nat) (A : Option Addr) (m : Nat) (l : List UInt8) (hm : m = l.length) (c : Nat) (hx : a.eval x = .slice A m c) (hB : BS w B A l)
    (hbytes : n + l.length ≤ 140737488355328) (hbase : base ≤ w.heap.size)
    (h : ∀ A' c' w', w'.ownsRow base e 1 (.slice A' (n + m) c') (n + m) (xs ++ byteVals l) → n + m ≤ c' → w.grownBy w' v.ownBlock → wpList P ops Q rest (a.put o.dst (.slice A' (n + m) c')) w') : wpList P ops Q (o :: rest) a w := by
  subst hm
  refine wpList_plain hgd fun K hK => ?_
  obtain ⟨v', w', hrun, h2, h3⟩ := append_bs_run (P := P) w base t o.type e i z ht hi hz hsize hby hzs v n xs hown B A l c hB hbytes hbase
  unfold Oper.wp execOp
  simp only [ho, resolve, invoke, builtin, Sem.run_bind, Sem.run_pure, Result.andThen_ok, List.map_toArray, List.map_cons, List.map_nil, hs, hx, hrun]
  obtain ⟨A', c', rfl, hle⟩ := own_slice h2
  exact hK _ _ (h A' c' w' h2 hle h3)
end

/-- The bytes of a slice of the call's own. -/
theorem own_bs {w : World} {base : Nat} {e : TypeId} {A : Option Addr} {n c : Nat} {l : List UInt8} (h : w.ownsRow base e 1 (.slice A n c) n (byteVals l)) : n = l.length ∧ BS w w.heap.size A l := by
  have hO := OwnS.of_own h
  have hn : n = l.length := by have := hO.len; rw [byteVals_len] at this; omega
  refine ⟨hn, fun k hk => ?_⟩
  obtain ⟨g, hA, _, hg, hc⟩ := hO.cell (j := k) (by omega)
  exact ⟨_, hA, hg, by rw [add_plain, Nat.zero_add, hc]; simp [byteVals]⟩

theorem u8_of {a : Int} (h : (Lit.int .u8 a).wf = true) : ∃ m : UInt8, a = ((m.toNat : Nat) : Int) := by
  have hr : 0 ≤ a ∧ a < 256 := by
    simp [Lit.wf, IntKind.min, IntKind.max, IntKind.bits, IntKind.signed] at h
    omega
  exact ⟨UInt8.ofNat a.toNat, by simp; omega⟩

end Go.Proofs.YtflfedfghnnaeaaDoor
