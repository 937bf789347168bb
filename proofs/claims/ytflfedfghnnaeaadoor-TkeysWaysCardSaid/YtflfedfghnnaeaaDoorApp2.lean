/- append of bytes onto a slice of the call's own, with the word on where the new slice lies; over any program; no statement of the seat is proved here. -/
import Derived.Test.YtflfedfghnnaeaaDoorApp
import Derived.Test.YtflfedfghnnaeaaDoorAp1
namespace Go.Proofs.YtflfedfghnnaeaaDoor
open Go.RowKit

section
variable {P : Program} (w : World)

theorem append_bs_run_at (base : Nat) (t ty e : TypeId) (i : TypeInfo) (z : Value) (ht : P.underlying t = some (.slice e)) (hi : P.info? e = some i) (hz : i.zero = some z)
    (hsize : i.size = 1) (hby : i.bytes = 1) (hzs : z.cells.size = 1)
    (v : Value) (n : Nat) (xs : List Value) (hown : w.ownsRow base e 1 v n xs) (B : Nat) (A : Option Addr) (l : List UInt8) (c : Nat) (hB : BS w B A l)
    (hbytes : n + l.length ≤ 140737488355328) (hbase : base ≤ w.heap.size) :
    ∃ v' w', (Builtin.append_ #[t, t] ty #[v, .slice A l.length c]).run P w = .ok v' w' ∧ w'.ownsRow base e 1 v' (n + l.length) (xs ++ byteVals l) ∧ w.grownBy w' v.ownBlock ∧ (v'.ownBlock = v.ownBlock ∨ v'.ownBlock = some w.heap.size) := by
  have step : ∀ ad : Addr, (∀ j u, (byteVals l)[j]? = some u → w.cell? (ad.add j) = some u) → ∃ v' w', (Builtin.append_ #[t, t] ty #[v, .slice (some ad) l.length c]).run P w = .ok v' w' ∧ w'.ownsRow base e 1 v' (n + l.length) (xs ++ byteVals l) ∧ w.grownBy w' v.ownBlock ∧ (v'.ownBlock = v.ownBlock ∨ v'.ownBlock = some w.heap.size) := fun ad hc => by
    obtain ⟨v', w', h1, h2, h3, _, h4⟩ := run_append_own_at (P := P) w base t ty e i z 1 1 ht hi hz hsize hby hzs (by omega) v n xs hown ad l.length c (byteVals l) (by rw [byteVals_len]; omega) hc
      (fun u hu => by simp [byteVals] at hu; obtain ⟨b, _, rfl⟩ := hu; rfl) (by simp only [maxLen]; omega) (by omega) hbase
    exact ⟨v', w', h1, h2, h3, h4⟩
  rcases A with _ | ad
  · have : l = [] := by
      cases l with
      | nil => rfl
      | cons x r => obtain ⟨a, e, _⟩ := hB 0 (by simp); cases e
    subst this
    exact ⟨v, w, append_none_run w base t ty e i 1 ht hi v n xs hown c, by simpa [byteVals] using hown, World.grownBy.refl w _, .inl rfl⟩
  · refine step ad fun j u hj => ?_
    have hlt : j < l.length := by have := (List.getElem?_eq_some_iff.1 hj).1; rwa [byteVals_len] at this
    obtain ⟨a', e', _, hc⟩ := hB j hlt
    cases e'
    rw [hc]
    simp [byteVals, hlt] at hj
    rw [← hj]

theorem wpList_append_bs_at {ops : Array Oper} {rest : List Oper} {o : Oper} {a : Act} {Q : Exit → Act → World → Prop} (hgd : o.guard = none) (s x : Operand) (t : TypeId)
    (ho : o.op = .call { callee := .builtin .append, args := #[s, x], argTypes := #[t, t] })
    (base : Nat) (e : TypeId) (i : TypeInfo) (z : Value) (ht : P.underlying t = some (.slice e)) (hi : P.info? e = some i) (hz : i.zero = some z)
    (hsize : i.size = 1) (hby : i.bytes = 1) (hzs : z.cells.size = 1)
    (v : Value) (n : Nat) (xs : List Value) (hs : a.eval s = v) (hown : w.ownsRow base e 1 v n xs)
    (B : Nat) (A : Option Addr) (m : Nat) (l : List UInt8) (hm : m = l.length) (c : Nat) (hx : a.eval x = .slice A m c) (hB : BS w B A l)
    (hbytes : n + l.length ≤ 140737488355328) (hbase : base ≤ w.heap.size)
    (h : ∀ A' c' w', w'.ownsRow base e 1 (.slice A' (n + m) c') (n + m) (xs ++ byteVals l) → n + m ≤ c' → w.grownBy w' v.ownBlock → ((Value.slice A' (n + m) c').ownBlock = v.ownBlock ∨ (Value.slice A' (n + m) c').ownBlock = some w.heap.size) → wpList P ops Q rest (a.put o.dst (.slice A' (n + m) c')) w') : wpList P ops Q (o :: rest) a w := by
  subst hm
  refine wpList_plain hgd fun K hK => ?_
  obtain ⟨v', w', hrun, h2, h3, h4⟩ := append_bs_run_at (P := P) w base t o.type e i z ht hi hz hsize hby hzs v n xs hown B A l c hB hbytes hbase
  unfold Oper.wp execOp
  simp only [ho, resolve, invoke, builtin, Sem.run_bind, Sem.run_pure, Result.andThen_ok, List.map_toArray, List.map_cons, List.map_nil, hs, hx, hrun]
  obtain ⟨A', c', rfl, hle⟩ := own_slice h2
  exact hK _ _ (h A' c' w' h2 hle h3 h4)
end


theorem own_set {w : World} {base : Nat} {e : TypeId} {size : Nat} {v : Value} {n : Nat} {xs : List Value} (h : w.ownsRow base e size v n xs) {p : Addr} (hp : p.block < base) (u : Value) : (w.setCell p u).ownsRow base e size v n xs := by
  refine ⟨h.1, ?_⟩
  rcases h.2 with h2 | ⟨g, cap, cur, hv, hg, hh, r⟩
  · exact .inl h2
  · exact .inr ⟨g, cap, cur, hv, hg, (Below.heap_setCell w p u g (by omega)).trans hh, r⟩
theorem own_lt {w : World} {base : Nat} {e : TypeId} {size : Nat} {v : Value} {n : Nat} {xs : List Value} (h : w.ownsRow base e size v n xs) : ∀ q, v.ownBlock = some q → q < w.heap.size := by
  intro q hq
  rcases h.2 with ⟨rfl, _⟩ | ⟨g, cap, cur, rfl, hg, hh, _⟩
  · cases hq
  · simp [Value.ownBlock] at hq
    have := blk_lt hh
    omega
theorem BS.set_ {w : World} {B : Nat} {A : Option Addr} {l : List UInt8} (h : BS w B A l) {p : Addr} (hp : ∀ a, A = some a → 0 < l.length → a.block ≠ p.block) (u : Value) : BS (w.setCell p u) B A l := by
  intro k hk
  obtain ⟨a, e, hab, hc⟩ := h k hk
  refine ⟨a, e, hab, ?_⟩
  rw [World.cell?_setCell_other w p (a.add k) _ (fun q => hp a e (by omega) (by have := congrArg Addr.block q; rw [add_block] at this; exact this.symm))]
  exact hc
theorem below_set (w : World) {B : Nat} {p : Addr} (hp : B ≤ p.block) (u : Value) : Below B w (w.setCell p u) := (Below.refl B w).setCell hp u
/-- What lies in these blocks lies there as before. -/
def Prot (Pr : Nat → Prop) (w w' : World) : Prop := ∀ k, Pr k → w'.heap[k]? = w.heap[k]?
theorem Prot.refl (Pr : Nat → Prop) (w : World) : Prot Pr w w := fun _ _ => rfl
theorem Prot.trans {Pr : Nat → Prop} {a b c : World} (h : Prot Pr a b) (h' : Prot Pr b c) : Prot Pr a c := fun k hk => (h' k hk).trans (h k hk)
theorem Prot.below {Pr : Nat → Prop} {w w' : World} {B : Nat} (hb : Below B w w') (h : ∀ k, Pr k → k < B) : Prot Pr w w' := fun k hk => hb.block k (h k hk)
theorem Prot.set_ {Pr : Nat → Prop} (w : World) {p : Addr} (h : ∀ k, Pr k → k ≠ p.block) (u : Value) : Prot Pr w (w.setCell p u) := fun k hk => Below.heap_setCell w p u k (h k hk)
theorem Prot.grown {Pr : Nat → Prop} {w w' : World} {row : Option Nat} (hg : w.grownBy w' row) (h : ∀ k, Pr k → k < w.heap.size ∧ row ≠ some k) : Prot Pr w w' := fun k hk => hg.block k (h k hk).1 (fun e => (h k hk).2 e.symm)

end Go.Proofs.YtflfedfghnnaeaaDoor
