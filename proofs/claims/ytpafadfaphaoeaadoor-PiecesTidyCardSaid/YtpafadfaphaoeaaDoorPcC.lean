/- What pieces say, and the walk over pieces.Join; no statement of the seat is proved here. -/
import Derived.Test.YtpafadfaphaoeaaDoorPcB
import Derived.Test.YtpafadfaphaoeaaDoorWq
import Derived.Lib.AppendStr
import Derived.Deep.AppendLies
namespace Go.Proofs.YtpafadfaphaoeaaDoor
open Go.RowKit

section
variable {P : Program} (w : World)
theorem wp_append_bs {o : Oper} {a : Act} {K : Act → World → Prop} {Q : Exit → Act → World → Prop} (s x : Operand) (t : TypeId)
    (ho : o.op = .call { callee := .builtin .append, args := #[s, x], argTypes := #[t, t] })
    (base : Nat) (e : TypeId) (i : TypeInfo) (z : Value) (ht : P.underlying t = some (.slice e)) (hi : P.info? e = some i) (hz : i.zero = some z)
    (hsize : i.size = 1) (hby : i.bytes = 1) (hzs : z.cells.size = 1)
    (v : Value) (n : Nat) (xs : List Value) (hs : a.eval s = v) (hown : w.ownsRow base e 1 v n xs)
    (B : Nat) (A : Option Addr) (m : Nat) (l : List UInt8) (hm : m = l.length) (c : Nat) (hx : a.eval x = .slice A m c) (hB : BS w B A l)
    (hbytes : n + l.length ≤ 140737488355328) (hbase : base ≤ w.heap.size)
    (h : ∀ A' c' w', w'.ownsRow base e 1 (.slice A' (n + m) c') (n + m) (xs ++ byteVals l) → n + m ≤ c' → w.grownBy w' v.ownBlock → K (a.put o.dst (.slice A' (n + m) c')) w') : o.wp P a w K Q := by
  subst hm
  obtain ⟨v', w', hrun, h2, h3⟩ := append_bs_run (P := P) w base t o.type e i z ht hi hz hsize hby hzs v n xs hown B A l c hB hbytes hbase
  unfold Oper.wp execOp
  simp only [ho, resolve, invoke, builtin, Sem.run_bind, Sem.run_pure, Result.andThen_ok, List.map_toArray, List.map_cons, List.map_nil, hs, hx, hrun]
  obtain ⟨A', c', rfl, hle⟩ := own_slice h2
  exact h A' c' w' h2 hle h3
theorem step_append_bs {ops : Array Oper} {o : Oper} {a : Act} {K : Act → World → Prop} {Q : Exit → Act → World → Prop} {E : Prop} (hgd : o.guard = none) (s x : Operand) (t : TypeId)
    (ho : o.op = .call { callee := .builtin .append, args := #[s, x], argTypes := #[t, t] })
    (base : Nat) (e : TypeId) (i : TypeInfo) (z : Value) (ht : P.underlying t = some (.slice e)) (hi : P.info? e = some i) (hz : i.zero = some z)
    (hsize : i.size = 1) (hby : i.bytes = 1) (hzs : z.cells.size = 1)
    (v : Value) (n : Nat) (xs : List Value) (hs : a.eval s = v) (hown : w.ownsRow base e 1 v n xs)
    (B : Nat) (A : Option Addr) (m : Nat) (l : List UInt8) (hm : m = l.length) (c : Nat) (hx : a.eval x = .slice A m c) (hB : BS w B A l)
    (hbytes : n + l.length ≤ 140737488355328) (hbase : base ≤ w.heap.size)
    (h : ∀ A' c' w', w'.ownsRow base e 1 (.slice A' (n + m) c') (n + m) (xs ++ byteVals l) → n + m ≤ c' → w.grownBy w' v.ownBlock → K (a.put o.dst (.slice A' (n + m) c')) w') :
    if Region.wanted o (yielded ops a.tmps) = true then Oper.wp P o a w K Q else E := by
  have hw : Region.wanted o (yielded ops a.tmps) = true := by simp [Region.wanted, hgd]
  rw [if_pos hw]
  exact wp_append_bs w s x t ho base e i z ht hi hz hsize hby hzs v n xs hs hown B A m l hm c hx hB hbytes hbase h
end

/-- The documents in memory. -/
structure DocsIs (w : World) (d : Docs) (b : UInt8 → List UInt8) : Prop where
  at_ : ∀ s : UInt8, s.toNat < 3 → ∃ A n c, d.cells[s.toNat]? = some (.slice A n c) ∧ n = d.len s ∧ n = (b s).length ∧ n ≤ c ∧ BS w w.heap.size A (b s)
theorem DocsIs.later {w w' : World} {d : Docs} {b : UInt8 → List UInt8} (h : DocsIs w d b) (hb : Below w.heap.size w w') : DocsIs w' d b :=
  ⟨fun s hs => by obtain ⟨A, n, c, h1, h2, h3, h4, h5⟩ := h.at_ s hs; exact ⟨A, n, c, h1, h2, h3, h4, h5.later hb⟩⟩
/-- Pieces in memory. -/
def PcM (w : World) (A : Option Addr) (l : List Pc) : Prop := ∀ j (h : j < l.length), ∃ g off, A = some ⟨g, off, none⟩ ∧ g < w.heap.size ∧ ∀ r, r < 5 → w.cell? ⟨g, off + j * 5 + r, none⟩ = l[j].cells[r]?
theorem PcM.keep {w w' : World} {A : Option Addr} {l : List Pc} (h : PcM w A l) {B : Nat} (hb : Below B w w') (hB : w.heap.size ≤ B) : PcM w' A l := by
  intro j hj
  obtain ⟨g, off, e, hg, hc⟩ := h j hj
  exact ⟨g, off, e, by have := hb.size; omega, fun r hr => (hb.cell (by show g < B; omega)).trans (hc r hr)⟩
theorem PcM.take {w : World} {A : Option Addr} {l : List Pc} (h : PcM w A l) (n : Nat) : PcM w A (l.take n) := by
  intro j hj
  have hj' : j < l.length := by simp at hj; omega
  obtain ⟨g, off, e, hg, hc⟩ := h j hj'
  exact ⟨g, off, e, hg, fun r hr => by rw [hc r hr]; simp⟩
theorem PcM.drop {w : World} {g off : Nat} {l : List Pc} (h : PcM w (some ⟨g, off, none⟩) l) (n : Nat) : PcM w (some ⟨g, off + n * 5, none⟩) (l.drop n) := by
  intro j hj
  have hj' : n + j < l.length := by simp at hj; omega
  obtain ⟨g', off', e, hg, hc⟩ := h (n + j) hj'
  cases e
  exact ⟨g, off + n * 5, rfl, hg, fun r hr => by rw [show off + n * 5 + j * 5 + r = off + (n + j) * 5 + r by omega, hc r hr]; simp⟩

/-- What a piece says. -/
def sayP (f : Int) (b : UInt8 → List UInt8) (p : Pc) : List UInt8 :=
  if p.kind = 0 then ((b p.side).drop p.lo.toNat).take (p.hi.toNat - p.lo.toNat)
  else if p.kind ≠ 2 then p.txt.data.toList
  else if f = 1 then keyL [p.txt] else Q.writeQ p.txt.data.toList
def sayL (f : Int) (b : UInt8 → List UInt8) (l : List Pc) : List UInt8 := l.flatMap (sayP f b)
def mayL (l : List Pc) (d : Docs) : Bool := l.all fun p => mayP p d
theorem say_take (f : Int) (b : UInt8 → List UInt8) (l : List Pc) (k : Nat) (h : k < l.length) : sayL f b (l.take (k + 1)) = sayL f b (l.take k) ++ sayP f b l[k] := by
  unfold sayL; rw [List.take_succ_eq_append_getElem h, List.flatMap_append]; simp
theorem all_take (l : List Pc) (d : Docs) (k : Nat) (h : k < l.length) : mayL (l.take (k + 1)) d = (mayL (l.take k) d && mayP l[k] d) := by
  unfold mayL; rw [List.take_succ_eq_append_getElem h, List.all_append]; simp
/-- Bounds of the laws' own. -/
structure PcOk (l : List Pc) (d : Docs) : Prop where
  most : l.length ≤ 3000
  txt : ∀ p ∈ l, p.txt.size ≤ 3000
  docs : ∀ s, d.len s ≤ 3000
theorem keyL_one (s : ByteArray) : keyL [s] = (keyW s).data.toList := by unfold keyL; exact Lib.join_one _ _
theorem qwr_len (l : List UInt8) : (Q.writeQ l).length ≤ 6 * l.length + 2 := by
  have hl : ∀ l : List UInt8, (l.flatMap Q.wrB).length ≤ 6 * l.length := by
    intro l
    induction l with
    | nil => simp
    | cons c l ih => have := Q.wrB_len c; simp at ih ⊢; omega
  have := hl l
  simp [Q.writeQ] at this ⊢; omega
theorem twr_len (l : List UInt8) : (T.writeQ l).length ≤ 6 * l.length + 2 := by
  have hl : ∀ l : List UInt8, (l.flatMap T.wrB).length ≤ 6 * l.length := by
    intro l
    induction l with
    | nil => simp
    | cons c l ih => have := T.wrB_len c; simp at ih ⊢; omega
  have := hl l
  simp [T.writeQ] at this ⊢; omega
theorem say_len {f : Int} {b : UInt8 → List UInt8} {p : Pc} (hb : ∀ s, (b s).length ≤ 3000) (ht : p.txt.size ≤ 3000) : (sayP f b p).length ≤ 20000 := by
  have hs : p.txt.data.toList.length = p.txt.size := by simp
  unfold sayP
  split
  · have := hb p.side; simp; omega
  · split
    · omega
    · split
      · rw [keyL_one]
        unfold keyW
        split
        · omega
        · have := twr_len p.txt.data.toList
          show (T.writeQ p.txt.data.toList).toArray.toList.length ≤ _
          simp only at *; omega
      · have := qwr_len p.txt.data.toList; omega
theorem sayL_len {f : Int} {b : UInt8 → List UInt8} (hb : ∀ s, (b s).length ≤ 3000) : ∀ l : List Pc, (∀ p ∈ l, p.txt.size ≤ 3000) → (sayL f b l).length ≤ 20000 * l.length
  | [], _ => by simp [sayL]
  | p :: l, h => by
    have h1 := say_len (f := f) hb (h p (List.mem_cons_self ..))
    have h2 := sayL_len (f := f) hb l fun q hq => h q (List.mem_cons_of_mem _ hq)
    have e : sayL f b (p :: l) = sayP f b p ++ sayL f b l := rfl
    rw [e, List.length_append, List.length_cons]; omega

theorem clip_is (A : Option Addr) (n c : Nat) (hc : n ≤ c) (w : World) : Calls Tryd.prog 15 #[.slice A n c] w fun e w' => e = .returned (.slice A n n) ∧ w = w' := by
  go_enter Tryd.func15, Tryd.ntmps15
  go_wp2
  go_ret
  exact ⟨rfl, rfl⟩

end Go.Proofs.YtpafadfaphaoeaaDoor
