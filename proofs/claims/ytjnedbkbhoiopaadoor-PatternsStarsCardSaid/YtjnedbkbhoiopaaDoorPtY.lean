/- Rows of texts in memory, strings.Join at them, and what the loop of PatternsStars has put together; no statement of the seat is proved here. -/
import Derived.Test.YtjnedbkbhoiopaaDoorPtV
import Derived.Test.YtjnedbkbhoiopaaDoorTail2
import Derived.Test.YtjnedbkbhoiopaaDoorShelf
namespace Go.Proofs.YtjnedbkbhoiopaaDoor
open Go.RowKit

abbrev boxP (o : PS4) : Array Value := #[.int .u8 (o.k.toNat : Int), .string o.t, .string o.d, .int .i64 o.a]
theorem string_info : (Tryd.prog.info? 9).map (fun i => (i.zero, i.size, i.bytes)) = some (some (.string ⟨#[]⟩), 1, 16) := by kernel_rfl
/-- Texts in memory. -/
def TM (w : World) (X : Option Addr) (xs : List ByteArray) : Prop := ∀ j x, xs[j]? = some x → ∃ g off, X = some ⟨g, off, none⟩ ∧ g < w.heap.size ∧ w.cell? ⟨g, off + j, none⟩ = some (.string x)
theorem TM.keep {w w' : World} {X : Option Addr} {xs : List ByteArray} (h : TM w X xs) (hb : Below w.heap.size w w') : TM w' X xs := fun j x hx => by
  obtain ⟨g, off, e, hg, hc⟩ := h j x hx
  exact ⟨g, off, e, Nat.lt_of_lt_of_le hg hb.size, cell_later hb hc⟩
theorem TM.of_own {w : World} {base n c : Nat} {X : Option Addr} {xs : List ByteArray} (h : w.ownsRow base 9 1 (.slice X n c) n (xs.map Value.string)) : TM w X xs := by
  intro j x hx
  have hl := h.1
  simp at hl
  have hj := (List.getElem?_eq_some_iff.1 hx).1
  obtain ⟨g, cur, hA, _, hh, h4⟩ := (OwnS.of_own h).at_ (by omega)
  refine ⟨g, 0, hA, blk_lt hh, ?_⟩
  have e : cur[j]? = some (.string x) := by
    have := congrArg (fun l => l[j]?) h4
    simp only [List.getElem?_take, List.getElem?_map, hx, Option.map_some] at this
    rw [if_pos (by omega)] at this
    simpa using this
  rw [blk_cell hh, Nat.zero_add]
  exact e
theorem TM.head {w : World} {X : Option Addr} {xs : List ByteArray} (h : TM w X xs) (k : Nat) : TM w X (xs.take k) := fun j x hx => by
  rw [List.getElem?_take] at hx
  split at hx
  · exact h j x hx
  · cases hx
/-- Where xs[k:] begins. -/
theorem TM.tail {w : World} {X : Option Addr} {xs : List ByteArray} (h : TM w X xs) {k c : Nat} (hc : xs.length ≤ c) : TM w (cutA X c k) (xs.drop k) := fun j x hx => by
  rw [List.getElem?_drop] at hx
  have hj := (List.getElem?_eq_some_iff.1 hx).1
  obtain ⟨g, off, e, hg, h1⟩ := h _ x hx
  subst e
  refine ⟨g, off + k, ?_, hg, by rw [Nat.add_assoc]; exact h1⟩
  unfold cutA
  rw [if_neg (by omega), Option.map_some, add_plain]
theorem join_is {W : World} {X : Option Addr} {m c : Nat} {xs : List ByteArray} (hm : m = xs.length) (hX : TM W X xs) (hc : m ≤ c) (hl : (catB xs).length ≤ 100000) (h1 : m ≤ 1000) :
    Calls Tryd.prog 23 #[.slice X m c, .string ⟨#[]⟩] W fun e w' => e = .returned (.string ⟨(catB xs).toArray⟩) ∧ Below W.heap.size W w' := by
  cases xs with
  | nil =>
    subst hm
    exact (Tryd.strings_Join_none X c ⟨#[]⟩ W).mono fun e w' ⟨he, hw⟩ => ⟨he, by rw [hw]; exact Below.refl _ _⟩
  | cons x r =>
    obtain ⟨g, off, e, hg, _⟩ := hX 0 x rfl
    subst e; subst hm
    have e2 : Lib.join ((x :: r).map (·.data.toList)) [] = catB (x :: r) := joinE _
    have := Tryd.strings_Join g off c (x :: r) ⟨#[]⟩ W (fun j y hy => by
      obtain ⟨g', off', e', _, h2⟩ := hX j y hy
      cases e'
      exact h2) hg (by omega) hc (by show (Lib.join _ []).length ≤ _; rw [e2]; omega)
    rw [show (⟨#[]⟩ : ByteArray).data.toList = [] from rfl, e2] at this
    exact this
theorem slice_t_pre (X : Option Addr) (len cap hi : Nat) (h2 : hi ≤ cap) (w : World) : (Instr.slice 57 (.slice X len cap) none (some (.int .i64 (hi : Int))) none).run Tryd.prog w = .ok (.slice X hi cap) w :=
  run_slice_pre 57 9 Tryd.underlying57 (fun w => Tryd.sizeOf9 w) X len cap hi h2 w
theorem slice_t_suf (X : Option Addr) (len cap lo : Nat) (h2 : lo ≤ len) (w : World) : (Instr.slice 57 (.slice X len cap) (some (.int .i64 (lo : Int))) none none).run Tryd.prog w = .ok (.slice (cutA X cap lo) (len - lo) (cap - lo)) w := by
  have ht := Tryd.underlying57
  have ht' : Tryd.prog.underlying 57 = some (.slice (Tryd.prog.elem 57)) := by simp [Program.elem, ht]
  have he : Tryd.prog.elem 57 = 9 := by simp [Program.elem, ht]
  rw [run_slice_l w 57 _ _ _ ht' .i64 _ (by omega) (by omega), he, Tryd.sizeOf9]
  simp [Result.andThen, sliced, cutA]
/-- A row of another type stays. -/
theorem own_other {w w' : World} {base base2 : Nat} {e e2 : TypeId} {size size2 n n2 : Nat} {v v2 : Value} {xs xs2 : List Value} (h : w.ownsRow base e size v n xs) (h2 : w.ownsRow base2 e2 size2 v2 n2 xs2) (hne : e2 ≠ e) (hg : w.grownBy w' v.ownBlock) : w'.ownsRow base2 e2 size2 v2 n2 xs2 := by
  refine ⟨h2.1, ?_⟩
  rcases h2.2 with h3 | ⟨g, cap, cur, hv, hb, hh, h4⟩
  · exact .inl h3
  · refine .inr ⟨g, cap, cur, hv, hb, ?_, h4⟩
    have n2 := own_ne h hh hne
    exact (hg.block _ (blk_lt hh) (fun e => n2 e.symm)).trans hh
/-- What the loop has put together. -/
structure LS (w W : World) (z : Array Value) (B : Option Addr) (kb cb : Nat) (ts : List ByteArray) (A : Option Addr) (ka c : Nat) (q : List PS4) : Prop where
  box : W.heap[w.heap.size]? = some (.cells z 56 (0, 0))
  txt : W.ownsRow (w.heap.size + 1) 9 1 (.slice B kb cb) kb (ts.map Value.string)
  pth : W.ownsRow (w.heap.size + 1) 50 4 (.slice A ka c) ka (rowP q)
  bel : Below w.heap.size w W
theorem LS.later {w W W' : World} {z : Array Value} {B A : Option Addr} {kb cb ka c : Nat} {ts : List ByteArray} {q : List PS4} (h : LS w W z B kb cb ts A ka c q) (hb : Below W.heap.size W W') : LS w W' z B kb cb ts A ka c q :=
  ⟨blk_later h.box hb (blk_lt h.box), own_keep h.txt hb (Nat.le_refl _), own_keep h.pth hb (Nat.le_refl _), onB h.bel hb⟩
theorem LS.pushT {w W W' : World} {z : Array Value} {B A B' : Option Addr} {kb cb ka c cb' : Nat} {ts : List ByteArray} {q : List PS4} {t : ByteArray} {ob : Obj} (h : LS w W z B kb cb ts A ka c q)
    (hown : W'.ownsRow (w.heap.size + 1) 9 1 (.slice B' (kb + 1) cb') (kb + 1) (ts.map Value.string ++ [.string t])) (hg : (W.alloc ob).grownBy W' (Value.slice B kb cb).ownBlock) (hb : Below (w.heap.size + 1) W W') : LS w W' z B' (kb + 1) cb' (ts ++ [t]) A ka c q :=
  have h1 := h.later (below_new1 W ob)
  ⟨blk_later h.box hb (Nat.lt_succ_self _), by rw [List.map_append]; exact hown, own_other h1.txt h1.pth (by decide) hg, h.bel.trans (hb.mono (Nat.le_succ _))⟩
theorem LS.pushP {w W W' : World} {z : Array Value} {B A A' : Option Addr} {kb cb ka c c' : Nat} {ts : List ByteArray} {q : List PS4} {x : PS4} {ob : Obj} (h : LS w W z B kb cb ts A ka c q)
    (hown : W'.ownsRow (w.heap.size + 1) 50 4 (.slice A' (ka + 1) c') (ka + 1) (rowP q ++ cellsP x)) (hg : (W.alloc ob).grownBy W' (Value.slice A ka c).ownBlock) (hb : Below (w.heap.size + 1) W W') : LS w W' z B kb cb ts A' (ka + 1) c' (q ++ [x]) :=
  have h1 := h.later (below_new1 W ob)
  ⟨blk_later h.box hb (Nat.lt_succ_self _), own_other h1.pth h1.txt (by decide) hg, by rw [rowP_snoc]; exact hown, h.bel.trans (hb.mono (Nat.le_succ _))⟩

end Go.Proofs.YtjnedbkbhoiopaaDoor
