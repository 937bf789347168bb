/- Words for byte slices in memory, and small facts on the walk's operations, over any program: no statement of the seat is proved here. -/
import Derived.Test.YtncldnghhpdolaaGreatDoorProg
import Derived.WalkKit
import Derived.WalkSpells
import Derived.WalkLawsBesides
import Derived.Lib.Hide
import Derived.BigQuiet
import Derived.Deep.QuietTactic
import Derived.Deep.LoopGhost
import Derived.Deep.Draws
import Derived.Lib.ConvBytes
import Derived.Shelf.Bytes.SlIndexAt
import Derived.Lib.SlBytesConst
import Derived.Lib.IndexAny
import Derived.ScopeJumps
import Derived.Deep.AppendLies
import Derived.Deep.RegionWith
import Derived.Deep.RegionHeld3
import Derived.Laws.EntriesVeiled
import Derived.Deep.Cut
import Derived.Deep.DeepCutAuto
import Derived.Deep.DeepFit
import Derived.Deep.Light
import Derived.WalkMore
namespace Go.Proofs.YtncldnghhpdolaaGreatDoor
open Go.RowKit

theorem add_block (a : Addr) (n : Nat) : (a.add n).block = a.block := by unfold Addr.add; split <;> rfl
theorem add_add (a : Addr) (i j : Nat) : (a.add i).add j = a.add (i + j) := by
  unfold Addr.add
  by_cases hi : i = 0 <;> by_cases hj : j = 0 <;> simp [hi, hj, Nat.add_assoc]
theorem add_plain (b o n : Nat) : (⟨b, o, none⟩ : Addr).add n = ⟨b, o + n, none⟩ := by unfold Addr.add; split <;> simp_all

/-- The bytes at the address A, in the world w, below block B, are l. -/
def BS (w : World) (B : Nat) (A : Option Addr) (l : List UInt8) : Prop :=
  ∀ k (h : k < l.length), ∃ a, A = some a ∧ a.block < B ∧ w.cell? (a.add k) = some (.int .u8 ((l[k].toNat : Nat) : Int))

theorem BS.below {w w' : World} {B : Nat} {A : Option Addr} {l : List UInt8} (h : BS w B A l) (hb : Below B w w') : BS w' B A l := by
  intro k hk
  obtain ⟨a, e, ha, hc⟩ := h k hk
  exact ⟨a, e, ha, (hb.cell (by rw [add_block]; exact ha)).trans hc⟩
theorem BS.mono {w : World} {B B' : Nat} {A : Option Addr} {l : List UInt8} (h : BS w B A l) (hb : B ≤ B') : BS w B' A l := by
  intro k hk
  obtain ⟨a, e, ha, hc⟩ := h k hk
  exact ⟨a, e, Nat.lt_of_lt_of_le ha hb, hc⟩
theorem BS.later {w w' : World} {A : Option Addr} {l : List UInt8} (h : BS w w.heap.size A l) (hb : Below w.heap.size w w') : BS w' w'.heap.size A l := (h.below hb).mono hb.size
theorem BS.nil (w : World) (B : Nat) (A : Option Addr) : BS w B A [] := by intro k hk; simp at hk
/-- a shorter piece at the same address -/
theorem BS.take {w : World} {B : Nat} {A : Option Addr} {l : List UInt8} (h : BS w B A l) (n : Nat) : BS w B A (l.take n) := by
  intro k hk
  have hk' : k < l.length := by simp at hk; omega
  obtain ⟨a, e, ha, hc⟩ := h k hk'
  exact ⟨a, e, ha, by simpa using hc⟩
/-- a piece further on -/
theorem BS.drop {w : World} {B : Nat} {a : Addr} {l : List UInt8} (h : BS w B (some a) l) (n : Nat) : BS w B (some (a.add n)) (l.drop n) := by
  intro k hk
  have hk' : n + k < l.length := by simp at hk; omega
  obtain ⟨a', e, ha, hc⟩ := h (n + k) hk'
  cases e
  exact ⟨_, rfl, by rw [add_block]; exact ha, by rw [add_add, hc]; simp⟩
theorem BS.of_cells {w : World} {B : Nat} {a : Addr} {l : List UInt8} (hb : a.block < B) (h : ∀ k (h : k < l.length), w.cell? (a.add k) = some (.int .u8 ((l[k].toNat : Nat) : Int))) : BS w B (some a) l :=
  fun k hk => ⟨a, rfl, hb, h k hk⟩

theorem ret_nat {a b : Nat} (h : a = b) : Ending.returned (.int .i64 (a : Int)) = .returned (.int .i64 (b : Int)) := by rw [h]
theorem ret_int {k : IntKind} {a b : Int} (h : a = b) : Ending.returned (.int k a) = .returned (.int k b) := by rw [h]
theorem ret_bool {a b : Bool} (h : a = b) : Ending.returned (.bool a) = .returned (.bool b) := by rw [h]
theorem ret_two {a b c d : Int} (h : a = b) (h' : c = d) : Ending.returned (.tuple #[.int .i64 a, .int .i64 c]) = .returned (.tuple #[.int .i64 b, .int .i64 d]) := by rw [h, h']

theorem below_drewN {B : Nat} {a w : World} (h : Below B a w) (n : Nat) : Below B a (w.drewN n) := ⟨h.os, h.tape, h.output, h.size, h.block⟩

theorem heap_new1 (w : World) (o : Obj) : (w.alloc o).heap[w.heap.size]? = some o := heap_alloc_new w o
theorem heap_new2 (w : World) (o p : Obj) : ((w.alloc o).alloc p).heap[w.heap.size]? = some o ∧ ((w.alloc o).alloc p).heap[w.heap.size + 1]? = some p := by
  constructor
  · rw [Below.heap_alloc _ _ _ (by simp)]; exact heap_alloc_new w o
  · have := heap_alloc_new (w.alloc o) p
    simpa using this
theorem blk_cell {w : World} {b : Nat} {cs : Array Value} {t : TypeId} {fz : Nat × Nat} (h : w.heap[b]? = some (.cells cs t fz)) (i : Nat) : w.cell? ⟨b, i, none⟩ = cs[i]? := by
  simp [World.cell?, h]
theorem blk_frozen {w : World} {b : Nat} {cs : Array Value} {t : TypeId} (h : w.heap[b]? = some (.cells cs t (0, 0))) (i : Nat) : w.frozen? ⟨b, i, none⟩ = false := by
  simp [World.frozen?, h]
theorem blk_lt {w : World} {b : Nat} {o : Obj} (h : w.heap[b]? = some o) : b < w.heap.size := by
  rcases Nat.lt_or_ge b w.heap.size with h' | h'
  · exact h'
  · rw [Array.getElem?_eq_none h'] at h; cases h
theorem blk_later {w w' : World} {b : Nat} {o : Obj} (h : w.heap[b]? = some o) {B : Nat} (hb : Below B w w') (hB : b < B) : w'.heap[b]? = some o := (hb.block b hB).trans h
theorem below_new1 (w : World) (o : Obj) : Below w.heap.size w (w.alloc o) := (Below.refl _ _).alloc (Nat.le_refl _) _
theorem below_new2 (w : World) (o p : Obj) : Below w.heap.size w ((w.alloc o).alloc p) := (below_new1 w o).alloc (by simp) _
theorem size_new1 (w : World) (o : Obj) : (w.alloc o).heap.size = w.heap.size + 1 := by simp
theorem size_new2 (w : World) (o p : Obj) : ((w.alloc o).alloc p).heap.size = w.heap.size + 2 := by simp

/-- A slice of the call's own (or an empty one), by its address: its cells, which may be written. -/
structure OwnS (w : World) (base : Nat) (e : TypeId) (size : Nat) (A : Option Addr) (n : Nat) (xs : List Value) : Prop where
  len : xs.length = n * size
  at_ : 0 < n → ∃ g cur, A = some ⟨g, 0, none⟩ ∧ base ≤ g ∧ w.heap[g]? = some (.cells cur e (0, 0)) ∧ cur.toList.take (n * size) = xs
theorem OwnS.of_own {w : World} {base : Nat} {e : TypeId} {size : Nat} {A : Option Addr} {n c : Nat} {xs : List Value} (h : w.ownsRow base e size (.slice A n c) n xs) : OwnS w base e size A n xs := by
  refine ⟨h.1, fun hn => ?_⟩
  rcases h.2 with ⟨_, h0⟩ | ⟨g, cap, cur, hv, hg, hh, h1, h2, h3, h4⟩
  · omega
  · injection hv with hA _ _
    exact ⟨g, cur, hA, hg, hh, h4⟩
theorem OwnS.nil (w : World) (base : Nat) (e : TypeId) (size : Nat) (A : Option Addr) : OwnS w base e size A 0 [] := ⟨by simp, fun h => by omega⟩
theorem OwnS.cell {w : World} {base : Nat} {e : TypeId} {size : Nat} {A : Option Addr} {n : Nat} {xs : List Value} (h : OwnS w base e size A n xs) {j : Nat} (hj : j < n * size) :
    ∃ g, A = some ⟨g, 0, none⟩ ∧ base ≤ g ∧ g < w.heap.size ∧ w.cell? ⟨g, j, none⟩ = some (xs[j]'(by rw [h.len]; exact hj)) := by
  have hn : 0 < n := by
    rcases Nat.eq_zero_or_pos n with h0 | h0
    · subst h0; simp at hj
    · exact h0
  obtain ⟨g, cur, hA, hg, hh, h4⟩ := h.at_ hn
  refine ⟨g, hA, hg, blk_lt hh, ?_⟩
  rw [blk_cell hh]
  have hl : j < (cur.toList.take (n * size)).length := by rw [h4, h.len]; exact hj
  have hc : j < cur.size := by simp at hl; omega
  subst h4
  simp [hc]
theorem OwnS.keep {w w' : World} {base : Nat} {e : TypeId} {size : Nat} {A : Option Addr} {n : Nat} {xs : List Value} (h : OwnS w base e size A n xs) {B : Nat} (hb : Below B w w') (hB : w.heap.size ≤ B) : OwnS w' base e size A n xs := by
  refine ⟨h.len, fun hn => ?_⟩
  obtain ⟨g, cur, hA, hg, hh, h4⟩ := h.at_ hn
  exact ⟨g, cur, hA, hg, (hb.block g (Nat.lt_of_lt_of_le (blk_lt hh) hB)).trans hh, h4⟩
theorem OwnS.alloc {w : World} {base : Nat} {e : TypeId} {size : Nat} {A : Option Addr} {n : Nat} {xs : List Value} (h : OwnS w base e size A n xs) (o : Obj) : OwnS (w.alloc o) base e size A n xs := h.keep (below_new1 w o) (Nat.le_refl _)
theorem OwnS.drew {w : World} {base : Nat} {e : TypeId} {size : Nat} {A : Option Addr} {n : Nat} {xs : List Value} (h : OwnS w base e size A n xs) : OwnS w.drew base e size A n xs := ⟨h.len, h.at_⟩
theorem OwnS.mono {w : World} {base base' : Nat} {e : TypeId} {size : Nat} {A : Option Addr} {n : Nat} {xs : List Value} (h : OwnS w base' e size A n xs) (hb : base ≤ base') : OwnS w base e size A n xs := by
  refine ⟨h.len, fun hn => ?_⟩
  obtain ⟨g, cur, hA, hg, hh, h4⟩ := h.at_ hn
  exact ⟨g, cur, hA, by omega, hh, h4⟩
/-- A store below the base of an owned row leaves it. -/
theorem OwnS.set_ {w : World} {base : Nat} {e : TypeId} {size : Nat} {A : Option Addr} {n : Nat} {xs : List Value} (h : OwnS w base e size A n xs) {p : Addr} (hp : p.block < base) (u : Value) : OwnS (w.setCell p u) base e size A n xs := by
  refine ⟨h.len, fun hn => ?_⟩
  obtain ⟨g, cur, hA, hg, hh, h4⟩ := h.at_ hn
  exact ⟨g, cur, hA, hg, (Below.heap_setCell w p u g (by omega)).trans hh, h4⟩
/-- An owned row's value is a slice. -/
theorem own_slice {w : World} {base : Nat} {e : TypeId} {size : Nat} {v : Value} {n : Nat} {xs : List Value} (h : w.ownsRow base e size v n xs) : ∃ A c, v = .slice A n c ∧ n ≤ c := by
  rcases h.2 with ⟨rfl, rfl⟩ | ⟨g, cap, cur, hv, hg, hh, h1, h2, h3, h4⟩
  · exact ⟨none, 0, rfl, Nat.le_refl _⟩
  · exact ⟨_, cap, hv, h1⟩

theorem heap_new3 (w : World) (o p q : Obj) : (((w.alloc o).alloc p).alloc q).heap[w.heap.size + 1 + 1]? = some q := by
  have := heap_alloc_new ((w.alloc o).alloc p) q
  simpa using this
theorem below_new3 (w : World) (o p q : Obj) : Below w.heap.size w (((w.alloc o).alloc p).alloc q) := (below_new2 w o p).alloc (by simp; omega) _
theorem size_new3 (w : World) (o p q : Obj) : (((w.alloc o).alloc p).alloc q).heap.size = w.heap.size + 3 := by simp
/-- The cells of a new row, as the append's law asks for them. -/
theorem news_at {w : World} {b : Nat} {cs : List Value} {e : TypeId} {fz : Nat × Nat} (h : w.heap[b]? = some (.cells cs.toArray e fz)) : ∀ j u, cs[j]? = some u → w.cell? ((⟨b, 0, none⟩ : Addr).add j) = some u := by
  intro j u hu
  rw [add_plain, Nat.zero_add, blk_cell h]
  simpa using hu
theorem own_keep {w w' : World} {base : Nat} {e : TypeId} {size : Nat} {v : Value} {n : Nat} {xs : List Value} (h : w.ownsRow base e size v n xs) {B : Nat} (hb : Below B w w') (hB : w.heap.size ≤ B) : w'.ownsRow base e size v n xs := by
  refine ⟨h.1, ?_⟩
  rcases h.2 with h2 | ⟨g, cap, cur, hv, hg, hh, r⟩
  · exact .inl h2
  · exact .inr ⟨g, cap, cur, hv, hg, (hb.block g (Nat.lt_of_lt_of_le (blk_lt hh) hB)).trans hh, r⟩

/-- A scope whose label is only jumped forward to, from one place: what stands behind the label is walked on each way. -/
theorem wp_scope_fwd {P : Program} {a : Act} {w : World} {Q : Exit → Act → World → Prop} {c rest : Code} (l : Nat) (hf : findLabel c l = some rest)
    (first : c.wp P (Exit.jump l (fun a w => rest.wp P (Exit.noGoto Q) a w) Q) a w) : (Code.scope c).wp P Q a w :=
  wp_scope_jumps l (fun a w => rest.wp P (Exit.noGoto Q) a w) (fun _ _ => 0) hf first fun a w h =>
    Code.wp_mono (fun e a w q => by cases e <;> first | exact q | exact q.elim) h
theorem jump_ret {l : Nat} {J : Act → World → Prop} {Q : Exit → Act → World → Prop} {a : Act} {w : World} : Exit.jump l J Q .ret a w = Q .ret a w := rfl
theorem jump_normal {l : Nat} {J : Act → World → Prop} {Q : Exit → Act → World → Prop} {a : Act} {w : World} : Exit.jump l J Q .normal a w = Q .normal a w := rfl
theorem jump_goto {l : Nat} {J : Act → World → Prop} {Q : Exit → Act → World → Prop} {a : Act} {w : World} (h : J a w) : Exit.jump l J Q (.goto l) a w := ⟨rfl, h⟩

/-- The address of 'x[lo:..]', x at A with capacity c. -/
def cutA (A : Option Addr) (c lo : Nat) : Option Addr := if c = lo then A else A.map (·.add lo)

theorem run_slice_cut {P : Program} (t e : TypeId) (ht : P.underlying t = some (.slice e)) (hz : ∀ w, (Go.sizeOf e).run P w = .ok 1 w) (A : Option Addr) (len cap lo hi : Nat) (h1 : lo ≤ hi) (h2 : hi ≤ cap) (w : World) :
    (Instr.slice t (.slice A len cap) (some (.int .i64 (lo : Int))) (some (.int .i64 (hi : Int))) none).run P w = .ok (.slice (cutA A cap lo) (hi - lo) (cap - lo)) w := by
  have ht' : P.underlying t = some (.slice (P.elem t)) := by simp [Program.elem, ht]
  have he : P.elem t = e := by simp [Program.elem, ht]
  rw [run_slice_lh w t _ _ _ ht' .i64 .i64 _ _ (by omega) (by omega) (by omega), he, hz]
  simp [Result.andThen, sliced, cutA]

theorem run_slice_pre {P : Program} (t e : TypeId) (ht : P.underlying t = some (.slice e)) (hz : ∀ w, (Go.sizeOf e).run P w = .ok 1 w) (A : Option Addr) (len cap hi : Nat) (h2 : hi ≤ cap) (w : World) :
    (Instr.slice t (.slice A len cap) none (some (.int .i64 (hi : Int))) none).run P w = .ok (.slice A hi cap) w := by
  have ht' : P.underlying t = some (.slice (P.elem t)) := by simp [Program.elem, ht]
  have he : P.elem t = e := by simp [Program.elem, ht]
  rw [run_slice_h w t _ _ _ ht' .i64 _ (by omega) (by omega), he, hz]
  cases A <;> simp [Result.andThen, sliced, Addr.add]

theorem BS.cut {w : World} {B : Nat} {A : Option Addr} {l : List UInt8} (h : BS w B A l) {cap lo hi : Nat} (h1 : lo ≤ hi) (h2 : hi ≤ l.length) (h3 : l.length ≤ cap) : BS w B (cutA A cap lo) ((l.drop lo).take (hi - lo)) := by
  intro k hk
  have hk' : lo + k < l.length := by simp at hk; omega
  have hk'' : lo + k < hi := by simp at hk; omega
  obtain ⟨a, e, ha, hc⟩ := h (lo + k) hk'
  subst e
  rw [cutA, if_neg (by omega)]
  refine ⟨_, rfl, by rw [add_block]; exact ha, ?_⟩
  rw [add_add, hc]
  simp
theorem cut_length {l : List UInt8} {lo hi : Nat} (h2 : hi ≤ l.length) : ((l.drop lo).take (hi - lo)).length = hi - lo := by simp; omega

/-- The strings at the address A. -/
def SS (w : World) (B : Nat) (A : Option Addr) (ss : List ByteArray) : Prop :=
  ∀ k (h : k < ss.length), ∃ a, A = some a ∧ a.block < B ∧ w.cell? (a.add k) = some (.string ss[k])
theorem SS.made (w : World) (ss : List ByteArray) (e : TypeId) (fz : Nat × Nat) : SS (w.alloc (.cells (ss.map Value.string).toArray e fz)) (w.heap.size + 1) (some ⟨w.heap.size, 0, none⟩) ss := by
  intro k hk
  refine ⟨_, rfl, by simp, ?_⟩
  have hg : (w.alloc (.cells (ss.map Value.string).toArray e fz)).heap[w.heap.size]? = some (.cells (ss.map Value.string).toArray e fz) := heap_alloc_new w _
  rw [add_plain, Nat.zero_add, World.cell?, hg]
  simp [hk]

/-- '[]byte(s)': one new row. -/
theorem conv_sb {P : Program} (w : World) (src dst e : TypeId) (s : ByteArray) (hs : P.underlying src = some .string) (hd : P.underlying dst = some (.slice e)) (he : P.underlying e = some (.int .u8)) :
    ∃ cap w', (convert src dst (.string s)).run P w = .ok (.slice (some ⟨w.heap.size, 0, none⟩) s.size cap) w' ∧ Below w.heap.size w w' ∧ w.heap.size < w'.heap.size ∧
      BS w' w'.heap.size (some ⟨w.heap.size, 0, none⟩) s.data.toList := by
  refine ⟨_, _, Lib.run_convert_string_bytes w src dst e s hs hd he, ?_, ?_, ?_⟩
  · refine ⟨?_, ?_, ?_, ?_, ?_⟩
    · simp [Lib.bytesWorld, World.freeze, World.alloc, World.drew, -World.alloc_eq, -World.drew_eq]
    · simp [Lib.bytesWorld, World.freeze, World.alloc, World.drew, -World.alloc_eq, -World.drew_eq]
    · simp [Lib.bytesWorld, World.freeze, World.alloc, World.drew, -World.alloc_eq, -World.drew_eq]
    · rw [Lib.bytesWorld_size]; omega
    · intro k hk; exact Lib.bytesWorld_at_old w e s k hk
  · rw [Lib.bytesWorld_size]; omega
  · refine BS.of_cells (by rw [Lib.bytesWorld_size]; simp) fun k hk => ?_
    rw [add_plain, Nat.zero_add, Lib.bytesWorld_cell w e s k (by simpa using hk)]
    simp at hk
    simp [hk]

/-- 'string(b)' of a slice that reads as l. -/
theorem conv_bs {P : Program} (w : World) (src dst e : TypeId) (hs : P.underlying src = some (.slice e)) (he : P.underlying e = some (.int .u8)) (hd : P.underlying dst = some .string)
    {B : Nat} {A : Option Addr} {l : List UInt8} (h : BS w B A l) (c : Nat) :
    (convert src dst (.slice A l.length c)).run P w = .ok (.string ⟨l.toArray⟩) w := by
  rcases A with _ | a
  · have : l = [] := by
      cases l with
      | nil => rfl
      | cons x t => obtain ⟨a, e, _⟩ := h 0 (by simp); cases e
    subst this
    exact run_convert_bytes_nil w src e hs he _ _ dst hd
  · refine run_convert_bytes_back w src dst e a c l hs he hd fun j hj => ?_
    obtain ⟨a', e, _, hc⟩ := h j hj
    cases e
    exact hc

/-- A new row that holds the bytes l. -/
theorem BS.made (w : World) (l : List UInt8) (e : TypeId) (fz : Nat × Nat) : BS (w.alloc (.cells (l.map fun b => Value.int .u8 ((b.toNat : Nat) : Int)).toArray e fz)) (w.heap.size + 1) (some ⟨w.heap.size, 0, none⟩) l := by
  refine BS.of_cells (by simp) fun k hk => ?_
  have hg : (w.alloc (.cells (l.map fun b => Value.int .u8 ((b.toNat : Nat) : Int)).toArray e fz)).heap[w.heap.size]? = some (.cells (l.map fun b => Value.int .u8 ((b.toNat : Nat) : Int)).toArray e fz) := heap_alloc_new w _
  rw [add_plain, Nat.zero_add, World.cell?, hg]
  simp [hk]

/-- The entry internal/bytealg.IndexByte at a slice that reads as l. -/
theorem index_bs {P : Program} (w : World) {B : Nat} {A : Option Addr} {l : List UInt8} (h : BS w B A l) (c : Nat) (b : UInt8) :
    (Extern.BytealgIndexByte.indexByte #[.slice A l.length c, .int .u8 ((b.toNat : Nat) : Int)]).run P w = .ok (.int .i64 (Lib.indexByte l b)) w := by
  rcases A with _ | a
  · have : l = [] := by
      cases l with
      | nil => rfl
      | cons x t => obtain ⟨a, e, _⟩ := h 0 (by simp); cases e
    subst this
    exact Lib.run_indexByteNil w _ _ _
  · have hb : Lib.bytesOf (l.map fun x => ((x.toNat : Nat) : Int)) = l := by simp [Lib.bytesOf, Function.comp_def]
    have := Lib.run_indexByteAt (P := P) w a l.length c (l.map fun x => ((x.toNat : Nat) : Int)) (by simp) (fun i hi => by
      obtain ⟨a', e, _, hc⟩ := h i hi
      cases e
      rw [hc]; simp [hi]) ((b.toNat : Nat) : Int)
    rw [hb] at this
    simpa using this
theorem index_mem (l : List UInt8) (b : UInt8) : decide (0 ≤ Lib.indexByte l b) = l.contains b := (Lib.contains_iff_indexByte l b).symm

end Go.Proofs.YtncldnghhpdolaaGreatDoor
