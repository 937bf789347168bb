/- patterns.Word, and rows of a path in memory; no statement of the seat is proved here. -/
import Derived.Test.YtjnedbkbhoiopaaDoorPtWd
import Derived.Test.YtjnedbkbhoiopaaDoorPtAg
import Derived.Test.YtjnedbkbhoiopaaDoorAp1
import Derived.Deep.RegionLawGrows
namespace Go.Proofs.YtjnedbkbhoiopaaDoor
open Go.RowKit

theorem onB {w w1 w2 : World} (h : Below w.heap.size w w1) (h2 : Below w1.heap.size w1 w2) : Below w.heap.size w w2 := h.trans (h2.mono h.size)
/-- A word as the law writes it. -/
def encS (s : ByteArray) : ByteArray := ⟨(encW s.data.toList).toArray⟩
theorem encS_list (s : ByteArray) : (encS s).data.toList = encW s.data.toList := rfl
theorem encS_size (s : ByteArray) : (encS s).size = 3 * s.size := by show (encW s.data.toList).toArray.size = _; rw [List.size_toArray, encW_len, bal]
theorem encS_is (s : ByteArray) (hs : s.size ≤ 60) (w : World) : Calls Tryd.prog 21 #[.string s] w fun e w' => e = .returned (.string (encS s)) ∧ Below w.heap.size w w' := lword_is s (by omega) w
/-- What a whole text tells as a word. -/
def wholeL (l : List UInt8) : List UInt8 × Bool := match wordL l with
  | (o, n, none) => if n < l.length then ([], false) else (o, true)
  | (_, _, some _) => ([], false)
theorem whole_spell (s : ByteArray) : wholeL (spellL s.data.toList) = (s.data.toList, true) := by
  unfold wholeL; rw [word_spell]; simp
theorem whole_enc (s : ByteArray) : wholeL (encW s.data.toList) = (s.data.toList, true) := by
  unfold wholeL; rw [word_enc]; simp

set_option maxRecDepth 100000 in
set_option maxHeartbeats 2000000 in
theorem whole_is (s : ByteArray) (hs : s.size ≤ 1000000) (X : List UInt8) (Y : Bool) (h : wholeL s.data.toList = (X, Y)) (w : World) :
    Calls Tryd.prog 13 #[.string s] w fun e w' => e = .returned (.tuple #[.string ⟨X.toArray⟩, .bool Y]) ∧ Below w.heap.size w w' := by
  obtain ⟨⟨o, n, b⟩, hw⟩ : ∃ x, wordL s.data.toList = x := ⟨_, rfl⟩
  have wc : ∀ w, Calls Tryd.prog 33 #[.string s, .int .i64 0] w fun e w' => e = .returned (wordV 0 ⟨o.toArray⟩ n b) ∧ Below w.heap.size w w' := fun w => word_is s 0 (by omega) hs o n b hw w
  have WC := Lib.hid wc
  clear wc
  unfold wholeL at h
  rw [hw] at h
  cases b with
  | some k =>
    cases h
    have FC := Lib.hid (fun w => fine_is 3 (k : Int) false rfl w)
    clear hw
    unfold wordV at WC
    rw [Nat.zero_add] at WC
    go_enter Tryd.func13, Tryd.ntmps13
    go_wp2_with (first
      | (go_at_call 33; (with_reducible refine (WC.out _).mono ?_); rintro e w1 ⟨rfl, hb1⟩; have HB := Lib.hid hb1; clear hb1)
      | (go_at_call 30; (with_reducible refine (FC.out _).mono ?_); rintro e w2 ⟨rfl, hb2⟩))
    exact bodyPost_ret (v := .tuple #[.string ⟨#[]⟩, .bool false]) (by simp [results, Tryd.results13, go_sem]) rfl ⟨rfl, onB HB.out ((below_new1 _ _).trans (hb2.mono (by simp)))⟩
  | none =>
    have FC := Lib.hid (fun w => fine_is 0 0 true rfl w)
    have hsz := bal s
    dsimp only at h
    rw [hsz] at h
    clear hw hsz
    unfold wordV at WC
    rw [show ((0 + n : Nat) : Int) = (n : Int) by omega] at WC
    by_cases hn : n < s.size
    · rw [if_pos hn] at h
      cases h
      have hni : (n : Int) < (s.size : Int) := by omega
      clear hn
      go_enter Tryd.func13, Tryd.ntmps13
      go_wp2_with (first
        | (go_at_call 33; (with_reducible refine (WC.out _).mono ?_); rintro e w1 ⟨rfl, hb1⟩; have HB := Lib.hid hb1; clear hb1)
        | (go_at_call 30; (with_reducible refine (FC.out _).mono ?_); rintro e w2 ⟨rfl, hb2⟩))
      exact bodyPost_ret (v := .tuple #[.string ⟨#[]⟩, .bool false]) (by simp [results, Tryd.results13, go_sem]) rfl ⟨rfl, onB HB.out ((below_new1 _ _).trans (hb2.mono (by simp)))⟩
    · rw [if_neg hn] at h
      cases h
      have hni : ¬ (n : Int) < (s.size : Int) := by omega
      clear hn
      go_enter Tryd.func13, Tryd.ntmps13
      go_wp2_with (first
        | (go_at_call 33; (with_reducible refine (WC.out _).mono ?_); rintro e w1 ⟨rfl, hb1⟩; have HB := Lib.hid hb1; clear hb1)
        | (go_at_call 30; (with_reducible refine (FC.out _).mono ?_); rintro e w2 ⟨rfl, hb2⟩))
      exact bodyPost_ret (v := .tuple #[.string ⟨X.toArray⟩, .bool true]) (by simp [results, Tryd.results13, go_sem]) rfl ⟨rfl, onB HB.out ((below_new1 _ _).trans (hb2.mono (by simp)))⟩

/-- A word as Spell writes it. -/
def spS (s : ByteArray) : ByteArray := ⟨(spellL s.data.toList).toArray⟩
theorem spS_size (s : ByteArray) : (spS s).size ≤ 3 * s.size := by
  have := spell_len s.data.toList
  show (spellL s.data.toList).toArray.size ≤ _
  rw [List.size_toArray]; rw [bal] at this; exact this
theorem spS_is (s : ByteArray) (hs : s.size ≤ 60) (w : World) : Calls Tryd.prog 15 #[.string s] w fun e w' => e = .returned (.string (spS s)) ∧ Below w.heap.size w w' := spell_is s (by omega) w
theorem back_sp (s : ByteArray) (hs : s.size ≤ 60) (w : World) : Calls Tryd.prog 13 #[.string (spS s)] w fun e w' => e = .returned (.tuple #[.string s, .bool true]) ∧ Below w.heap.size w w' :=
  whole_is (spS s) (by have := spS_size s; omega) s.data.toList true (whole_spell s) w
theorem back_enc (s : ByteArray) (hs : s.size ≤ 60) (w : World) : Calls Tryd.prog 13 #[.string (encS s)] w fun e w' => e = .returned (.tuple #[.string s, .bool true]) ∧ Below w.heap.size w w' :=
  whole_is (encS s) (by have := encS_size s; omega) s.data.toList true (whole_enc s) w
theorem match_at {W : World} {base b c1 : Nat} {A1 : Option Addr} {q : List (Pat × Value)} {l : List PS4} (hP : PB W base b A1 c1 q) (hq : l.map patP = q.map (·.1)) (hl : l.length ≤ 30) (PA : Option Addr) (n pc : Nat) (path : List PS4) (hM : PM W PA path) (hn : n = path.length) (hn1 : n ≤ 1000) (x : Bool) (hx : matchL (l.map patP) (path.map PS4.step) = x) :
    Calls Tryd.prog 10 #[.pointer (some ⟨b, 0, none⟩), .slice PA n pc] W fun e w' => e = .returned (.bool x) ∧ Below W.heap.size W w' := by
  have hql : q.length = l.length := by have := congrArg List.length hq; simpa using this.symm
  rw [hq] at hx
  rw [← hx]
  exact match_is base b A1 c1 q W hP PA pc path hM (by omega) (by omega) n hn
theorem step4_info : (Tryd.prog.info? 50).map (fun i => (i.zero, i.size, i.bytes)) = some (some (.agg #[.int .u8 0, .string ⟨#[]⟩, .string ⟨#[]⟩, .int .i64 0]), 4, 48) := by kernel_rfl
theorem cellsP_one {x : PS4} : ∀ u ∈ cellsP x, u.oneCell' = true := by
  intro u hu
  simp [cellsP] at hu
  rcases hu with rfl | rfl | rfl | rfl <;> rfl
theorem rowP_one {q : List PS4} : ∀ u ∈ rowP q, u.oneCell' = true := by
  intro u hu
  obtain ⟨x, _, hx⟩ := List.mem_flatMap.1 hu
  exact cellsP_one u hx
theorem rowP_len (q : List PS4) : (rowP q).length = q.length * 4 := by
  induction q with
  | nil => rfl
  | cons x q ih => show (cellsP x ++ rowP q).length = _; rw [List.length_append, ih, List.length_cons]; simp [cellsP]; omega
theorem rowP_snoc (q : List PS4) (x : PS4) : rowP (q ++ [x]) = rowP q ++ cellsP x := by simp [rowP]
/-- The cells of a path in memory. -/
theorem PM.cellAt {w : World} {g off : Nat} {q : List PS4} (h : PM w (some ⟨g, off, none⟩) q) {k : Nat} (hk : k < q.length) (r : Nat) (hr : r < 4) : w.cell? ⟨g, off + k * 4 + r, none⟩ = (cellsP q[k])[r]? := by
  obtain ⟨g', off', e, _, h0, h1, h2, h3⟩ := h k hk
  cases e
  match r, hr with
  | 0, _ => exact h0
  | 1, _ => exact h1
  | 2, _ => exact h2
  | 3, _ => exact h3
theorem PM.of_cells {w : World} {g off : Nat} {q : List PS4} (hg : g < w.heap.size) (h : ∀ k (hk : k < q.length) r, r < 4 → w.cell? ⟨g, off + k * 4 + r, none⟩ = (cellsP q[k])[r]?) : PM w (some ⟨g, off, none⟩) q := fun k hk =>
  ⟨g, off, rfl, hg, h k hk 0 (by omega), h k hk 1 (by omega), h k hk 2 (by omega), h k hk 3 (by omega)⟩
theorem PM.news {w : World} {g off : Nat} {q : List PS4} (h : PM w (some ⟨g, off, none⟩) q) : ∀ j u, (rowP q)[j]? = some u → w.cell? ((⟨g, off, none⟩ : Addr).add j) = some u := by
  intro j u hu
  have hj : j < q.length * 4 := by rw [← rowP_len]; exact (List.getElem?_eq_some_iff.1 hu).1
  have hk : j / 4 < q.length := by omega
  have := h.cellAt hk (j % 4) (by omega)
  rw [show off + j / 4 * 4 + j % 4 = off + j by omega, ← rowP_get hk (j % 4) (by omega), show j / 4 * 4 + j % 4 = j by omega, hu] at this
  by_cases hj0 : j = 0
  · subst hj0; simpa [Addr.add] using this
  · simpa [Addr.add, hj0] using this
section
variable {P : Program} (w : World)
/-- As wpList_app1, and it says which block alone has changed. -/
theorem wpList_app1g {ops : Array Oper} {rest : List Oper} {o : Oper} {a : Act} {Q : Exit → Act → World → Prop} (hw : Region.wanted o (yielded ops a.tmps) = true) (s x : Operand) (t : TypeId)
    (ho : o.op = .call { callee := .builtin .append, args := #[s, x], argTypes := #[t, t] })
    (base : Nat) (e : TypeId) (i : TypeInfo) (z : Value) (size bytes : Nat) (ht : P.underlying t = some (.slice e)) (hi : P.info? e = some i) (hz : i.zero = some z)
    (hsize : i.size = size) (hby : i.bytes = bytes) (hzs : z.cells.size = size) (hsz : 0 < size)
    (A : Option Addr) (n c : Nat) (xs : List Value) (hs : a.eval s = .slice A n c) (hown : w.ownsRow base e size (.slice A n c) n xs)
    (news : List Value) (fz : Nat × Nat) (hx : a.eval x = .slice (some ⟨w.heap.size, 0, none⟩) 1 1) (hl : news.length = size) (h1 : ∀ u ∈ news, u.oneCell' = true)
    (hn : n ≤ 16777216) (hb8 : bytes ≤ 4096) (hbase : base ≤ w.heap.size)
    (h : ∀ A' c' w', w'.ownsRow base e size (.slice A' (n + 1) c') (n + 1) (xs ++ news) → n + 1 ≤ c' → (w.alloc (.cells news.toArray e fz)).grownBy w' (Value.slice A n c).ownBlock → Below base w w' → wpList P ops Q rest (a.put o.dst (.slice A' (n + 1) c')) w') : wpList P ops Q (o :: rest) a (w.alloc (.cells news.toArray e fz)) := by
  have h63 : n + 1 ≤ maxLen := by simp only [maxLen]; omega
  have hbytes : (n + 1) * bytes ≤ 140737488355328 := Nat.le_trans (Nat.mul_le_mul (by omega : n + 1 ≤ 16777217) hb8) (by decide)
  refine BigFrame.wpList_want hw fun K hK => wp_append_own _ s x t ho base e i z size bytes ht hi hz hsize hby hzs hsz (.slice A n c) n xs hs (own_keep hown (below_new1 w _) (Nat.le_refl _)) ⟨w.heap.size, 0, none⟩ 1 1 news hx (by omega) (news_at (heap_new1 w _)) h1 h63 hbytes (by simp; omega) ?_
  intro v' w' h2 h3 _
  obtain ⟨A', c', rfl, hc⟩ := own_slice h2
  exact hK _ _ (h A' c' w' h2 hc h3 (below_grown h3 (own_ge hown) ((Below.refl _ _).alloc hbase _) (by simp; omega)))
end
/-- A block beside the row stays. -/
theorem own_beside {w w' w0 : World} {base : Nat} {e : TypeId} {size n b : Nat} {A : Option Addr} {c : Nat} {xs : List Value} {ob : Obj} (h : w0.ownsRow base e size (.slice A n c) n xs) (hb : w0.heap.size ≤ b) (hg : w.grownBy w' (Value.slice A n c).ownBlock) (ho : w.heap[b]? = some ob) : w'.heap[b]? = some ob := by
  have hne : (Value.slice A n c).ownBlock ≠ some b := by
    intro e1
    rcases h.2 with ⟨e2, _⟩ | ⟨g, cap, cur, e2, _, hh, _⟩
    · rw [e2] at e1; cases e1
    · rw [e2] at e1
      simp only [Value.ownBlock, Option.some.injEq] at e1
      have := blk_lt hh
      omega
  exact (hg.block b (blk_lt ho) (fun e1 => hne e1.symm)).trans ho
theorem PM.of_own {w : World} {base : Nat} {A : Option Addr} {n c : Nat} {q : List PS4} (h : w.ownsRow base 50 4 (.slice A n c) n (rowP q)) (hn : n = q.length) : PM w A q := by
  intro j hj
  obtain ⟨g, cur, hA, _, hh, h4⟩ := (OwnS.of_own h).at_ (by omega)
  subst hA
  refine PM.of_cells (blk_lt hh) (fun k hk r hr => ?_) j hj
  rw [blk_cell hh, Nat.zero_add, ← rowP_get hk r hr, ← h4, List.getElem?_take, if_pos (by omega)]
  simp
theorem PM.head {w : World} {A : Option Addr} {q : List PS4} (h : PM w A q) (k : Nat) : PM w A (q.take k) := by
  intro j hj
  have hj' : j < q.length := by rw [List.length_take] at hj; omega
  have := h j hj'
  rwa [List.getElem_take]
/-- One step of the path is written anew. -/
theorem PM.put {w : World} {g off : Nat} {q : List PS4} (h : PM w (some ⟨g, off, none⟩) q) {i : Nat} (hi : i < q.length) (o : PS4) :
    PM ((((w.setCell ⟨g, off + i * 4, none⟩ (.int .u8 (o.k.toNat : Int))).setCell ⟨g, off + i * 4 + 1, none⟩ (.string o.t)).setCell ⟨g, off + i * 4 + 2, none⟩ (.string o.d)).setCell ⟨g, off + i * 4 + 3, none⟩ (.int .i64 o.a)) (some ⟨g, off, none⟩) (q.set i o) := by
  have hg : g < w.heap.size := by obtain ⟨g', _, e, hg, _⟩ := h i hi; cases e; exact hg
  refine PM.of_cells (by simpa [World.setCell] using hg) (fun k hk r hr => ?_)
  have hk' : k < q.length := by simpa using hk
  have ne : ∀ (W : World) (x y : Nat) (v : Value), x ≠ y → (W.setCell ⟨g, x, none⟩ v).cell? ⟨g, y, none⟩ = W.cell? ⟨g, y, none⟩ := fun W x y v hxy => World.cell?_setCell_other W _ _ v (by intro e; cases e; exact hxy rfl)
  have sm : ∀ (W : World) (x : Nat) (v u : Value), W.cell? ⟨g, x, none⟩ = some u → (W.setCell ⟨g, x, none⟩ v).cell? ⟨g, x, none⟩ = some v := fun W x v u hu => World.cell?_setCell_same W _ v hu
  have c0 := h.cellAt hi 0 (by omega)
  have c1 := h.cellAt hi 1 (by omega)
  have c2 := h.cellAt hi 2 (by omega)
  have c3 := h.cellAt hi 3 (by omega)
  by_cases hik : i = k
  · subst hik
    rw [List.getElem_set_self]
    match r, hr with
    | 0, _ => rw [ne _ _ _ _ (by omega), ne _ _ _ _ (by omega), ne _ _ _ _ (by omega)]; exact sm _ _ _ _ c0
    | 1, _ => rw [ne _ _ _ _ (by omega), ne _ _ _ _ (by omega)]; exact sm _ _ _ _ ((ne _ _ _ _ (by omega)).trans c1)
    | 2, _ => rw [ne _ _ _ _ (by omega)]; exact sm _ _ _ _ ((ne _ _ _ _ (by omega)).trans ((ne _ _ _ _ (by omega)).trans c2))
    | 3, _ => exact sm _ _ _ _ ((ne _ _ _ _ (by omega)).trans ((ne _ _ _ _ (by omega)).trans ((ne _ _ _ _ (by omega)).trans c3)))
  · rw [List.getElem_set_ne hik, ne _ _ _ _ (by omega), ne _ _ _ _ (by omega), ne _ _ _ _ (by omega), ne _ _ _ _ (by omega)]
    exact h.cellAt hk' r hr
theorem PM.olds {w : World} {A : Option Addr} {q : List PS4} (h : PM w A q) : ∀ b, A = some b → ∀ j u, (rowP q)[j]? = some u → w.cell? (b.add j) = some u := by
  intro b hb j u hu
  cases q with
  | nil => simp [rowP] at hu
  | cons x q =>
    obtain ⟨g, off, e, _⟩ := h 0 (by simp)
    subst e
    cases hb
    exact h.news j u hu
theorem PM.none {w : World} {A : Option Addr} {q : List PS4} {n : Nat} (h : PM w A q) (hn : n = q.length) : A = .none → n = 0 ∧ n = 0 := by
  intro e
  cases q with
  | nil => exact ⟨hn, hn⟩
  | cons x q => obtain ⟨g, off, e', _⟩ := h 0 (by simp); rw [e] at e'; cases e'
theorem slice_full (A : Option Addr) (len cap hi : Nat) (h2 : hi ≤ cap) (w : World) :
    (Instr.slice 31 (.slice A len cap) none (some (.int .i64 (hi : Int))) (some (.int .i64 (hi : Int)))).run Tryd.prog w = .ok (.slice A hi hi) w := by
  have ht := Tryd.underlying31
  have ht' : Tryd.prog.underlying 31 = some (.slice (Tryd.prog.elem 31)) := by simp [Program.elem, ht]
  have he : Tryd.prog.elem 31 = 50 := by simp [Program.elem, ht]
  rw [run_slice_hm w 31 _ _ _ ht' .i64 .i64 _ _ (by omega) (by omega) (by omega), he, Tryd.sizeOf50]
  cases A <;> simp [Result.andThen, sliced, Addr.add]
theorem slice_to (A : Option Addr) (len cap hi : Nat) (h2 : hi ≤ cap) (w : World) :
    (Instr.slice 31 (.slice A len cap) none (some (.int .i64 (hi : Int))) none).run Tryd.prog w = .ok (.slice A hi cap) w := by
  have ht := Tryd.underlying31
  have ht' : Tryd.prog.underlying 31 = some (.slice (Tryd.prog.elem 31)) := by simp [Program.elem, ht]
  have he : Tryd.prog.elem 31 = 50 := by simp [Program.elem, ht]
  rw [run_slice_h w 31 _ _ _ ht' .i64 _ (by omega) (by omega), he, Tryd.sizeOf50]
  cases A <;> simp [Result.andThen, sliced, Addr.add]
/-- append that grows, as a step of a region that draws, also behind a guard. -/
theorem step_append_growsW {P : Program} {ops : Array Oper} {o : Oper} {a : Act} {w : World} {K : Act → World → Prop} {Q : Exit → Act → World → Prop} {E : Prop}
    (hw : Region.wanted o (yielded ops a.tmps) = true) (s x : Operand) (t : TypeId) (hop : o.op = Op.call { callee := Callee.builtin Builtin.append, args := #[s, x], argTypes := #[t, t] })
    (e : TypeId) (i : TypeInfo) (z : Value) (size bytes : Nat) (h1 : P.underlying t = some (.slice e)) (h2 : P.info? e = some i) (h3 : i.zero = some z) (h4 : i.size = size) (h5 : i.bytes = bytes) (h6 : z.cells.size = size) (h7 : 0 < size)
    (ao : Option Addr) (n cap : Nat) (olds : List Value) (hs : a.eval s = .slice ao n cap) (hnone : ao = none → n = 0 ∧ cap = 0) (hlo : olds.length = n * size) (holds : ∀ b, ao = some b → ∀ j u, olds[j]? = some u → w.cell? (b.add j) = some u)
    (ad : Addr) (m c : Nat) (news : List Value) (hx : a.eval x = .slice (some ad) m c) (hn : news.length = m * size) (hc : ∀ j u, news[j]? = some u → w.cell? (ad.add j) = some u) (h1c : ∀ u ∈ news, u.oneCell' = true)
    (hfull : cap < n + m) (b1 : n + m ≤ maxLen) (b2 : (n + m) * bytes ≤ 140737488355328)
    (hK : ∀ v' w', w'.ownsRow w.heap.size e size v' (n + m) (olds ++ news) → w.grownBy w' none → K (a.put o.dst v') w') :
    if Region.wanted o (yielded ops a.tmps) = true then Oper.wp P o a w K Q else E := by
  rw [if_pos hw]
  have := step_append_grows (P := P) (ops := ops) (o := { o with guard := none }) (a := a) (w := w) (K := K) (Q := Q) (E := E) rfl s x t hop e i z size bytes h1 h2 h3 h4 h5 h6 h7 ao n cap olds hs hnone hlo holds ad m c news hx hn hc h1c hfull b1 b2 hK
  rw [if_pos (by simp [Region.wanted])] at this
  exact this
theorem wpList_append_growsW {P : Program} {ops : Array Oper} {rest : List Oper} {o : Oper} {a : Act} {w : World} {Q : Exit → Act → World → Prop}
    (hw : Region.wanted o (yielded ops a.tmps) = true) (s x : Operand) (t : TypeId) (hop : o.op = Op.call { callee := Callee.builtin Builtin.append, args := #[s, x], argTypes := #[t, t] })
    (e : TypeId) (i : TypeInfo) (z : Value) (size bytes : Nat) (h1 : P.underlying t = some (.slice e)) (h2 : P.info? e = some i) (h3 : i.zero = some z) (h4 : i.size = size) (h5 : i.bytes = bytes) (h6 : z.cells.size = size) (h7 : 0 < size)
    (ao : Option Addr) (n cap : Nat) (olds : List Value) (hs : a.eval s = .slice ao n cap) (hnone : ao = none → n = 0 ∧ cap = 0) (hlo : olds.length = n * size) (holds : ∀ b, ao = some b → ∀ j u, olds[j]? = some u → w.cell? (b.add j) = some u)
    (ad : Addr) (m c : Nat) (news : List Value) (hx : a.eval x = .slice (some ad) m c) (hn : news.length = m * size) (hc : ∀ j u, news[j]? = some u → w.cell? (ad.add j) = some u) (h1c : ∀ u ∈ news, u.oneCell' = true)
    (hfull : cap < n + m) (b1 : n + m ≤ maxLen) (b2 : (n + m) * bytes ≤ 140737488355328)
    (hK : ∀ v' w', w'.ownsRow w.heap.size e size v' (n + m) (olds ++ news) → w.grownBy w' none → wpList P ops Q rest (a.put o.dst v') w') : wpList P ops Q (o :: rest) a w :=
  BigFrame.wpList_want hw fun K hK' => by
    have := step_append_growsW (P := P) (ops := ops) (o := o) (a := a) (w := w) (K := K) (Q := Q) (E := True) hw s x t hop e i z size bytes h1 h2 h3 h4 h5 h6 h7 ao n cap olds hs hnone hlo holds ad m c news hx hn hc h1c hfull b1 b2 (fun v' w' r1 r2 => hK' _ _ (hK v' w' r1 r2))
    rw [if_pos hw] at this
    exact this
theorem asP_cells (x : PS4) : cellsP (asP x) = if isKey x then [.int .u8 0, .string x.t, .string ⟨#[]⟩, .int .i64 0] else [.int .u8 2, .string x.t, .string x.d, .int .i64 0] := by
  unfold asP
  cases isKey x <;> rfl

end Go.Proofs.YtjnedbkbhoiopaaDoor
