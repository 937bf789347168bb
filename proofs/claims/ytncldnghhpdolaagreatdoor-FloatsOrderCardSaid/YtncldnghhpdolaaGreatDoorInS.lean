/- right digits (ints.radix.right): every part between low marks has digits, and no other; no statement of the seat is proved here. -/
import Derived.Test.YtncldnghhpdolaaGreatDoorInR
import Derived.Shelf.Strings.SlTrimAscii
namespace Go.Proofs.YtncldnghhpdolaaGreatDoor
open Go.RowKit Go.Shelf
attribute [local go_sem] Oper.semAt_some

theorem dropW_nil {p : UInt8 → Bool} : ∀ l : List UInt8, l.dropWhile p = [] ↔ ∀ c ∈ l, p c = true := by
  intro l
  induction l with
  | nil => simp
  | cons c l ih =>
    rw [List.dropWhile_cons]
    cases hc : p c
    · simp [hc]
    · simp [hc, ih]
theorem dropW_head {p : UInt8 → Bool} : ∀ (l : List UInt8) c r, l.dropWhile p = c :: r → p c = false := by
  intro l
  induction l with
  | nil => intro c r h; cases h
  | cons x l ih =>
    intro c r h
    rw [List.dropWhile_cons] at h
    cases hx : p x
    · rw [hx] at h; injection h with h1 h2; rw [← h1]; exact hx
    · rw [hx] at h; exact ih c r h
theorem trim_nil (l cs : List UInt8) : Lib.trimS l cs = [] ↔ ∀ c ∈ l, cs.contains c = true := by
  unfold Lib.trimS Lib.trimLeftS Lib.trimRightS
  rw [dropW_nil]
  constructor
  · intro h
    have hr : l.reverse.dropWhile (cs.contains ·) = [] := by
      cases hd : l.reverse.dropWhile (cs.contains ·) with
      | nil => rfl
      | cons c r =>
        have h1 := dropW_head _ _ _ hd
        have h2 := h c (by rw [hd]; simp)
        rw [h2] at h1; cases h1
    rw [dropW_nil] at hr
    exact fun c hc => hr c (by simpa using hc)
  · intro h
    have hr : l.reverse.dropWhile (cs.contains ·) = [] := by rw [dropW_nil]; exact fun c hc => h c (by simpa using hc)
    rw [hr]; intro c hc; cases hc

/-- A part that is digits. -/
def partB (dg p : List UInt8) : Bool := !p.isEmpty && p.all fun c => dg.contains c
def rightB (dg s : List UInt8) : Bool := (spl s).all (partB dg)

/-- What lies in memory while the parts come. -/
structure SJ (w : World) (dg v : ByteArray) (W : World) : Prop where
  low : Below w.heap.size w W
  dig : W.cell? ⟨w.heap.size, 2, none⟩ = some (.string dg)
  res : W.cell? ⟨w.heap.size + 1, 0, none⟩ = some (.bool false)
  resf : W.frozen? ⟨w.heap.size + 1, 0, none⟩ = false
  str : W.cell? ⟨w.heap.size + 1 + 1, 0, none⟩ = some (.string v)
  strf : W.frozen? ⟨w.heap.size + 1 + 1, 0, none⟩ = false
  sep : W.cell? ⟨w.heap.size + 1 + 1 + 1, 0, none⟩ = some (.string ⟨#[95]⟩)
  sav : W.cell? ⟨w.heap.size + 1 + 1 + 2, 0, none⟩ = some (.int .i64 0)
  len : w.heap.size + 5 ≤ W.heap.size
theorem SJ.keep {w : World} {dg v : ByteArray} {W W' : World} (h : SJ w dg v W) (k : Below (w.heap.size + 5) W W') : SJ w dg v W' := by
  have hl := h.len
  have hs := k.size
  exact ⟨h.low.trans (k.mono (by omega)), (k.cell (p := ⟨w.heap.size, 2, none⟩) (by dsimp only; omega)).trans h.dig, (k.cell (p := ⟨w.heap.size + 1, 0, none⟩) (by dsimp only; omega)).trans h.res,
    (k.frozen (p := ⟨w.heap.size + 1, 0, none⟩) (by dsimp only; omega)).trans h.resf, (k.cell (p := ⟨w.heap.size + 1 + 1, 0, none⟩) (by dsimp only; omega)).trans h.str, (k.frozen (p := ⟨w.heap.size + 1 + 1, 0, none⟩) (by dsimp only; omega)).trans h.strf,
    (k.cell (p := ⟨w.heap.size + 1 + 1 + 1, 0, none⟩) (by dsimp only; omega)).trans h.sep, (k.cell (p := ⟨w.heap.size + 1 + 1 + 2, 0, none⟩) (by dsimp only; omega)).trans h.sav, by omega⟩
theorem SJ.set {w : World} {dg v : ByteArray} {W : World} (h : SJ w dg v W) (v' : ByteArray) : SJ w dg v' (W.setCell ⟨w.heap.size + 1 + 1, 0, none⟩ (.string v')) := by
  have hne : ∀ (b o : Nat), b ≠ w.heap.size + 1 + 1 → (W.setCell ⟨w.heap.size + 1 + 1, 0, none⟩ (.string v')).cell? ⟨b, o, none⟩ = W.cell? ⟨b, o, none⟩ := fun b o hb => World.cell?_setCell_other _ _ _ _ (by intro e; injection e with e1; exact hb e1.symm)
  exact ⟨h.low.setCell (p := ⟨w.heap.size + 1 + 1, 0, none⟩) (by dsimp only; omega) _, (hne _ _ (by omega)).trans h.dig, (hne _ _ (by omega)).trans h.res, by rw [World.frozen?_setCell]; exact h.resf,
    World.cell?_setCell_same' _ _ _ (by rw [h.str]; rfl), by rw [World.frozen?_setCell]; exact h.strf, (hne _ _ (by omega)).trans h.sep, (hne _ _ (by omega)).trans h.sav, by have := h.len; simp; omega⟩

theorem cell_of {W : World} {b o : Nat} {c : Array Value} {t : TypeId} {v : Value} (h : W.heap[b]? = some (.cells c t (0, 0))) (hc : c[o]? = some v) : W.cell? ⟨b, o, none⟩ = some v ∧ W.frozen? ⟨b, 0, none⟩ = false := by
  constructor
  · unfold World.cell?; simp only [h]; exact hc
  · unfold World.frozen?; simp [h]
theorem spl_len : ∀ (l p : List UInt8), p ∈ spl l → p.length ≤ l.length := by
  intro l
  induction l with
  | nil => intro p hp; simp [spl] at hp; subst hp; simp
  | cons c r ih =>
    intro p hp
    rw [spl] at hp
    split at hp
    · rcases List.mem_cons.1 hp with rfl | hp
      · simp
      · have := ih p hp; simp; omega
    · split at hp
      · rename_i q qs hq
        rcases List.mem_cons.1 hp with rfl | hp
        · have := ih q (by rw [hq]; simp); simp; omega
        · have := ih p (by rw [hq]; simp [hp]); simp; omega
      · simp at hp; subst hp; simp
theorem below_put (n : Nat) (W : World) (l : Nat) (o o' : Obj) (hn : n ≤ l) (h : W.heap[l]? = some o) : Below n W (W.putObj l o') := by
  have hl := (Array.getElem?_eq_some_iff.1 h).1
  exact (Below.refl n W).grown (grownBy_putObj' W l o') (by omega) (fun k e => by cases e; omega)
/-- What a round's end hands on. -/
def endS (I : ByteArray → World → Prop) (Ix : World → Prop) (v : ByteArray) (W : World) : Exit → Act → World → Prop
  | .normal, _, W' => KeepsOthers W W' ∧ I v W'
  | .ret, _, W' => KeepsOthers W W' ∧ Ix W'
  | _, _, _ => False

set_option maxHeartbeats 2000000 in
/-- A range over strings.SplitSeq(s, "_"), whose body may leave by a return. -/
theorem range_split {ps : Array Tmp} (hps : ps.size = 1) {g : Operand} {assign body : Code} {Q : Exit → Act → World → Prop} {a : Act} {w : World} {bs bp bv : Nat}
    (hg : a.eval g = .func (.func 117) #[] #[.pointer (some ⟨bp, 0, none⟩), .pointer (some ⟨bs, 0, none⟩), .pointer (some ⟨bv, 0, none⟩)]) (s : ByteArray) (hs : s.size ≤ 1000000)
    (I : List (List UInt8) → ByteArray → World → Prop) (Ix : World → Prop)
    (hread : ∀ pre v W, I pre v W → W.cell? ⟨bs, 0, none⟩ = some (.string v) ∧ W.frozen? ⟨bs, 0, none⟩ = false ∧ W.cell? ⟨bp, 0, none⟩ = some (.string ⟨#[95]⟩) ∧ W.cell? ⟨bv, 0, none⟩ = some (.int .i64 0))
    (hset : ∀ pre v v' W, I pre v W → I pre v' (W.setCell ⟨bs, 0, none⟩ (.string v')))
    (hkeep : ∀ pre v W W', I pre v W → Below w.heap.size W W' → I pre v W') (hkeepx : ∀ W W', Ix W → Below w.heap.size W W' → Ix W')
    (h0 : I [] s w) (a₁ : ByteArray → Act)
    (hassign : ∀ (l : Nat) (x : ByteArray) (W : World) (K : Act → World → Prop), K (a₁ x) W →
      assign.wpIn (Fence.wide.inRound l) 3 Tryz.prog (Exit.then K (fun _ _ _ => False)) { tmps := (ps.zip #[.string x]).foldl (fun t (p, v) => t.setIfInBounds p v) a.tmps, defers := [] } W)
    (hbody : ∀ (l : Nat) (pre : List (List UInt8)) (v x : ByteArray) (W : World), I pre v W → pre ++ [x.data.toList] <+: spl s.data.toList → body.wpIn (Fence.wide.inRound l) 3 Tryz.prog (endS (I (pre ++ [x.data.toList])) Ix v W) (a₁ x) W)
    (hdone : ∀ v W, I (spl s.data.toList) v W → W.heap[w.heap.size]? = some (.deferred (some [])) → Q .normal { a with defers := { target := .collected w.heap.size, args := #[] } :: a.defers } W)
    (hstop : ∀ W, Ix W → W.heap[w.heap.size]? = some (.deferred (some [])) → Code.ret.wpIn Fence.wide 5 Tryz.prog Q { a with defers := { target := .collected w.heap.size, args := #[] } :: a.defers } W) :
    (Code.rangeFunc g ps assign body).wpIn Fence.wide 5 Tryz.prog Q a w := by
  refine wpIn_rangeFunc ?_
  intro fn hfn
  obtain ⟨rec, hrec⟩ : ∃ rec : LoopState → Option Code → Loop, rec = fun st pe => { state := st, pending := pe, fn, tmps := a.tmps, params := ps, assign, body, defers := w.heap.size } := ⟨_, rfl⟩
  obtain ⟨W1, hW1⟩ : ∃ W1, (w.alloc (.deferred (some []))).alloc (.loop (rec .ready none)) = W1 := ⟨_, rfl⟩
  have hL1 : W1.heap[w.heap.size + 1]? = some (.loop (rec .ready none)) := by
    rw [← hW1]; have := World.alloc_heap_new (w.alloc (.deferred (some []))) (.loop (rec .ready none)); rwa [World.size_alloc] at this
  have hK1 : W1.heap[w.heap.size]? = some (.deferred (some [])) := by
    rw [← hW1]; exact (Below.heap_alloc _ _ _ (by simp)).trans (World.alloc_heap_new w _)
  have hb1 : Below w.heap.size w W1 := by
    rw [← hW1]; exact ((Below.refl _ w).alloc (Nat.le_refl _) _).alloc (by simp) _
  refine ⟨w.heap.size + 1, [{ target := .collected w.heap.size, args := #[] }], W1, { target := .fn (.func 117) #[.pointer (some ⟨bp, 0, none⟩), .pointer (some ⟨bs, 0, none⟩), .pointer (some ⟨bv, 0, none⟩)], args := #[.func (.yield (w.heap.size + 1)) #[] #[]] }, W1, 117,
    #[.func (.yield (w.heap.size + 1)) #[] #[], .pointer (some ⟨bp, 0, none⟩), .pointer (some ⟨bs, 0, none⟩), .pointer (some ⟨bv, 0, none⟩)], W1, ?_, ?_, fun _ _ => trivial, ?_, fun _ => by omega, ?_⟩
  · rw [← hW1, hrec]; exact run_enterLoop_outer _ _ _ _ _
  · simp only [resolve, hg]
    simp [go_sem]
  · simp [invoke, go_sem]
  · refine (split_in (w.heap.size + 1) bs bp bv s
      (fun pre v W => I pre v W ∧ W.heap[w.heap.size + 1]? = some (.loop (rec .ready none)) ∧ W.heap[w.heap.size]? = some (.deferred (some [])))
      (fun W => Ix W ∧ W.heap[w.heap.size + 1]? = some (.loop (rec .done (some .ret))) ∧ W.heap[w.heap.size]? = some (.deferred (some [])))
      hs (fun pre v W h => hread pre v W h.1)
      (fun pre v v' W h => ⟨hset pre v v' W h.1, (KeepsOthers.setCell W _ _).same _ _ h.2.1 rfl, (KeepsOthers.setCell W _ _).same _ _ h.2.2 rfl⟩) ?_ W1 ⟨hkeep _ _ _ _ h0 hb1, hL1, hK1⟩).mono ?_
    · rintro pre v x W ⟨hi, hl, hk⟩ hpx
      have hlt : w.heap.size + 1 < W.heap.size := (Array.getElem?_eq_some_iff.1 hl).1
      have hy := run_yield (P := Tryz.prog) (args := #[.string x]) hl (by rw [hrec]; exact hps.symm)
      rw [hrec] at hy
      obtain ⟨W2, hW2⟩ : ∃ W2, W2 = W.putObj (w.heap.size + 1) (.loop { rec .ready none with state := .busy }) := ⟨_, rfl⟩
      have hl2 : W2.heap[w.heap.size + 1]? = some (.loop { rec .ready none with state := .busy }) := by rw [hW2]; exact World.putObj_heap_same hlt
      have hk2 : W2.heap[w.heap.size]? = some (.deferred (some [])) := by rw [hW2]; exact (World.putObj_heap_other (by omega)).trans hk
      have hb2 : Below w.heap.size W W2 := by rw [hW2]; exact below_put _ _ _ _ _ (by omega) hl
      refine ⟨fn, _, assign, body, hy, roundIn_of_wpIn trivial (hassign _ x W _ ⟨_, run_beginRound hl (by rw [hrec]), ?_⟩)⟩
      rw [← hW2]
      refine wpIn_mono (hbody _ pre v x _ (hkeep _ _ _ _ hi hb2) hpx) ?_
      rintro e a3 W3 hp
      cases e with
      | normal =>
        obtain ⟨hk3, hi3⟩ := hp
        have hl3 := hk3.same _ _ hl2 rfl
        refine ⟨_, _, run_endRound none hl3, .inl ⟨rfl, ⟨hkeep _ _ _ _ hi3 (below_put _ _ _ _ _ (by omega) hl3), ?_, ?_⟩⟩⟩
        · rw [World.putObj_heap_same (Array.getElem?_eq_some_iff.1 hl3).1, hrec]; rfl
        · exact (World.putObj_heap_other (by omega)).trans (hk3.same _ _ hk2 rfl)
      | ret =>
        obtain ⟨hk3, hi3⟩ := hp
        have hl3 := hk3.same _ _ hl2 rfl
        refine ⟨_, _, run_endRound (some .ret) hl3, .inr ⟨rfl, ⟨hkeepx _ _ hi3 (below_put _ _ _ _ _ (by omega) hl3), ?_, ?_⟩⟩⟩
        · rw [World.putObj_heap_same (Array.getElem?_eq_some_iff.1 hl3).1, hrec]; rfl
        · exact (World.putObj_heap_other (by omega)).trans (hk3.same _ _ hk2 rfl)
      | exit id => exact hp.elim
      | goto t => exact hp.elim
      | panic ch => exact hp.elim
      | outgrown => exact hp.elim
    · rintro e W2 ⟨⟨u, rfl⟩, (⟨v, hi, hl, hk⟩ | ⟨hi, hl, hk⟩)⟩
      · exact ⟨none, _, by have := run_endLoop (P := Tryz.prog) hl (by rw [hrec]; simp); rw [hrec] at this; exact this, hdone v _ (hkeep _ _ _ _ hi (below_put _ _ _ _ _ (by omega) hl)) ((World.putObj_heap_other (by omega)).trans hk)⟩
      · exact ⟨some .ret, _, by have := run_endLoop (P := Tryz.prog) hl (by rw [hrec]; simp); rw [hrec] at this; exact this, hstop _ (hkeepx _ _ hi (below_put _ _ _ _ _ (by omega) hl)) ((World.putObj_heap_other (by omega)).trans hk)⟩

set_option maxRecDepth 100000 in
set_option maxHeartbeats 4000000 in
theorem right_is (bg dg s : ByteArray) (ba : Int) (hs : s.size ≤ 1000000) (hd : dg.size ≤ 1000) (hda : ∀ (j : Nat) b, dg.data.toList[j]? = some b → b.toNat < 128) (w : World) :
    Calls Tryz.prog 45 #[.agg #[.string bg, .int .i64 ba, .string dg], .string s] w fun e w' => e = .returned (.bool (rightB dg.data.toList s.data.toList)) ∧ Below w.heap.size w w' := by
  refine (callsIn_wide (n := 5)).1 ?_
  refine callsIn_of_wp_marks Tryz.func45 rfl trivial ?_ rfl
  simp only [Tryz.ntmps45, List.size_toArray, List.length_cons, List.length_nil, Nat.reduceAdd, Nat.reduceSub, Array.replicate_succ, Array.replicate_zero, List.push_toArray, List.append_toArray, List.nil_append, List.cons_append]
  gi_wp2_with (refine ⟨trivial, ?_⟩; gi_at_call 61; refine ((callsIn_wide (n := 4)).2 (splitseq_is _ _ _)).mono ?_; rintro e w2 ⟨rfl, rfl⟩)
  obtain ⟨W0, hW0⟩ : ∃ W0, W0 = ((((w.alloc (.cells #[.string bg, .int .i64 ba, .string dg] 55)).alloc (.cells #[.bool false] 4)).alloc (.cells #[.string s] 9)).alloc (.cells #[.string ⟨#[95]⟩] 9)).alloc (.cells #[.int .i64 0] 3) := ⟨_, rfl⟩
  have hS0 : SJ w dg s W0 := by
    rw [hW0]
    refine ⟨?_, ?_, ?_, ?_, ?_, ?_, ?_, ?_, by simp⟩
    · exact (((((Below.refl _ w).alloc (Nat.le_refl _) _).alloc (by simp) _).alloc (by simp; omega) _).alloc (by simp; omega) _).alloc (by simp; omega) _
    · exact (cell_of (((((Below.heap_alloc _ _ _ (by simp <;> omega)).trans (Below.heap_alloc _ _ _ (by simp <;> omega))).trans (Below.heap_alloc _ _ _ (by simp <;> omega))).trans (Below.heap_alloc _ _ _ (by simp))).trans (World.alloc_heap_new w _)) rfl).1
    · exact (cell_of ((((Below.heap_alloc _ _ _ (by simp <;> omega)).trans (Below.heap_alloc _ _ _ (by simp <;> omega))).trans (Below.heap_alloc _ _ _ (by simp))).trans (by have := World.alloc_heap_new (w.alloc (.cells #[.string bg, .int .i64 ba, .string dg] 55)) (.cells #[.bool false] 4); simpa using this)) rfl).1
    · exact (cell_of ((((Below.heap_alloc _ _ _ (by simp <;> omega)).trans (Below.heap_alloc _ _ _ (by simp <;> omega))).trans (Below.heap_alloc _ _ _ (by simp))).trans (by have := World.alloc_heap_new (w.alloc (.cells #[.string bg, .int .i64 ba, .string dg] 55)) (.cells #[.bool false] 4); simpa using this)) (show #[Value.bool false][0]? = some (.bool false) from rfl)).2
    · exact (cell_of (((Below.heap_alloc _ _ _ (by simp <;> omega)).trans (Below.heap_alloc _ _ _ (by simp))).trans (by have := World.alloc_heap_new ((w.alloc (.cells #[.string bg, .int .i64 ba, .string dg] 55)).alloc (.cells #[.bool false] 4)) (.cells #[.string s] 9); simpa using this)) rfl).1
    · exact (cell_of (((Below.heap_alloc _ _ _ (by simp <;> omega)).trans (Below.heap_alloc _ _ _ (by simp))).trans (by have := World.alloc_heap_new ((w.alloc (.cells #[.string bg, .int .i64 ba, .string dg] 55)).alloc (.cells #[.bool false] 4)) (.cells #[.string s] 9); simpa using this)) (show #[Value.string s][0]? = some (.string s) from rfl)).2
    · exact (cell_of ((Below.heap_alloc _ _ _ (by simp)).trans (by have := World.alloc_heap_new (((w.alloc (.cells #[.string bg, .int .i64 ba, .string dg] 55)).alloc (.cells #[.bool false] 4)).alloc (.cells #[.string s] 9)) (.cells #[.string ⟨#[95]⟩] 9); simpa using this)) rfl).1
    · exact (cell_of (by have := World.alloc_heap_new ((((w.alloc (.cells #[.string bg, .int .i64 ba, .string dg] 55)).alloc (.cells #[.bool false] 4)).alloc (.cells #[.string s] 9)).alloc (.cells #[.string ⟨#[95]⟩] 9)) (.cells #[.int .i64 0] 3); simpa using this) rfl).1
  rw [← hW0]
  have hsz : w.heap.size + 5 ≤ W0.heap.size := hS0.len
  clear hW0
  have hT : ∀ (x : ByteArray) (hx : x.size ≤ 1000000) (W : World), CallsIn Fence.wide 2 Tryz.prog 62 #[.string x, .string dg] W fun e w' => e = .returned (.string ⟨(Lib.trimS x.data.toList dg.data.toList).toArray⟩) ∧ Below W.heap.size W w' :=
    fun x hx W => (callsIn_wide (n := 2)).2 (Any.strings_Trim_laid Tryz.lays160 (by kernel_rfl) x dg W (by omega) (by omega) hda)
  refine range_split rfl (bs := w.heap.size + 1 + 1) (bp := w.heap.size + 1 + 1 + 1) (bv := w.heap.size + 1 + 1 + 2) rfl s hs
    (fun pre v W => SJ w dg v W ∧ ∀ p ∈ pre, partB dg.data.toList p = true)
    (fun W => Below w.heap.size w W ∧ W.cell? ⟨w.heap.size + 1, 0, none⟩ = some (.bool false) ∧ rightB dg.data.toList s.data.toList = false)
    (fun pre v W h => ⟨h.1.str, h.1.strf, h.1.sep, h.1.sav⟩) (fun pre v v' W h => ⟨h.1.set v', h.2⟩) (fun pre v W W' h k => ⟨h.1.keep (k.mono hsz), h.2⟩)
    (fun W W' h k => ⟨h.1.trans (k.mono (by omega)), (k.cell (p := ⟨w.heap.size + 1, 0, none⟩) (by dsimp only; omega)).trans h.2.1, h.2.2⟩)
    ⟨hS0, fun p hp => by cases hp⟩
    (fun x => { tmps := #[.agg #[.string bg, .int .i64 ba, .string dg], .string s, .pointer (some ⟨w.heap.size, 0, none⟩), undef, .pointer (some ⟨w.heap.size + 1, 0, none⟩), .string x, .string s,
      .func (.func 117) #[] #[.pointer (some ⟨w.heap.size + 1 + 1 + 1, 0, none⟩), .pointer (some ⟨w.heap.size + 1 + 1, 0, none⟩), .pointer (some ⟨w.heap.size + 1 + 1 + 2, 0, none⟩)], .string x, undef, undef, undef, undef, undef, undef, undef, undef, undef], defers := [] })
    ?assign ?body ?done ?stop
  case assign =>
    intro l x W K hK
    gi_wp2
    exact hK
  case body =>
    rintro l pre v x W ⟨hS, hg⟩ hpx
    have hmem : x.data.toList ∈ spl s.data.toList := hpx.subset (by simp)
    have hxs : x.size ≤ s.size := spl_len _ _ hmem
    have c1 := hS.res; have c2 := hS.resf; have c3 := hS.dig
    have hTx := hT x (by omega)
    have hko : ∀ {A B : World}, Below A.heap.size A B → KeepsOthers A B := fun h => ⟨h.size, fun k o hk _ => (h.block k (Array.getElem?_eq_some_iff.1 hk).1).trans hk⟩
    by_cases hx0 : x.data.toList = []
    · have hr : rightB dg.data.toList s.data.toList = false := Bool.eq_false_iff.2 fun h => by
        have := List.all_eq_true.1 h _ hmem
        rw [hx0] at this; cases this
      have h0 : x.toList.isEmpty = true := by rw [ByteArray.toList_eq, hx0]; rfl
      gi_wp2
      refine ⟨trivial, ?_⟩
      gi_wp2
      exact ⟨KeepsOthers.setCell _ _ _, hS.low.setCell (p := ⟨w.heap.size + 1, 0, none⟩) (by dsimp only; omega) _, World.cell?_setCell_same' _ _ _ (by rw [c1]; rfl), hr⟩
    · have h0 : x.toList.isEmpty = false := by rw [ByteArray.toList_eq]; cases h : x.data.toList with
        | nil => exact absurd h hx0
        | cons _ _ => rfl
      obtain ⟨Z, hZ⟩ : ∃ Z : ByteArray, ⟨(Lib.trimS x.data.toList dg.data.toList).toArray⟩ = Z := ⟨_, rfl⟩
      rw [hZ] at hTx
      have hZl : Z.data.toList = Lib.trimS x.data.toList dg.data.toList := by rw [← hZ]
      cases hz : Z.toList.isEmpty
      · have hr : rightB dg.data.toList s.data.toList = false := Bool.eq_false_iff.2 fun h => by
          have h1 := List.all_eq_true.1 h _ hmem
          rw [partB, Bool.and_eq_true] at h1
          have h2 := (trim_nil x.data.toList dg.data.toList).2 (fun c hc => List.all_eq_true.1 h1.2 c hc)
          rw [ByteArray.toList_eq, hZl, h2] at hz; cases hz
        gi_wp2_with (refine ⟨trivial, ?_⟩; gi_at_call 62; refine (CallsIn.inRound l (hTx _)).mono ?_; rintro e w3 ⟨rfl, hb3⟩; have hS3 := hS.keep (hb3.mono hS.len); have d1 := hS3.res; have d2 := hS3.resf)
        exact ⟨(hko hb3).trans (KeepsOthers.setCell _ _ _), hS3.low.setCell (p := ⟨w.heap.size + 1, 0, none⟩) (by dsimp only; omega) _, World.cell?_setCell_same' _ _ _ (by rw [d1]; rfl), hr⟩
      · have hp : partB dg.data.toList x.data.toList = true := by
          have h1 : Lib.trimS x.data.toList dg.data.toList = [] := by
            rw [ByteArray.toList_eq, hZl] at hz
            simpa using hz
          rw [partB, Bool.and_eq_true]
          refine ⟨?_, List.all_eq_true.2 fun c hc => (trim_nil _ _).1 h1 c hc⟩
          rw [← ByteArray.toList_eq, h0]; rfl
        gi_wp2_with (refine ⟨trivial, ?_⟩; gi_at_call 62; refine (CallsIn.inRound l (hTx _)).mono ?_; rintro e w3 ⟨rfl, hb3⟩)
        refine ⟨hko hb3, hS.keep (hb3.mono hS.len), fun p hp' => ?_⟩
        rcases List.mem_append.1 hp' with h | h
        · exact hg p h
        · rw [List.mem_singleton] at h; subst h; exact hp
  case done =>
    rintro v W ⟨hS, hg⟩ hK
    have c1 := hS.res; have c2 := hS.resf
    have hr : rightB dg.data.toList s.data.toList = true := List.all_eq_true.2 hg
    gi_wp2
    have hK' := (KeepsOthers.setCell W ⟨w.heap.size + 1, 0, none⟩ (.bool true)).same _ _ hK rfl
    refine ⟨by simp, .inl ⟨_, _, rfl, run_takeDeferred hK', ?_⟩⟩
    have hc5 := cell_kept (World.cell?_setCell_same' W ⟨w.heap.size + 1, 0, none⟩ (.bool true) (by rw [c1]; rfl)) (grownBy_putObj' _ W0.heap.size (.deferred none)) (fun r e => by cases e; exact ⟨_, hK', rfl⟩)
    refine ⟨.bool true, ?_, by rw [hr], (hS.low.setCell (p := ⟨w.heap.size + 1, 0, none⟩) (by dsimp only; omega) _).trans (below_put _ _ _ _ _ (by omega) hK')⟩
    simp [results, Tryz.f45, go_sem, hc5]
  case stop =>
    rintro W ⟨hb, hc, hr⟩ hK
    gi_wp2
    refine ⟨by simp, .inl ⟨_, _, rfl, run_takeDeferred hK, ?_⟩⟩
    have hc5 := cell_kept hc (grownBy_putObj' _ W0.heap.size (.deferred none)) (fun r e => by cases e; exact ⟨_, hK, rfl⟩)
    refine ⟨.bool false, ?_, by rw [hr], hb.trans (below_put _ _ _ _ _ (by omega) hK)⟩
    simp [results, Tryz.f45, go_sem, hc5]

end Go.Proofs.YtncldnghhpdolaaGreatDoor
