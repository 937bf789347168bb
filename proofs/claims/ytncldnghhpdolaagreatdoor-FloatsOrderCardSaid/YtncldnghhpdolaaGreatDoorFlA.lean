/- Walks over package floats: special, digits, whole, power, cut, right; no statement of the seat is proved here. -/
import Derived.Test.YtncldnghhpdolaaGreatDoorDcG
import Derived.Test.YtncldnghhpdolaaGreatDoorInG
import Derived.Test.YtncldnghhpdolaaGreatDoorFlR
import Derived.Test.YtncldnghhpdolaaGreatDoorFlX
namespace Go.Proofs.YtncldnghhpdolaaGreatDoor
open Go.RowKit Go.Shelf
attribute [local go_sem] Oper.semAt_some

theorem sig_set (c : UInt8) : ([43, 45] : List UInt8).contains c = isSig c := by
  have := u8_allB (p := fun c => ([43, 45] : List UInt8).contains c == isSig c) (by decide +kernel) c
  simpa using this
theorem exp_set (c : UInt8) : ([101, 69] : List UInt8).contains c = isExp c := by
  have := u8_allB (p := fun c => ([101, 69] : List UInt8).contains c == isExp c) (by decide +kernel) c
  simpa using this
theorem dot_set (c : UInt8) : ([46] : List UInt8).contains c = isDot c := by
  have := u8_allB (p := fun c => ([46] : List UInt8).contains c == isDot c) (by decide +kernel) c
  simpa using this
theorem beq_lit {t : ByteArray} {l : List UInt8} (h : t.data.toList = l) : (t.toList == l) = true := by rw [ByteArray.toList_eq, h]; simp
theorem beq_litF {t : ByteArray} {l : List UInt8} (h : t.data.toList ≠ l) : (t.toList == l) = false := by rw [ByteArray.toList_eq]; simpa using h
theorem tl_is (s t : ByteArray) (ht : t.data.toList = s.data.toList.dropWhile isSig) (w : World) :
    Calls Tryz.prog 27 #[.string s, .string ⟨#[43, 45]⟩] w fun e w' => e = .returned (.string t) ∧ Below w.heap.size w w' := by
  refine (Any.strings_TrimLeft_laid Tryz.lays161 (by kernel_rfl) s ⟨#[43, 45]⟩ w (by decide) (ascii_of_all (by decide))).mono ?_
  rintro e w' ⟨rfl, hb⟩
  refine ⟨?_, hb⟩
  have : (⟨(Lib.trimLeftS s.data.toList [43, 45]).toArray⟩ : ByteArray) = t := by
    apply str_eq
    rw [ht]
    show s.data.toList.dropWhile _ = _
    congr 1
    funext c
    exact sig_set c
  rw [← this]

set_option maxRecDepth 100000 in
set_option maxHeartbeats 2000000 in
theorem special_is (s r : ByteArray) (hs : s.size ≤ 100000) (hr : r.data.toList = specL s.data.toList) (w : World) :
    Calls Tryz.prog 28 #[.string s] w fun e w' => e = .returned (.string r) ∧ Below w.heap.size w w' := by
  obtain ⟨t, ht⟩ := str_ex (s.data.toList.dropWhile isSig)
  have HT := Lib.hid (tl_is s t ht)
  have hl : s.data.toList.length = s.size := rfl
  unfold specL at hr
  rw [← ht] at hr
  by_cases h1 : t.data.toList = infL
  · rw [if_pos h1] at hr
    have b1 : (t.toList == [105, 110, 102]) = true := beq_lit h1
    by_cases h2 : 3 < s.size
    · have d1 : decide ((3 : Int) < (s.size : Int)) = true := decide_eq_true (by omega)
      have h0 : 0 < s.size := by omega
      have hh : s.data.toList.head? = some s[0] := head_at h0
      by_cases h3 : s[0] = 45
      · have d2 : (((s[0]'h0).toNat : Int) == 45) = true := by rw [h3]; rfl
        rw [if_pos ⟨by rw [hl]; exact h2, by rw [hh, h3]⟩] at hr
        obtain rfl : r = ⟨#[45, 105, 110, 102]⟩ := str_eq hr
        clear ht hr h1 hl hh h3
        go_enter Tryz.func28, Tryz.ntmps28
        go_wp2_with (go_at_call 27; refine (HT.out _).mono ?_; rintro e w' ⟨rfl, hb⟩)
        go_ret
        exact ⟨rfl, hb⟩
      · have d2 : (((s[0]'h0).toNat : Int) == 45) = false := beq_eq_false_iff_ne.2 (fun e => h3 (UInt8.toNat_inj.1 (by simpa using Int.ofNat.inj e)))
        rw [if_neg (by rintro ⟨_, e⟩; rw [hh] at e; exact h3 (Option.some.inj e))] at hr
        obtain rfl : r = ⟨#[105, 110, 102]⟩ := str_eq hr
        clear ht hr h1 hl hh h3
        go_enter Tryz.func28, Tryz.ntmps28
        go_wp2_with (go_at_call 27; refine (HT.out _).mono ?_; rintro e w' ⟨rfl, hb⟩)
        go_ret
        exact ⟨rfl, hb⟩
    · have d1 : decide ((3 : Int) < (s.size : Int)) = false := decide_eq_false (by omega)
      rw [if_neg (by rintro ⟨e, _⟩; rw [hl] at e; exact h2 e)] at hr
      obtain rfl : r = ⟨#[105, 110, 102]⟩ := str_eq hr
      clear ht hr h1 hl
      go_enter Tryz.func28, Tryz.ntmps28
      go_wp2_with (go_at_call 27; refine (HT.out _).mono ?_; rintro e w' ⟨rfl, hb⟩)
      go_ret
      exact ⟨rfl, hb⟩
  · rw [if_neg h1] at hr
    have b1 : (t.toList == [105, 110, 102]) = false := beq_litF h1
    by_cases h2 : t.data.toList = nanL
    · rw [if_pos h2] at hr
      have b2 : (t.toList == [110, 97, 110]) = true := beq_lit h2
      obtain rfl : r = ⟨#[110, 97, 110]⟩ := str_eq hr
      clear ht hr h1 hl h2
      go_enter Tryz.func28, Tryz.ntmps28
      go_wp2_with (go_at_call 27; refine (HT.out _).mono ?_; rintro e w' ⟨rfl, hb⟩)
      go_ret
      exact ⟨rfl, hb⟩
    · rw [if_neg h2] at hr
      have b2 : (t.toList == [110, 97, 110]) = false := beq_litF h2
      obtain rfl : r = ⟨#[]⟩ := str_eq hr
      clear ht hr h1 hl h2
      go_enter Tryz.func28, Tryz.ntmps28
      go_wp2_with (go_at_call 27; refine (HT.out _).mono ?_; rintro e w' ⟨rfl, hb⟩)
      go_ret
      exact ⟨rfl, hb⟩

set_option maxHeartbeats 1000000 in
theorem whole_is (s : ByteArray) (b : Bool) (hs : s.size ≤ 50000) (hb : decide ((readI s.data.toList).2 ≠ 3) = b) (w : World) (hG : Gl w) :
    Calls Tryz.prog 30 #[.string s] w fun e w' => e = .returned (.bool b) ∧ Below w.heap.size w w' := by
  obtain ⟨r, hr⟩ := str_ex (readI s.data.toList).1
  have HR := Lib.hid (fun w hG => intread_is s r (readI s.data.toList).2 hs (by rw [hr]) w hG)
  generalize (readI s.data.toList).2 = c at hb HR
  have d : (c != 3) = b := by rw [← hb]; by_cases h : c = 3 <;> simp [h]
  clear hb
  go_enter Tryz.func30, Tryz.ntmps30
  go_wp2_with (go_at_call 18; refine (HR.out _ hG).mono ?_; rintro e w' ⟨rfl, hb⟩)
  go_ret
  exact ⟨rfl, hb⟩

/-- All of four. -/
def all4 (a b c d : Bool) : Bool := a && (b && (c && d))
set_option maxHeartbeats 2000000 in
theorem right4 (a b c d v : Bool) (hv : all4 a b c d = v) (B k : Nat) (w : World) (h0 : w.cell? ⟨B, 0, none⟩ = some (.bool a)) (h1 : w.cell? ⟨B, 1, none⟩ = some (.bool b)) (h2 : w.cell? ⟨B, 2, none⟩ = some (.bool c)) (h3 : w.cell? ⟨B, 3, none⟩ = some (.bool d)) :
    Calls Tryz.prog 24 #[.slice (some ⟨B, 0, none⟩) 4 k] w fun x w' => x = .returned (.bool v) ∧ w' = w := by
  subst hv
  cases a
  · go_enter Tryz.func24, Tryz.ntmps24
    go_wp2
    refine wp_loop_rounds 5 ?_
    rw [rounds_succ]; go_wp2
    go_ret
    exact ⟨rfl, rfl⟩
  · cases b
    · go_enter Tryz.func24, Tryz.ntmps24
      go_wp2
      refine wp_loop_rounds 5 ?_
      rw [rounds_succ]; go_wp2
      rw [rounds_succ]; go_wp2
      go_ret
      exact ⟨rfl, rfl⟩
    · cases c
      · go_enter Tryz.func24, Tryz.ntmps24
        go_wp2
        refine wp_loop_rounds 5 ?_
        rw [rounds_succ]; go_wp2
        rw [rounds_succ]; go_wp2
        rw [rounds_succ]; go_wp2
        go_ret
        exact ⟨rfl, rfl⟩
      · cases d
        · go_enter Tryz.func24, Tryz.ntmps24
          go_wp2
          refine wp_loop_rounds 5 ?_
          rw [rounds_succ]; go_wp2
          rw [rounds_succ]; go_wp2
          rw [rounds_succ]; go_wp2
          rw [rounds_succ]; go_wp2
          go_ret
          exact ⟨rfl, rfl⟩
        · go_enter Tryz.func24, Tryz.ntmps24
          go_wp2
          refine wp_loop_rounds 5 ?_
          rw [rounds_succ]; go_wp2
          rw [rounds_succ]; go_wp2
          rw [rounds_succ]; go_wp2
          rw [rounds_succ]; go_wp2
          rw [rounds_succ]; go_wp2
          go_ret
          exact ⟨rfl, rfl⟩
set_option maxHeartbeats 2000000 in
theorem right2 (a b v : Bool) (hv : (a && b) = v) (B k : Nat) (w : World) (h0 : w.cell? ⟨B, 0, none⟩ = some (.bool a)) (h1 : w.cell? ⟨B, 1, none⟩ = some (.bool b)) :
    Calls Tryz.prog 24 #[.slice (some ⟨B, 0, none⟩) 2 k] w fun x w' => x = .returned (.bool v) ∧ w' = w := by
  subst hv
  cases a
  · go_enter Tryz.func24, Tryz.ntmps24
    go_wp2
    refine wp_loop_rounds 3 ?_
    rw [rounds_succ]; go_wp2
    go_ret
    exact ⟨rfl, rfl⟩
  · cases b
    · go_enter Tryz.func24, Tryz.ntmps24
      go_wp2
      refine wp_loop_rounds 3 ?_
      rw [rounds_succ]; go_wp2
      rw [rounds_succ]; go_wp2
      go_ret
      exact ⟨rfl, rfl⟩
    · go_enter Tryz.func24, Tryz.ntmps24
      go_wp2
      refine wp_loop_rounds 3 ?_
      rw [rounds_succ]; go_wp2
      rw [rounds_succ]; go_wp2
      rw [rounds_succ]; go_wp2
      go_ret
      exact ⟨rfl, rfl⟩

/-- Where a text is cut. -/
theorem cut_idx (p : UInt8 → Bool) (cs : List UInt8) (hp : ∀ c, cs.contains c = p c) (l : List UInt8) :
    (Lib.indexAny l cs = -1 ∧ cutL p l = (l, [], false)) ∨ ∃ i : Nat, Lib.indexAny l cs = (i : Int) ∧ i < l.length ∧ cutL p l = (l.take i, l.drop (i + 1), true) := by
  induction l with
  | nil => exact .inl ⟨rfl, rfl⟩
  | cons c r ih =>
    rw [Lib.indexAny, hp]
    cases hc : p c
    · have h1 : cutL p (c :: r) = if r.any p then (c :: (cutL p r).1, (cutL p r).2.1, (cutL p r).2.2) else (c :: r, [], false) := by
        unfold cutL
        rw [List.any_cons, hc, Bool.false_or, List.takeWhile_cons_of_pos (by rw [hc]; rfl), List.dropWhile_cons_of_pos (by rw [hc]; rfl)]
        split <;> rfl
      rw [h1]
      rcases ih with ⟨e1, e2⟩ | ⟨i, e1, e2, e3⟩
      · left
        have h2 : r.any p = false := by
          cases h : r.any p
          · rfl
          · have e4 := congrArg (fun x => x.2.2) e2
            unfold cutL at e4; rw [if_pos h] at e4; cases e4
        rw [h2, e1]
        exact ⟨rfl, rfl⟩
      · right
        have h2 : r.any p = true := by
          cases h : r.any p
          · have e4 := congrArg (fun x => x.2.2) e3
            unfold cutL at e4; rw [h] at e4; cases e4
          · rfl
        rw [h2, e1, e3]
        refine ⟨i + 1, ?_, by simp; omega, rfl⟩
        have : ((i : Int) == -1) = false := beq_eq_false_iff_ne.2 (by omega)
        simp [this]
    · right
      refine ⟨0, rfl, by simp, ?_⟩
      unfold cutL
      rw [List.any_cons, hc, Bool.true_or, if_pos rfl, List.takeWhile_cons_of_neg (by rw [hc]; simp), List.dropWhile_cons_of_neg (by rw [hc]; simp)]
      rfl
set_option maxRecDepth 100000 in
set_option maxHeartbeats 2000000 in
theorem cut_is (s cs A B : ByteArray) (t : Bool) (p : UInt8 → Bool) (hs : s.size ≤ 1000000) (hp : ∀ c, cs.data.toList.contains c = p c) (h : cutL p s.data.toList = (A.data.toList, B.data.toList, t))
    (hI : ∀ w, Calls Tryz.prog 41 #[.string s, .string cs] w fun e w' => e = .returned (.int .i64 (Lib.indexAny s.data.toList cs.data.toList)) ∧ Below w.heap.size w w') (w : World) :
    Calls Tryz.prog 29 #[.string s, .string cs] w fun e w' => e = .returned (.tuple #[.string A, .string B, .bool t]) ∧ Below w.heap.size w w' := by
  have hl : s.data.toList.length = s.size := rfl
  rcases cut_idx p cs.data.toList hp s.data.toList with ⟨e1, e2⟩ | ⟨i, e1, e2, e3⟩
  · rw [e1] at hI
    have HI := Lib.hid hI
    rw [e2] at h
    injection h with h1 h2
    injection h2 with h2 h3
    obtain rfl : s = A := str_eq h1
    obtain rfl : ⟨#[]⟩ = B := str_eq h2
    subst h3
    clear hI h1 h2 e1 e2 hp hl
    go_enter Tryz.func29, Tryz.ntmps29
    go_wp2_with (go_at_call 41; refine (HI.out _).mono ?_; rintro e w' ⟨rfl, hb⟩)
    exact bodyPost_ret (v := .tuple #[.string s, .string ⟨#[]⟩, .bool false]) (by simp [results, Tryz.f29, go_sem]) rfl ⟨rfl, hb⟩
  · rw [e1] at hI
    have HI := Lib.hid hI
    rw [e3] at h
    injection h with h1 h2
    injection h2 with h2 h3
    rw [hl] at e2
    obtain rfl : s.extract 0 i = A := str_eq (by rw [ext_list, ← h1]; simp)
    obtain rfl : s.extract (i + 1) s.size = B := str_eq (by rw [ext_end, ← h2])
    subst h3
    have s1 : (0 : Int) ≤ (i : Int) + 1 := by omega
    have s2 : (i : Int) + 1 ≤ (s.size : Int) := by omega
    have s3 : (i : Int) ≤ (s.size : Int) := by omega
    have d1 : decide ((i : Int) < 0) = false := decide_eq_false (by omega)
    clear hI h1 h2 e1 e3 hp hl
    go_enter Tryz.func29, Tryz.ntmps29
    go_wp2_with (go_at_call 41; refine (HI.out _).mono ?_; rintro e w' ⟨rfl, hb⟩)
    go_quiet (fail)
    go_wp2
    exact bodyPost_ret (v := .tuple #[.string (s.extract 0 i), .string (s.extract (i + 1) s.size), .bool true]) (by simp [results, Tryz.f29, go_sem]) rfl ⟨rfl, below_drewN hb _⟩

/-- What lies in memory while the parts come. -/
structure SD (w : World) (v : ByteArray) (W : World) : Prop where
  low : Below w.heap.size w W
  res : W.cell? ⟨w.heap.size, 0, none⟩ = some (.bool false)
  resf : W.frozen? ⟨w.heap.size, 0, none⟩ = false
  str : W.cell? ⟨w.heap.size + 1, 0, none⟩ = some (.string v)
  strf : W.frozen? ⟨w.heap.size + 1, 0, none⟩ = false
  sep : W.cell? ⟨w.heap.size + 1 + 1, 0, none⟩ = some (.string ⟨#[95]⟩)
  sav : W.cell? ⟨w.heap.size + 1 + 2, 0, none⟩ = some (.int .i64 0)
  len : w.heap.size + 4 ≤ W.heap.size
theorem SD.keep {w : World} {v : ByteArray} {W W' : World} (h : SD w v W) (k : Below (w.heap.size + 4) W W') : SD w v W' := by
  have hl := h.len
  have hs := k.size
  exact ⟨h.low.trans (k.mono (by omega)), (k.cell (p := ⟨w.heap.size, 0, none⟩) (by dsimp only; omega)).trans h.res,
    (k.frozen (p := ⟨w.heap.size, 0, none⟩) (by dsimp only; omega)).trans h.resf, (k.cell (p := ⟨w.heap.size + 1, 0, none⟩) (by dsimp only; omega)).trans h.str, (k.frozen (p := ⟨w.heap.size + 1, 0, none⟩) (by dsimp only; omega)).trans h.strf,
    (k.cell (p := ⟨w.heap.size + 1 + 1, 0, none⟩) (by dsimp only; omega)).trans h.sep, (k.cell (p := ⟨w.heap.size + 1 + 2, 0, none⟩) (by dsimp only; omega)).trans h.sav, by omega⟩
theorem SD.set {w : World} {v : ByteArray} {W : World} (h : SD w v W) (v' : ByteArray) : SD w v' (W.setCell ⟨w.heap.size + 1, 0, none⟩ (.string v')) := by
  have hne : ∀ (b o : Nat), b ≠ w.heap.size + 1 → (W.setCell ⟨w.heap.size + 1, 0, none⟩ (.string v')).cell? ⟨b, o, none⟩ = W.cell? ⟨b, o, none⟩ := fun b o hb => World.cell?_setCell_other _ _ _ _ (by intro e; injection e with e1; exact hb e1.symm)
  exact ⟨h.low.setCell (p := ⟨w.heap.size + 1, 0, none⟩) (by dsimp only; omega) _, (hne _ _ (by omega)).trans h.res, by rw [World.frozen?_setCell]; exact h.resf,
    World.cell?_setCell_same' _ _ _ (by rw [h.str]; rfl), by rw [World.frozen?_setCell]; exact h.strf, (hne _ _ (by omega)).trans h.sep, (hne _ _ (by omega)).trans h.sav, by have := h.len; simp; omega⟩

set_option maxRecDepth 100000 in
set_option maxHeartbeats 4000000 in
theorem digits_is (s : ByteArray) (b : Bool) (hs : s.size ≤ 1000000) (hb : digF s.data.toList = b) (w : World) :
    Calls Tryz.prog 31 #[.string s] w fun e w' => e = .returned (.bool b) ∧ Below w.heap.size w w' := by
  subst hb
  refine (callsIn_wide (n := 5)).1 ?_
  refine callsIn_of_wp_marks Tryz.func31 rfl trivial ?_ rfl
  simp only [Tryz.ntmps31, List.size_toArray, List.length_cons, List.length_nil, Nat.reduceAdd, Nat.reduceSub, Array.replicate_succ, Array.replicate_zero, List.push_toArray, List.append_toArray, List.nil_append, List.cons_append]
  gi_wp2_with (refine ⟨trivial, ?_⟩; gi_at_call 61; refine ((callsIn_wide (n := 4)).2 (splitseq_is _ _ _)).mono ?_; rintro e w2 ⟨rfl, rfl⟩)
  obtain ⟨W0, hW0⟩ : ∃ W0, W0 = (((w.alloc (.cells #[.bool false] 4)).alloc (.cells #[.string s] 9)).alloc (.cells #[.string ⟨#[95]⟩] 9)).alloc (.cells #[.int .i64 0] 3) := ⟨_, rfl⟩
  have hS0 : SD w s W0 := by
    rw [hW0]
    have r1 := World.alloc_heap_new w (.cells #[.bool false] 4)
    have r2 := World.alloc_heap_new (w.alloc (.cells #[.bool false] 4)) (.cells #[.string s] 9)
    have r3 := World.alloc_heap_new ((w.alloc (.cells #[.bool false] 4)).alloc (.cells #[.string s] 9)) (.cells #[.string ⟨#[95]⟩] 9)
    have r4 := World.alloc_heap_new (((w.alloc (.cells #[.bool false] 4)).alloc (.cells #[.string s] 9)).alloc (.cells #[.string ⟨#[95]⟩] 9)) (.cells #[.int .i64 0] 3)
    simp only [World.size_alloc] at r2 r3 r4
    have q1 := ((((Below.heap_alloc _ _ _ (by simp <;> omega)).trans (Below.heap_alloc _ _ _ (by simp <;> omega))).trans (Below.heap_alloc _ _ _ (by simp))).trans r1 : ((((w.alloc (.cells #[.bool false] 4)).alloc (.cells #[.string s] 9)).alloc (.cells #[.string ⟨#[95]⟩] 9)).alloc (.cells #[.int .i64 0] 3)).heap[w.heap.size]? = _)
    have q2 := (((Below.heap_alloc _ _ _ (by simp <;> omega)).trans (Below.heap_alloc _ _ _ (by simp))).trans r2 : ((((w.alloc (.cells #[.bool false] 4)).alloc (.cells #[.string s] 9)).alloc (.cells #[.string ⟨#[95]⟩] 9)).alloc (.cells #[.int .i64 0] 3)).heap[w.heap.size + 1]? = _)
    have q3 := ((Below.heap_alloc _ _ _ (by simp)).trans r3 : ((((w.alloc (.cells #[.bool false] 4)).alloc (.cells #[.string s] 9)).alloc (.cells #[.string ⟨#[95]⟩] 9)).alloc (.cells #[.int .i64 0] 3)).heap[w.heap.size + 1 + 1]? = _)
    refine ⟨?_, (cell_of q1 rfl).1, (cell_of q1 (show #[Value.bool false][0]? = some (.bool false) from rfl)).2, (cell_of q2 rfl).1, (cell_of q2 (show #[Value.string s][0]? = some (.string s) from rfl)).2, (cell_of q3 rfl).1, (cell_of r4 rfl).1, by simp⟩
    exact ((((Below.refl _ w).alloc (Nat.le_refl _) _).alloc (by simp) _).alloc (by simp; omega) _).alloc (by simp; omega) _
  rw [← hW0]
  have hsz : w.heap.size + 4 ≤ W0.heap.size := hS0.len
  clear hW0
  have hT : ∀ (x : ByteArray) (hx : x.size ≤ 1000000) (W : World), CallsIn Fence.wide 2 Tryz.prog 62 #[.string x, .string ⟨#[48, 49, 50, 51, 52, 53, 54, 55, 56, 57]⟩] W fun e w' => e = .returned (.string ⟨(Lib.trimS x.data.toList (dgs 10)).toArray⟩) ∧ Below W.heap.size W w' :=
    fun x hx W => (callsIn_wide (n := 2)).2 (Any.strings_Trim_laid Tryz.lays160 (by kernel_rfl) x ⟨#[48, 49, 50, 51, 52, 53, 54, 55, 56, 57]⟩ W (by omega) (by decide) (ascii_of_all (by decide)))
  refine range_split rfl (bs := w.heap.size + 1) (bp := w.heap.size + 1 + 1) (bv := w.heap.size + 1 + 2) rfl s hs
    (fun pre v W => SD w v W ∧ ∀ p ∈ pre, partB (dgs 10) p = true)
    (fun W => Below w.heap.size w W ∧ W.cell? ⟨w.heap.size, 0, none⟩ = some (.bool false) ∧ digF s.data.toList = false)
    (fun pre v W h => ⟨h.1.str, h.1.strf, h.1.sep, h.1.sav⟩) (fun pre v v' W h => ⟨h.1.set v', h.2⟩) (fun pre v W W' h k => ⟨h.1.keep (k.mono hsz), h.2⟩)
    (fun W W' h k => ⟨h.1.trans (k.mono (by omega)), (k.cell (p := ⟨w.heap.size, 0, none⟩) (by dsimp only; omega)).trans h.2.1, h.2.2⟩)
    ⟨hS0, fun p hp => by cases hp⟩
    (fun x => { tmps := #[.string s, undef, .pointer (some ⟨w.heap.size, 0, none⟩), .string x, .string s,
      .func (.func 117) #[] #[.pointer (some ⟨w.heap.size + 1 + 1, 0, none⟩), .pointer (some ⟨w.heap.size + 1, 0, none⟩), .pointer (some ⟨w.heap.size + 1 + 2, 0, none⟩)], .string x, undef, undef, undef, undef, undef, undef, undef], defers := [] })
    ?assign ?body ?done ?stop
  case assign =>
    intro l x W K hK
    gi_wp2
    exact hK
  case body =>
    rintro l pre v x W ⟨hS, hg⟩ hpx
    have hmem : x.data.toList ∈ spl s.data.toList := hpx.subset (by simp)
    have hxs : x.size ≤ s.size := spl_len _ _ hmem
    have c1 := hS.res; have c2 := hS.resf
    have hTx := hT x (by omega)
    have hko : ∀ {A B : World}, Below A.heap.size A B → KeepsOthers A B := fun h => ⟨h.size, fun k o hk _ => (h.block k (Array.getElem?_eq_some_iff.1 hk).1).trans hk⟩
    by_cases hx0 : x.data.toList = []
    · have hr : digF s.data.toList = false := Bool.eq_false_iff.2 fun h => by
        have := List.all_eq_true.1 h _ hmem
        rw [hx0] at this; cases this
      have h0 : x.toList.isEmpty = true := by rw [ByteArray.toList_eq, hx0]; rfl
      gi_wp2
      refine ⟨trivial, ?_⟩
      gi_wp2
      exact ⟨KeepsOthers.setCell _ _ _, hS.low.setCell (p := ⟨w.heap.size, 0, none⟩) (Nat.le_refl _) _, World.cell?_setCell_same' _ _ _ (by rw [c1]; rfl), hr⟩
    · have h0 : x.toList.isEmpty = false := by rw [ByteArray.toList_eq]; cases h : x.data.toList with
        | nil => exact absurd h hx0
        | cons _ _ => rfl
      obtain ⟨Z, hZ⟩ : ∃ Z : ByteArray, ⟨(Lib.trimS x.data.toList (dgs 10)).toArray⟩ = Z := ⟨_, rfl⟩
      rw [hZ] at hTx
      have hZl : Z.data.toList = Lib.trimS x.data.toList (dgs 10) := by rw [← hZ]
      cases hz : Z.toList.isEmpty
      · have hr : digF s.data.toList = false := Bool.eq_false_iff.2 fun h => by
          have h1 := List.all_eq_true.1 h _ hmem
          rw [partB, Bool.and_eq_true] at h1
          have h2 := (trim_nil x.data.toList (dgs 10)).2 (fun c hc => List.all_eq_true.1 h1.2 c hc)
          rw [ByteArray.toList_eq, hZl, h2] at hz; cases hz
        gi_wp2_with (refine ⟨trivial, ?_⟩; gi_at_call 62; refine (CallsIn.inRound l (hTx _)).mono ?_; rintro e w3 ⟨rfl, hb3⟩; have hS3 := hS.keep (hb3.mono hS.len); have d1 := hS3.res; have d2 := hS3.resf)
        exact ⟨(hko hb3).trans (KeepsOthers.setCell _ _ _), hS3.low.setCell (p := ⟨w.heap.size, 0, none⟩) (Nat.le_refl _) _, World.cell?_setCell_same' _ _ _ (by rw [d1]; rfl), hr⟩
      · have hp : partB (dgs 10) x.data.toList = true := by
          have h1 : Lib.trimS x.data.toList (dgs 10) = [] := by
            rw [ByteArray.toList_eq, hZl] at hz
            simpa using hz
          rw [partB, Bool.and_eq_true]
          refine ⟨?_, List.all_eq_true.2 fun c hc => (trim_nil _ _).1 h1 c hc⟩
          rw [← ByteArray.toList_eq, h0]; rfl
        gi_wp2_with (refine ⟨trivial, ?_⟩; gi_at_call 62; refine (CallsIn.inRound l (hTx _)).mono ?_; rintro e w3 ⟨rfl, hb3⟩)
        refine ⟨hko hb3, hS.keep (hb3.mono hS.len), fun p hp' => ?_⟩
        rcases List.mem_append.1 hp' with h | h
        · exact hg p h
        · rw [List.mem_singleton] at h; subst h; exact hp
  case done =>
    rintro v W ⟨hS, hg⟩ hK
    have c1 := hS.res; have c2 := hS.resf
    have hr : digF s.data.toList = true := List.all_eq_true.2 hg
    gi_wp2
    have hK' := (KeepsOthers.setCell W ⟨w.heap.size, 0, none⟩ (.bool true)).same _ _ hK rfl
    refine ⟨by simp, .inl ⟨_, _, rfl, run_takeDeferred hK', ?_⟩⟩
    have hc5 := cell_kept (World.cell?_setCell_same' W ⟨w.heap.size, 0, none⟩ (.bool true) (by rw [c1]; rfl)) (grownBy_putObj' _ W0.heap.size (.deferred none)) (fun r e => by cases e; exact ⟨_, hK', rfl⟩)
    refine ⟨.bool true, ?_, by rw [hr], (hS.low.setCell (p := ⟨w.heap.size, 0, none⟩) (Nat.le_refl _) _).trans (below_put _ _ _ _ _ (by omega) hK')⟩
    simp [results, Tryz.f31, go_sem, hc5]
  case stop =>
    rintro W ⟨hb, hc, hr⟩ hK
    gi_wp2
    refine ⟨by simp, .inl ⟨_, _, rfl, run_takeDeferred hK, ?_⟩⟩
    have hc5 := cell_kept hc (grownBy_putObj' _ W0.heap.size (.deferred none)) (fun r e => by cases e; exact ⟨_, hK, rfl⟩)
    refine ⟨.bool false, ?_, by rw [hr], hb.trans (below_put _ _ _ _ _ (by omega) hK)⟩
    simp [results, Tryz.f31, go_sem, hc5]

set_option maxHeartbeats 2000000 in
theorem fpower_is (s : ByteArray) (b : Bool) (hs : s.size ≤ 1000000) (hb : powF s.data.toList = b) (w : World) :
    Calls Tryz.prog 32 #[.string s] w fun e w' => e = .returned (.bool b) ∧ Below w.heap.size w w' := by
  unfold powF at hb
  by_cases h0 : 0 < s.size
  · have e0 := str_full h0
    have hc : hdB isSig s.data.toList = isSig s[0] := by
      have := head_at h0
      cases h : s.data.toList with
      | nil => rw [h] at this; cases this
      | cons c r => rw [h] at this; injection this with this; rw [← this]; rfl
    rw [hc] at hb
    have z1 : (0 : Int) ≤ 1 := by decide
    have z2 : (1 : Int) ≤ (s.size : Int) := by omega
    have HT := fun e w => digits_is (s.extract 1 s.size) (digF s.data.toList.tail) (by rw [ByteArray.size_extract]; omega) e w
    have e1 : (s.extract 1 s.size).data.toList = s.data.toList.tail := by rw [ext_end]; simp
    by_cases h1 : s[0] = 43
    · have g1 : (((s[0]'h0).toNat : Int) == 43) = true := by rw [h1]; rfl
      rw [h1] at hb
      have HC := Lib.hid (HT (by rw [e1]))
      rw [show digF s.data.toList.tail = b from hb] at HC
      clear hb hc HT e1 h1
      go_enter Tryz.func32, Tryz.ntmps32
      go_wp2_with (go_at_call 31; refine (HC.out _).mono ?_; rintro e w' ⟨rfl, hb⟩)
      go_ret
      exact ⟨rfl, hb⟩
    · have g1 : (((s[0]'h0).toNat : Int) == 43) = false := beq_eq_false_iff_ne.2 (fun e => h1 (UInt8.toNat_inj.1 (by simpa using Int.ofNat.inj e)))
      by_cases h2 : s[0] = 45
      · have g2 : (((s[0]'h0).toNat : Int) == 45) = true := by rw [h2]; rfl
        rw [h2] at hb
        have HC := Lib.hid (HT (by rw [e1]))
        rw [show digF s.data.toList.tail = b from hb] at HC
        clear hb hc HT e1 h1 h2
        go_enter Tryz.func32, Tryz.ntmps32
        go_wp2_with (go_at_call 31; refine (HC.out _).mono ?_; rintro e w' ⟨rfl, hb⟩)
        go_ret
        exact ⟨rfl, hb⟩
      · have g2 : (((s[0]'h0).toNat : Int) == 45) = false := beq_eq_false_iff_ne.2 (fun e => h2 (UInt8.toNat_inj.1 (by simpa using Int.ofNat.inj e)))
        have hn : isSig s[0] = false := by unfold isSig; simp [h1, h2]
        rw [hn, if_neg (by simp)] at hb
        have HC := Lib.hid (digits_is s b hs hb)
        clear hb hc HT e1 h1 h2 hn
        go_enter Tryz.func32, Tryz.ntmps32
        go_wp2_with (go_at_call 31; refine (HC.out _).mono ?_; rintro e w' ⟨rfl, hb⟩)
        go_ret
        exact ⟨rfl, hb⟩
  · have hn : s.data.toList = [] := List.length_eq_zero_iff.1 (by have : s.data.toList.length = s.size := rfl; omega)
    have e0 : s.toList.isEmpty = true := by rw [ByteArray.toList_eq, hn]; rfl
    have e1 : s.toList = [] := by rw [ByteArray.toList_eq, hn]
    have HC := Lib.hid (digits_is s b hs (by rw [hn] at hb ⊢; exact hb))
    clear hb hn
    go_enter Tryz.func32, Tryz.ntmps32
    go_wp2_with (go_at_call 31; refine (HC.out _).mono ?_; rintro e w' ⟨rfl, hb⟩)
    go_ret
    exact ⟨rfl, hb⟩

end Go.Proofs.YtncldnghhpdolaaGreatDoor
