/- Walks over package patterns: listed; no statement of the seat is proved here. -/
import Derived.Test.YtjnedbkbhoiopaaDoorPtJ
namespace Go.Proofs.YtjnedbkbhoiopaaDoor
open Go.RowKit

/-- A step's answer, its parts named. -/
def StepIs (w' : World) (X : ByteArray) (Y : Value) (Z : Bool) (m a b : Int) : Except Nat (Pat × Nat) → Prop
  | .ok (p, n) => X = ⟨p.text.toArray⟩ ∧ Z = p.any ∧ m = (n : Int) ∧ a = 0 ∧ b = 0 ∧ TK w' Y p
  | .error k => a = 3 ∧ b = (k : Int)
theorem StepIs.keep {w w' : World} {X : ByteArray} {Y : Value} {Z : Bool} {m a b : Int} {r : Except Nat (Pat × Nat)} (h : StepIs w X Y Z m a b r) (hb : Keeps w w') : StepIs w' X Y Z m a b r := by
  cases r with
  | ok x => obtain ⟨h1, h2, h3, h4, h5, h6⟩ := h; exact ⟨h1, h2, h3, h4, h5, h6.keep hb⟩
  | error k => exact h
theorem StepRes.flat {w' : World} {e : Ending} {r : Except Nat (Pat × Nat)} (h : StepRes w' e r) : ∃ X Y Z m a b, e = .returned (.tuple #[.agg #[.string X, Y, .bool Z], .int .i64 m, .agg #[.int .i64 a, .int .i64 b]]) ∧ OkF Y ∧ StepIs w' X Y Z m a b r := by
  cases r with
  | ok x =>
    obtain ⟨f, rfl, h⟩ := h
    exact ⟨_, _, _, _, _, _, rfl, .inl (tk_func h), rfl, rfl, rfl, rfl, rfl, h⟩
  | error k =>
    obtain ⟨s, f, b, m, rfl, h⟩ := h
    exact ⟨_, _, _, _, _, _, rfl, h, rfl, rfl⟩
theorem StepIs.res {w' : World} {X : ByteArray} {Y : Value} {Z : Bool} {m a b : Int} {r : Except Nat (Pat × Nat)} (h : StepIs w' X Y Z m a b r) (hY : OkF Y) : StepRes w' (.returned (.tuple #[.agg #[.string X, Y, .bool Z], .int .i64 m, .agg #[.int .i64 a, .int .i64 b]])) r := by
  cases r with
  | ok x =>
    obtain ⟨rfl, rfl, rfl, rfl, rfl, h6⟩ := h
    exact ⟨Y, rfl, h6⟩
  | error k =>
    obtain ⟨rfl, rfl⟩ := h
    exact ⟨_, _, _, _, rfl, hY⟩

theorem idA_is (D : ByteArray) (hD : D.size ≤ 1000000) (w : World) : Calls Tryd.prog 50 #[.string D, .string ⟨#[42]⟩, .func (.func 46) #[] #[]] w fun e w' => ∃ f, e = .returned (patV (.anyId D.data.toList) f) ∧ TK w' f (.anyId D.data.toList) ∧ Below w.heap.size w w' :=
  (id_is D ⟨#[42]⟩ hD (by decide) _ _ _ w).mono fun e w' ⟨h1, h2, h3, h4⟩ => ⟨_, h1, tk_anyId w' _ _ D h2 h3, h4⟩
theorem idS_is (D V S : ByteArray) (hD : D.size ≤ 1000000) (hS : S = ⟨(spellL V.data.toList).toArray⟩) (hl : S.size ≤ 3000000) (C : Nat) (w : World) (hC : SC w C V) : Calls Tryd.prog 50 #[.string D, .string S, .func (.func 58) #[] #[.pointer (some ⟨C, 0, none⟩)]] w fun e w' =>
    ∃ f, e = .returned (patV (.id D.data.toList V.data.toList) f) ∧ TK w' f (.id D.data.toList V.data.toList) ∧ Below w.heap.size w w' :=
  (id_is D S hD (by omega) _ _ _ w).mono fun e w' ⟨h1, h2, h3, h4⟩ => ⟨_, by rw [h1, hS]; rfl, tk_id w' _ _ C D V h2 h3 (hC.later h4), h4⟩

theorem KM.new' (w : World) (x y z : Value) : KM w ((w.alloc (.cells #[x, y, z] 65)).alloc (.cells #[.int .i64 0, .int .i64 0] 27)) x y z 0 0 :=
  ⟨(heap_new2 w _ _).1, (heap_new2 w _ _).2, below_new2 _ _ _⟩
/-- The step's block written. -/
theorem KM.setS {w W : World} {x y z : Value} {a b : Int} (h : KM w W x y z a b) (x' y' z' : Value) : KM w (((W.setCell ⟨w.heap.size, 0, none⟩ x').setCell ⟨w.heap.size, 1, none⟩ y').setCell ⟨w.heap.size, 2, none⟩ z') x' y' z' a b := by
  obtain ⟨h1, h2, h3⟩ := h
  refine ⟨?_, ?_, Below.three h3 (by omega) _ _ _⟩
  · unfold SB at *
    simp [World.setCell, Array.getElem?_modify, h1]
  · unfold FB at *
    rw [three_set _ _ _ _ _ (by omega)]; exact h2

theorem SB.set {w : World} {n : Nat} {x y z : Value} (h : SB w n x y z) (x' y' z' : Value) : SB (((w.setCell ⟨n, 0, none⟩ x').setCell ⟨n, 1, none⟩ y').setCell ⟨n, 2, none⟩ z') n x' y' z' := by
  unfold SB at *
  simp [World.setCell, Array.getElem?_modify, h]
theorem Keeps.three {w : World} {n : Nat} {x y z : Value} (h : SB w n x y z) (x' y' z' : Value) : Keeps w (((w.setCell ⟨n, 0, none⟩ x').setCell ⟨n, 1, none⟩ y').setCell ⟨n, 2, none⟩ z') := by
  have h1 : (w.setCell ⟨n, 0, none⟩ x').heap[n]? = some (.cells #[x', y, z] 65 (0, 0)) := by unfold SB at h; simp [World.setCell, Array.getElem?_modify, h]
  have h2 : ((w.setCell ⟨n, 0, none⟩ x').setCell ⟨n, 1, none⟩ y').heap[n]? = some (.cells #[x', y', z] 65 (0, 0)) := by unfold SB at h; simp [World.setCell, Array.getElem?_modify, h]
  exact ((Keeps.set h (by decide) (by decide) _).trans (Keeps.set h1 (by decide) (by decide) _)).trans (Keeps.set h2 (by decide) (by decide) _)
theorem Keeps.two {w : World} {n : Nat} {a b : Int} (h : FB w n a b) (u v : Value) : Keeps w ((w.setCell ⟨n, 0, none⟩ u).setCell ⟨n, 1, none⟩ v) := by
  have h1 : (w.setCell ⟨n, 0, none⟩ u).heap[n]? = some (.cells #[u, .int .i64 b] 27 (0, 0)) := by unfold FB at h; simp [World.setCell, Array.getElem?_modify, h]
  exact (Keeps.set h (by decide) (by decide) _).trans (Keeps.set h1 (by decide) (by decide) _)
theorem KS.keeps {w W : World} {x y z : Value} {a b : Int} (h : KM w W x y z a b) {x' y' z' u v : Value} : Keeps W (KS w W x' y' z' u v) :=
  (Keeps.three h.1 _ _ _).trans (Keeps.two (h.setS x' y' z').2.1 _ _)
set_option maxRecDepth 100000 in
set_option maxHeartbeats 8000000 in
theorem listed_star (s : ByteArray) (hs : s.size ≤ 1000000) (i : Nat) (hi : i ≤ s.size) (h1 : s.data.toList[i]? = some 42) (w : World) :
    Calls Tryd.prog 29 #[.string s, .int .i64 (i : Int)] w fun e w' => StepRes w' e (listedL s.data.toList i) ∧ Below w.heap.size w w' := by
  have P1 := Lib.hid (fun w => pre_one s i true (decide_eq_true h1) w)
  have hR : Hid (listedL s.data.toList i = closedL s.data.toList .anyAt (i + 1)) := by show _ = _; unfold listedL; rw [if_pos h1]
  clear h1
  have CL := Lib.hid (fun w => closed_is .anyAt (.func (.func 48) #[] #[]) s hs (i + 1) (by omega) w (tk_anyAt w))
  have hc : ((i + 1 : Nat) : Int) = (i : Int) + 1 := by omega
  rw [hc] at CL
  go_enter Tryd.func29, Tryd.ntmps29
  go_wp2_with (first
    | (go_at_call 43; (with_reducible refine (P1.out _).mono ?_); rintro x w1 ⟨rfl, rfl⟩)
    | (go_at_call 49; refine (CL.out _).mono ?_; rintro x w9 ⟨hr, hb'⟩; have M := (KM.new' w _ _ _).later hb'; obtain ⟨X, Y, Z, m', a, b, rfl, hY, hI⟩ := hr.flat; have HY := Lib.hid hY; have HI := Lib.hid hI; have hst := fun (w : World) (q : Addr) (md : Mode) => run_store Tryd.prog w q Y md hY.one; obtain ⟨⟨c0, c1, c2, d0, d1, d2, hlt⟩, f0, f1, g0, g1, hlt2⟩ := M.cells; have HM := Lib.hid M; clear M hb' hr hI hY; dsimp only))
  refine bodyPost_ret (v := .tuple #[.agg #[.string X, Y, .bool Z], .int .i64 m', .agg #[.int .i64 a, .int .i64 b]]) (by simp [results, Tryd.results29, go_sem, c0, c1, c2, f0, f1]) rfl ⟨?_, KS.below HM.out.2.2⟩
  rw [hR.out]
  exact (HI.out.keep (KS.keeps HM.out)).res HY.out
set_option maxRecDepth 100000 in
set_option maxHeartbeats 8000000 in
theorem listed_bad (s : ByteArray) (hs : s.size ≤ 1000000) (i : Nat) (hi : i ≤ s.size) (h1 : ¬ s.data.toList[i]? = some 42) (o : List UInt8) (n k : Nat) (hx : wordL (s.data.toList.drop i) = (o, n, some k)) (w : World) :
    Calls Tryd.prog 29 #[.string s, .int .i64 (i : Int)] w fun e w' => StepRes w' e (listedL s.data.toList i) ∧ Below w.heap.size w w' := by
  have P1 := Lib.hid (fun w => pre_one s i false (decide_eq_false h1) w)
  have hR : Hid (listedL s.data.toList i = .error (i + k)) := by show _ = _; unfold listedL; rw [if_neg h1, hx]
  obtain ⟨W, m, fa, fb, wi, hW, rfl, hfb⟩ := word_any s i hi hs o n (some k) hx
  have HFB := Lib.hid hfb
  have WI := Lib.hid wi
  have F1 := Lib.hid (fun w => fine_is 3 fb false rfl w)
  clear h1 hx wi hfb
  go_enter Tryd.func29, Tryd.ntmps29
  go_wp2_with (first | (go_at_call 43; (first | (with_reducible refine (P1.out _).mono ?_)); rintro x w' ⟨rfl, rfl⟩) | (go_at_call 33; (with_reducible refine (WI.out _).mono ?_); rintro x w1 ⟨rfl, hb'⟩; have M := (KM.new w).later hb'; obtain ⟨⟨c0, c1, c2, d0, d1, d2, hlt⟩, f0, f1, g0, g1, hlt2⟩ := M.cells; have HK1 := Lib.hid M; clear M hb') | (go_at_call 30; (with_reducible refine (F1.out _).mono ?_); rintro x w2 ⟨rfl, hb'⟩; have M := (HK1.out.setF _ _).later hb'; clear c0 c1 c2 d0 d1 d2 hlt f0 f1 g0 g1 hlt2; obtain ⟨⟨c0, c1, c2, d0, d1, d2, hlt⟩, f0, f1, g0, g1, hlt2⟩ := M.cells; have HK2 := Lib.hid M; clear M hb'))
  go_region
  all_goals (
    go_wp2
    rw [hR.out]
    exact bodyPost_ret (v := .tuple #[.agg #[.string ⟨#[]⟩, .nilFunc, .bool false], .int .i64 0, .agg #[.int .i64 3, .int .i64 fb]]) (by simp [results, Tryd.results29, go_sem, c0, c1, c2, f0, f1]) rfl ⟨⟨_, _, _, _, by rw [HFB.out], .inr rfl⟩, (KS.below HK2.out.2.2).drew⟩)
set_option maxRecDepth 100000 in
set_option maxHeartbeats 8000000 in
theorem listed_noeq (s : ByteArray) (hs : s.size ≤ 1000000) (i : Nat) (hi : i ≤ s.size) (h1 : ¬ s.data.toList[i]? = some 42) (o : List UInt8) (n : Nat) (hx : wordL (s.data.toList.drop i) = (o, n, none)) (h2 : ¬ s.data.toList[i + n]? = some 61) (w : World) :
    Calls Tryd.prog 29 #[.string s, .int .i64 (i : Int)] w fun e w' => StepRes w' e (listedL s.data.toList i) ∧ Below w.heap.size w w' := by
  have P1 := Lib.hid (fun w => pre_one s i false (decide_eq_false h1) w)
  obtain ⟨W, m, fa, fb, wi, hW, hWo, rfl, rfl, rfl⟩ := word_any s i hi hs o n none hx
  have hin : i + n ≤ s.size := by have := (word_le hx).1; simp at this; omega
  have WI := Lib.hid wi
  have F1 := Lib.hid (fun w => fine_is 0 0 true rfl w)
  have hR : Hid (listedL s.data.toList i = .error (i + n)) := by show _ = _; unfold listedL; rw [if_neg h1, hx]; exact if_neg h2
  obtain ⟨e, he⟩ : ∃ e : Nat, e = i + n := ⟨_, rfl⟩
  rw [← he] at h2 hin wi WI hR
  have hcase : e = s.size ∨ ∃ h : e < s.size, ((s[e].toNat : Int) != 61) = true := by
    rcases Nat.lt_or_ge e s.size with h | h
    · right
      refine ⟨h, ?_⟩
      simp only [bne_iff_ne, ne_eq]
      intro q
      exact h2 (by rw [get_str s e h]; congr 1; rw [← UInt8.toNat_inj]; exact Int.ofNat.inj q)
    · left; omega
  clear h1 hx wi h2 he
  rcases hcase with rfl | ⟨hlt, b1⟩
  all_goals (
    go_enter Tryd.func29, Tryd.ntmps29
    go_wp2_with (first | (go_at_call 43; (first | (with_reducible refine (P1.out _).mono ?_)); rintro x w' ⟨rfl, rfl⟩) | (go_at_call 33; (with_reducible refine (WI.out _).mono ?_); rintro x w1 ⟨rfl, hb'⟩; have M := (KM.new w).later hb'; obtain ⟨⟨c0, c1, c2, d0, d1, d2, hlt⟩, f0, f1, g0, g1, hlt2⟩ := M.cells; have HK1 := Lib.hid M; clear M hb') | (go_at_call 30; (with_reducible refine (F1.out _).mono ?_); rintro x w2 ⟨rfl, hb'⟩; have M := (HK1.out.setF _ _).later hb'; clear c0 c1 c2 d0 d1 d2 hlt f0 f1 g0 g1 hlt2; obtain ⟨⟨c0, c1, c2, d0, d1, d2, hlt⟩, f0, f1, g0, g1, hlt2⟩ := M.cells; have HK2 := Lib.hid M; clear M hb'))
    go_region_with ((go_at_call 26; (with_reducible refine (wrong_any _ _).mono ?_); rintro x w5 ⟨rfl, hb'⟩; have M := HK2.out.drew.later hb'; clear c0 c1 c2 d0 d1 d2 hlt f0 f1 g0 g1 hlt2; obtain ⟨⟨c0, c1, c2, d0, d1, d2, hlt⟩, f0, f1, g0, g1, hlt2⟩ := M.cells; have HK5 := Lib.hid M; clear M hb'))
    all_goals (
      go_wp2
      rw [hR.out]
      exact bodyPost_ret (v := .tuple #[.agg #[.string ⟨#[]⟩, .nilFunc, .bool false], .int .i64 0, .agg #[.int .i64 3, .int .i64 _]]) (by simp [results, Tryd.results29, go_sem, c0, c1, c2, f0, f1]) rfl ⟨⟨_, _, _, _, rfl, .inr rfl⟩, KS.below HK5.out.2.2⟩))
set_option maxRecDepth 100000 in
set_option maxHeartbeats 8000000 in
theorem listed_any (s : ByteArray) (hs : s.size ≤ 1000000) (i : Nat) (hi : i ≤ s.size) (h1 : ¬ s.data.toList[i]? = some 42) (o : List UInt8) (n : Nat) (hx : wordL (s.data.toList.drop i) = (o, n, none)) (h2 : s.data.toList[i + n]? = some 61) (h3 : s.data.toList[i + n + 1]? = some 42) (w : World) :
    Calls Tryd.prog 29 #[.string s, .int .i64 (i : Int)] w fun e w' => StepRes w' e (listedL s.data.toList i) ∧ Below w.heap.size w w' := by
  have P1 := Lib.hid (fun w => pre_one s i false (decide_eq_false h1) w)
  obtain ⟨W, m, fa, fb, wi, hW, hWo, rfl, rfl, rfl⟩ := word_any s i hi hs o n none hx
  have hin : i + n ≤ s.size := by have := (word_le hx).1; simp at this; omega
  have WI := Lib.hid wi
  have F1 := Lib.hid (fun w => fine_is 0 0 true rfl w)
  have hR : Hid (listedL s.data.toList i = closedL s.data.toList (.anyId o) (i + n + 2)) := by
    show _ = _; unfold listedL; rw [if_neg h1, hx]; exact (if_pos h2).trans (if_pos h3)
  obtain ⟨e, he⟩ : ∃ e : Nat, e = i + n := ⟨_, rfl⟩
  rw [← he] at h2 hin wi WI
  have hlt : e < s.size := by have := (List.getElem?_eq_some_iff.1 h2).1; simpa using this
  have b1 : ((s[e].toNat : Int) != 61) = false := by
    rw [get_str s e hlt] at h2; injection h2 with h2; rw [h2]; rfl
  have hc1 : e + 1 ≤ s.size := hlt
  rw [← he] at h3 hR
  have P2 := Lib.hid (fun w => pre_one s (e + 1) true (decide_eq_true h3) w)
  have ID := Lib.hid (fun w => idA_is W hW w)
  rw [← hWo] at hR
  have CL := Lib.hid (fun f w h => closed_is (.anyId W.data.toList) f s hs (e + 2) (by omega) w h)
  have hc : ((e + 2 : Nat) : Int) = (e : Int) + 2 := by omega
  rw [hc] at CL
  clear h1 hx wi h2 he h3 hWo
  go_enter Tryd.func29, Tryd.ntmps29
  go_wp2_with (first | (go_at_call 43; (first | (with_reducible refine (P1.out _).mono ?_) | (with_reducible refine (P2.out _).mono ?_)); rintro x w' ⟨rfl, rfl⟩) | (go_at_call 33; (with_reducible refine (WI.out _).mono ?_); rintro x w1 ⟨rfl, hb'⟩; have M := (KM.new w).later hb'; obtain ⟨⟨c0, c1, c2, d0, d1, d2, hlt⟩, f0, f1, g0, g1, hlt2⟩ := M.cells; have HK1 := Lib.hid M; clear M hb') | (go_at_call 30; (with_reducible refine (F1.out _).mono ?_); rintro x w2 ⟨rfl, hb'⟩; have M := (HK1.out.setF _ _).later hb'; clear c0 c1 c2 d0 d1 d2 hlt f0 f1 g0 g1 hlt2; obtain ⟨⟨c0, c1, c2, d0, d1, d2, hlt⟩, f0, f1, g0, g1, hlt2⟩ := M.cells; have HK2 := Lib.hid M; clear M hb') | (go_at_call 50; (with_reducible refine (ID.out _).mono ?_); rintro x w5 ⟨f, rfl, ht, hb'⟩; have M := HK2.out.later hb'; have HK5 := Lib.hid M; have HT := Lib.hid ht; clear M hb' ht; dsimp only) | (go_at_call 49; refine (CL.out _ _ HT.out).mono ?_; rintro x w9 ⟨hr, hb'⟩; have M := HK5.out.later hb'; obtain ⟨X, Y, Z, m', a, b, rfl, hY, hI⟩ := hr.flat; have HY := Lib.hid hY; have HI := Lib.hid hI; have hst := fun (w : World) (q : Addr) (md : Mode) => run_store Tryd.prog w q Y md hY.one; clear c0 c1 c2 d0 d1 d2 hlt f0 f1 g0 g1 hlt2; obtain ⟨⟨c0, c1, c2, d0, d1, d2, hlt⟩, f0, f1, g0, g1, hlt2⟩ := M.cells; have HM := Lib.hid M; clear M hb' hr hI hY; dsimp only))
  refine bodyPost_ret (v := .tuple #[.agg #[.string X, Y, .bool Z], .int .i64 m', .agg #[.int .i64 a, .int .i64 b]]) (by simp [results, Tryd.results29, go_sem, c0, c1, c2, f0, f1]) rfl ⟨?_, KS.below HM.out.2.2⟩
  rw [hR.out]
  exact (HI.out.keep (KS.keeps HM.out)).res HY.out
set_option maxRecDepth 100000 in
set_option maxHeartbeats 8000000 in
theorem listed_bad2 (s : ByteArray) (hs : s.size ≤ 1000000) (i : Nat) (hi : i ≤ s.size) (h1 : ¬ s.data.toList[i]? = some 42) (o : List UInt8) (n : Nat) (hx : wordL (s.data.toList.drop i) = (o, n, none)) (h2 : s.data.toList[i + n]? = some 61) (h3 : ¬ s.data.toList[i + n + 1]? = some 42) (v : List UInt8) (q k : Nat) (hy : wordL (s.data.toList.drop (i + n + 1)) = (v, q, some k)) (w : World) :
    Calls Tryd.prog 29 #[.string s, .int .i64 (i : Int)] w fun e w' => StepRes w' e (listedL s.data.toList i) ∧ Below w.heap.size w w' := by
  have P1 := Lib.hid (fun w => pre_one s i false (decide_eq_false h1) w)
  obtain ⟨W, m, fa, fb, wi, hW, hWo, rfl, rfl, rfl⟩ := word_any s i hi hs o n none hx
  have hin : i + n ≤ s.size := by have := (word_le hx).1; simp at this; omega
  have WI := Lib.hid wi
  have F1 := Lib.hid (fun w => fine_is 0 0 true rfl w)
  have hR : Hid (listedL s.data.toList i = .error (i + n + 1 + k)) := by
    show _ = _; unfold listedL; rw [if_neg h1, hx]; refine (if_pos h2).trans ((if_neg h3).trans ?_); rw [hy]
  obtain ⟨e, he⟩ : ∃ e : Nat, e = i + n := ⟨_, rfl⟩
  rw [← he] at h2 hin wi WI
  have hlt : e < s.size := by have := (List.getElem?_eq_some_iff.1 h2).1; simpa using this
  have b1 : ((s[e].toNat : Int) != 61) = false := by
    rw [get_str s e hlt] at h2; injection h2 with h2; rw [h2]; rfl
  have hc1 : e + 1 ≤ s.size := hlt
  rw [← he] at h3 hR hy
  have P2 := Lib.hid (fun w => pre_one s (e + 1) false (decide_eq_false h3) w)
  obtain ⟨V, m2, fa, fb, wj, hV, rfl, hfb⟩ := word_any s (e + 1) hc1 hs v q (some k) hy
  have hc : ((e + 1 : Nat) : Int) = (e : Int) + 1 := by omega
  rw [hc] at wj
  have WJ := Lib.hid wj
  have HFB := Lib.hid hfb
  have F2 := Lib.hid (fun w => fine_is 3 fb false rfl w)
  clear h1 hx wi h2 he h3 hWo hy wj hfb
  go_enter Tryd.func29, Tryd.ntmps29
  go_wp2_with (first | (go_at_call 43; (first | (with_reducible refine (P1.out _).mono ?_) | (with_reducible refine (P2.out _).mono ?_)); rintro x w' ⟨rfl, rfl⟩) | (go_at_call 33; (with_reducible refine (WI.out _).mono ?_); rintro x w1 ⟨rfl, hb'⟩; have M := (KM.new w).later hb'; obtain ⟨⟨c0, c1, c2, d0, d1, d2, hlt⟩, f0, f1, g0, g1, hlt2⟩ := M.cells; have HK1 := Lib.hid M; clear M hb') | (go_at_call 30; (with_reducible refine (F1.out _).mono ?_); rintro x w2 ⟨rfl, hb'⟩; have M := (HK1.out.setF _ _).later hb'; clear c0 c1 c2 d0 d1 d2 hlt f0 f1 g0 g1 hlt2; obtain ⟨⟨c0, c1, c2, d0, d1, d2, hlt⟩, f0, f1, g0, g1, hlt2⟩ := M.cells; have HK2 := Lib.hid M; clear M hb') | (go_at_call 33; (with_reducible refine (WJ.out _).mono ?_); rintro x w3 ⟨rfl, hb'⟩; have M := HK2.out.later hb'; clear c0 c1 c2 d0 d1 d2 hlt f0 f1 g0 g1 hlt2; obtain ⟨⟨c0, c1, c2, d0, d1, d2, hlt⟩, f0, f1, g0, g1, hlt2⟩ := M.cells; have HK3 := Lib.hid M; clear M hb') | (go_at_call 30; (with_reducible refine (F2.out _).mono ?_); rintro x w4 ⟨rfl, hb'⟩; have M := (HK3.out.setF _ _).later hb'; clear c0 c1 c2 d0 d1 d2 hlt f0 f1 g0 g1 hlt2; obtain ⟨⟨c0, c1, c2, d0, d1, d2, hlt⟩, f0, f1, g0, g1, hlt2⟩ := M.cells; have HK4 := Lib.hid M; clear M hb'))
  go_region
  all_goals (
    go_wp2
    rw [hR.out]
    exact bodyPost_ret (v := .tuple #[.agg #[.string ⟨#[]⟩, .nilFunc, .bool false], .int .i64 0, .agg #[.int .i64 3, .int .i64 fb]]) (by simp [results, Tryd.results29, go_sem, c0, c1, c2, f0, f1]) rfl ⟨⟨_, _, _, _, by rw [HFB.out], .inr rfl⟩, (KS.below HK4.out.2.2).drew⟩)
set_option maxRecDepth 100000 in
set_option maxHeartbeats 8000000 in
theorem listed_id (s : ByteArray) (hs : s.size ≤ 1000000) (i : Nat) (hi : i ≤ s.size) (h1 : ¬ s.data.toList[i]? = some 42) (o : List UInt8) (n : Nat) (hx : wordL (s.data.toList.drop i) = (o, n, none)) (h2 : s.data.toList[i + n]? = some 61) (h3 : ¬ s.data.toList[i + n + 1]? = some 42) (v : List UInt8) (q : Nat) (hy : wordL (s.data.toList.drop (i + n + 1)) = (v, q, none)) (w : World) :
    Calls Tryd.prog 29 #[.string s, .int .i64 (i : Int)] w fun e w' => StepRes w' e (listedL s.data.toList i) ∧ Below w.heap.size w w' := by
  have P1 := Lib.hid (fun w => pre_one s i false (decide_eq_false h1) w)
  obtain ⟨W, m, fa, fb, wi, hW, hWo, rfl, rfl, rfl⟩ := word_any s i hi hs o n none hx
  have hin : i + n ≤ s.size := by have := (word_le hx).1; simp at this; omega
  have WI := Lib.hid wi
  have F1 := Lib.hid (fun w => fine_is 0 0 true rfl w)
  have hR : Hid (listedL s.data.toList i = closedL s.data.toList (.id o v) (i + n + 1 + q)) := by
    show _ = _; unfold listedL; rw [if_neg h1, hx]; refine (if_pos h2).trans ((if_neg h3).trans ?_); rw [hy]
  obtain ⟨e, he⟩ : ∃ e : Nat, e = i + n := ⟨_, rfl⟩
  rw [← he] at h2 hin wi WI
  have hlt : e < s.size := by have := (List.getElem?_eq_some_iff.1 h2).1; simpa using this
  have b1 : ((s[e].toNat : Int) != 61) = false := by
    rw [get_str s e hlt] at h2; injection h2 with h2; rw [h2]; rfl
  have hc1 : e + 1 ≤ s.size := hlt
  rw [← he] at h3 hR hy
  have P2 := Lib.hid (fun w => pre_one s (e + 1) false (decide_eq_false h3) w)
  have hql : e + 1 + q ≤ s.size := by have := (word_le hy).1; simp at this; omega
  obtain ⟨V, m2, fa, fb, wj, hV, hVo, rfl, rfl, rfl⟩ := word_any s (e + 1) hc1 hs v q none hy
  obtain ⟨z, hz⟩ : ∃ z : Nat, z = e + 1 + q := ⟨_, rfl⟩
  rw [← hz] at hR wj hql
  have hc : ((e + 1 : Nat) : Int) = (e : Int) + 1 := by omega
  rw [hc] at wj
  have WJ := Lib.hid wj
  have F2 := Lib.hid (fun w => fine_is 0 0 true rfl w)
  obtain ⟨S, hS⟩ : ∃ S : ByteArray, S = ⟨(spellL V.data.toList).toArray⟩ := ⟨_, rfl⟩
  have SL : S.size ≤ 3000000 := by
    have hsl := spell_len V.data.toList
    have hsd : V.data.toList.length = V.size := by simp
    rw [hS]; show (spellL V.data.toList).toArray.size ≤ _
    simp; omega
  have sp := fun w => spell_is V hV w
  rw [← hS] at sp
  have SP := Lib.hid sp
  have SM := Lib.hid (fun w => same_sc V w)
  have ID := Lib.hid (fun C w h => idS_is W V S hW hS SL C w h)
  rw [← hWo, ← hVo] at hR
  have CL := Lib.hid (fun f w h => closed_is (.id W.data.toList V.data.toList) f s hs z (by omega) w h)
  clear h1 hx wi h2 he h3 hWo hy wj hz hVo hS sp
  go_enter Tryd.func29, Tryd.ntmps29
  go_wp2_with (first | (go_at_call 43; (first | (with_reducible refine (P1.out _).mono ?_) | (with_reducible refine (P2.out _).mono ?_)); rintro x w' ⟨rfl, rfl⟩) | (go_at_call 33; (with_reducible refine (WI.out _).mono ?_); rintro x w1 ⟨rfl, hb'⟩; have M := (KM.new w).later hb'; obtain ⟨⟨c0, c1, c2, d0, d1, d2, hlt⟩, f0, f1, g0, g1, hlt2⟩ := M.cells; have HK1 := Lib.hid M; clear M hb') | (go_at_call 30; (with_reducible refine (F1.out _).mono ?_); rintro x w2 ⟨rfl, hb'⟩; have M := (HK1.out.setF _ _).later hb'; clear c0 c1 c2 d0 d1 d2 hlt f0 f1 g0 g1 hlt2; obtain ⟨⟨c0, c1, c2, d0, d1, d2, hlt⟩, f0, f1, g0, g1, hlt2⟩ := M.cells; have HK2 := Lib.hid M; clear M hb') | (go_at_call 33; (with_reducible refine (WJ.out _).mono ?_); rintro x w3 ⟨rfl, hb'⟩; have M := HK2.out.later hb'; clear c0 c1 c2 d0 d1 d2 hlt f0 f1 g0 g1 hlt2; obtain ⟨⟨c0, c1, c2, d0, d1, d2, hlt⟩, f0, f1, g0, g1, hlt2⟩ := M.cells; have HK3 := Lib.hid M; clear M hb') | (go_at_call 30; (with_reducible refine (F2.out _).mono ?_); rintro x w4 ⟨rfl, hb'⟩; have M := (HK3.out.setF _ _).later hb'; clear c0 c1 c2 d0 d1 d2 hlt f0 f1 g0 g1 hlt2; obtain ⟨⟨c0, c1, c2, d0, d1, d2, hlt⟩, f0, f1, g0, g1, hlt2⟩ := M.cells; have HK4 := Lib.hid M; clear M hb') | (go_at_call 15; (with_reducible refine (SP.out _).mono ?_); rintro x w5 ⟨rfl, hb'⟩; have HK5 := Lib.hid (HK4.out.later hb'); clear hb') | (go_at_call 47; (with_reducible refine (SM.out _).mono ?_); rintro x w6 ⟨rfl, hc', hb'⟩; have HK6 := Lib.hid (HK5.out.later hb'); have HC6 := Lib.hid hc'; clear hb' hc') | (go_at_call 50; (with_reducible refine (ID.out _ _ HC6.out).mono ?_); rintro x w7 ⟨f, rfl, ht, hb'⟩; have HK7 := Lib.hid (HK6.out.later hb'); have HT := Lib.hid ht; clear hb' ht; dsimp only) | (go_at_call 49; refine (CL.out _ _ HT.out).mono ?_; rintro x w9 ⟨hr, hb'⟩; have M := HK7.out.later hb'; obtain ⟨X, Y, Z, m', a, b, rfl, hY, hI⟩ := hr.flat; have HY := Lib.hid hY; have HI := Lib.hid hI; have hst := fun (w : World) (q : Addr) (md : Mode) => run_store Tryd.prog w q Y md hY.one; clear c0 c1 c2 d0 d1 d2 hlt f0 f1 g0 g1 hlt2; obtain ⟨⟨c0, c1, c2, d0, d1, d2, hlt⟩, f0, f1, g0, g1, hlt2⟩ := M.cells; have HM := Lib.hid M; clear M hb' hr hI hY; dsimp only))
  refine bodyPost_ret (v := .tuple #[.agg #[.string X, Y, .bool Z], .int .i64 m', .agg #[.int .i64 a, .int .i64 b]]) (by simp [results, Tryd.results29, go_sem, c0, c1, c2, f0, f1]) rfl ⟨?_, KS.below HM.out.2.2⟩
  rw [hR.out]
  exact (HI.out.keep (KS.keeps HM.out)).res HY.out
theorem listed_is (s : ByteArray) (hs : s.size ≤ 1000000) (i : Nat) (hi : i ≤ s.size) (w : World) :
    Calls Tryd.prog 29 #[.string s, .int .i64 (i : Int)] w fun e w' => StepRes w' e (listedL s.data.toList i) ∧ Below w.heap.size w w' := by
  by_cases h1 : s.data.toList[i]? = some 42
  · exact listed_star s hs i hi h1 w
  · obtain ⟨⟨o, n, b⟩, hx⟩ : ∃ x, wordL (s.data.toList.drop i) = x := ⟨_, rfl⟩
    cases b with
    | some k => exact listed_bad s hs i hi h1 o n k hx w
    | none =>
      by_cases h2 : s.data.toList[i + n]? = some 61
      · by_cases h3 : s.data.toList[i + n + 1]? = some 42
        · exact listed_any s hs i hi h1 o n hx h2 h3 w
        · obtain ⟨⟨v, q, b⟩, hy⟩ : ∃ x, wordL (s.data.toList.drop (i + n + 1)) = x := ⟨_, rfl⟩
          cases b with
          | some k => exact listed_bad2 s hs i hi h1 o n hx h2 h3 v q k hy w
          | none => exact listed_id s hs i hi h1 o n hx h2 h3 v q hy w
      · exact listed_noeq s hs i hi h1 o n hx h2 w

end Go.Proofs.YtjnedbkbhoiopaaDoor
