/- Walks over package patterns: keyed; no statement of the seat is proved here. -/
import Derived.Test.YtjnedbkbhoiopaaDoorPtI
import Derived.Test.YtjnedbkbhoiopaaDoorPtC
import Derived.RegionTactic
import Derived.BigRegion
namespace Go.Proofs.YtjnedbkbhoiopaaDoor
open Go.RowKit

theorem has_two (l : List UInt8) (c d : UInt8) : Lib.hasPrefix l [c, d] = decide (l[0]? = some c ∧ l[1]? = some d) := by
  rw [Bool.eq_iff_iff, decide_eq_true_iff]
  unfold Lib.hasPrefix
  match l with
  | [] => simp
  | [a] => simp
  | a :: b :: t => simp; exact ⟨fun h => ⟨h.1.symm, h.2.symm⟩, fun h => ⟨h.1.symm, h.2.symm⟩⟩
theorem pre_two (s : ByteArray) (i : Nat) (x : Bool) (hx : decide (s.data.toList[i]? = some 42 ∧ s.data.toList[i + 1]? = some 42) = x) (w : World) :
    Calls Tryd.prog 43 #[.string (s.extract i s.size), .string ⟨#[42, 42]⟩] w fun e w' => e = .returned (.bool x) ∧ w = w' := by
  have h := Tryd.strings_HasPrefix (s.extract i s.size) ⟨#[42, 42]⟩ w
  rw [show (⟨#[42, 42]⟩ : ByteArray).data.toList = [42, 42] from rfl, has_two, Lib.extract_to_end, List.getElem?_drop, List.getElem?_drop, Nat.add_zero] at h
  subst hx
  exact h.mono fun _ _ ⟨h1, h2⟩ => ⟨h1, h2.symm⟩
theorem pre_one (s : ByteArray) (i : Nat) (x : Bool) (hx : decide (s.data.toList[i]? = some 42) = x) (w : World) :
    Calls Tryd.prog 43 #[.string (s.extract i s.size), .string ⟨#[42]⟩] w fun e w' => e = .returned (.bool x) ∧ w = w' := by
  have h := Tryd.strings_HasPrefix (s.extract i s.size) ⟨#[42]⟩ w
  rw [show (⟨#[42]⟩ : ByteArray).data.toList = [42] from rfl, has_one, Lib.extract_to_end, List.getElem?_drop, Nat.add_zero] at h
  subst hx
  exact h.mono fun _ _ ⟨h1, h2⟩ => ⟨h1, h2.symm⟩

/-- The blocks of a reader of a step: the step's, the fault's. -/
def KM (w W : World) (x y z : Value) (a b : Int) : Prop := SB W w.heap.size x y z ∧ FB W (w.heap.size + 1) a b ∧ Below w.heap.size w W
theorem KM.new (w : World) : KM w ((w.alloc (.cells #[.string ⟨#[]⟩, .nilFunc, .bool false] 65)).alloc (.cells #[.int .i64 0, .int .i64 0] 27)) (.string ⟨#[]⟩) .nilFunc (.bool false) 0 0 :=
  ⟨(heap_new2 w _ _).1, (heap_new2 w _ _).2, below_new2 _ _ _⟩
theorem KM.drew {w W : World} {x y z : Value} {a b : Int} (h : KM w W x y z a b) : KM w W.drew x y z a b := ⟨h.1, h.2.1, h.2.2.drew⟩
theorem KM.later {w W w1 : World} {x y z : Value} {a b : Int} (h : KM w W x y z a b) (hb : Below W.heap.size W w1) : KM w w1 x y z a b :=
  ⟨blk_later h.1 hb (blk_lt h.1), blk_later h.2.1 hb (blk_lt h.2.1), h.2.2.trans (hb.mono h.2.2.size)⟩
theorem KM.cells {w W : World} {x y z : Value} {a b : Int} (h : KM w W x y z a b) : (W.cell? ⟨w.heap.size, 0, none⟩ = some x ∧ W.cell? ⟨w.heap.size, 1, none⟩ = some y ∧ W.cell? ⟨w.heap.size, 2, none⟩ = some z ∧ W.frozen? ⟨w.heap.size, 0, none⟩ = false ∧ W.frozen? ⟨w.heap.size, 1, none⟩ = false ∧ W.frozen? ⟨w.heap.size, 2, none⟩ = false ∧ w.heap.size < W.heap.size) ∧
    (W.cell? ⟨w.heap.size + 1, 0, none⟩ = some (.int .i64 a) ∧ W.cell? ⟨w.heap.size + 1, 1, none⟩ = some (.int .i64 b) ∧ W.frozen? ⟨w.heap.size + 1, 0, none⟩ = false ∧ W.frozen? ⟨w.heap.size + 1, 1, none⟩ = false ∧ w.heap.size + 1 < W.heap.size) := ⟨h.1.cells, h.2.1.cells⟩

theorem KM.setF {w W : World} {x y z : Value} {a b : Int} (h : KM w W x y z a b) (c d : Int) : KM w ((W.setCell ⟨w.heap.size + 1, 0, none⟩ (.int .i64 c)).setCell ⟨w.heap.size + 1, 1, none⟩ (.int .i64 d)) x y z c d := by
  obtain ⟨h1, h2, h3⟩ := h
  refine ⟨?_, ?_, Below.two h3 (by omega) _ _⟩
  · unfold SB at *
    rw [Below.heap_setCell _ ⟨w.heap.size + 1, 1, none⟩ _ _ (by show w.heap.size ≠ w.heap.size + 1; omega), Below.heap_setCell _ ⟨w.heap.size + 1, 0, none⟩ _ _ (by show w.heap.size ≠ w.heap.size + 1; omega)]
    exact h1
  · unfold FB at *
    simp [World.setCell, Array.getElem?_modify, h2]
/-- Both blocks written. -/
def KS (w w1 : World) (x y z u v : Value) : World := ((((w1.setCell ⟨w.heap.size, 0, none⟩ x).setCell ⟨w.heap.size, 1, none⟩ y).setCell ⟨w.heap.size, 2, none⟩ z).setCell ⟨w.heap.size + 1, 0, none⟩ u).setCell ⟨w.heap.size + 1, 1, none⟩ v
theorem KS.heap {w w1 : World} {x y z u v : Value} {k : Nat} (h : w.heap.size + 1 < k) : (KS w w1 x y z u v).heap[k]? = w1.heap[k]? := by
  unfold KS
  rw [Below.heap_setCell _ ⟨w.heap.size + 1, 1, none⟩ _ k (by show k ≠ w.heap.size + 1; omega), Below.heap_setCell _ ⟨w.heap.size + 1, 0, none⟩ _ k (by show k ≠ w.heap.size + 1; omega), three_set _ _ _ _ _ (by omega)]
theorem KS.below {w w1 : World} {x y z u v : Value} (h : Below w.heap.size w w1) : Below w.heap.size w (KS w w1 x y z u v) := Below.two (Below.three h (Nat.le_refl _) _ _ _) (by omega) _ _
theorem KS.FV {w w1 : World} {x y z u v f : Value} {k : Nat} (h : FV w1 k f) (hk : w.heap.size + 1 < k) : FV (KS w w1 x y z u v) k f := (KS.heap hk).trans h
theorem KS.SC {w w1 : World} {x y z u v : Value} {f : ByteArray} {k : Nat} (h : SC w1 k f) (hk : w.heap.size + 1 < k) : SC (KS w w1 x y z u v) k f := (KS.heap hk).trans h

/-- What a word's answer has. -/
def WordIs (i : Nat) (o : List UInt8) (n : Nat) (W : ByteArray) (m fa fb : Int) : Option Nat → Prop
  | none => W.data.toList = o ∧ m = ((i + n : Nat) : Int) ∧ fa = 0 ∧ fb = 0
  | some k => fa = 3 ∧ fb = ((i + k : Nat) : Int)
theorem word_any (s : ByteArray) (i : Nat) (hi : i ≤ s.size) (hs : s.size ≤ 1000000) (o : List UInt8) (n : Nat) (b : Option Nat) (hx : wordL (s.data.toList.drop i) = (o, n, b)) :
    ∃ (W : ByteArray) (m fa fb : Int), (∀ w, Calls Tryd.prog 33 #[.string s, .int .i64 (i : Int)] w fun e w' => e = .returned (.tuple #[.string W, .int .i64 m, .agg #[.int .i64 fa, .int .i64 fb]]) ∧ Below w.heap.size w w') ∧ W.size ≤ 1000000 ∧ WordIs i o n W m fa fb b := by
  have hle2 := wordL_le _ (s.data.toList.drop i) (Nat.le_refl _)
  rw [hx] at hle2
  have wi := fun w => word_is s i hi hs o n b hx w
  cases b with
  | none => exact ⟨_, _, _, _, wi, by show o.toArray.size ≤ _; have h2 := hle2.2.1; have h3 := hle2.1; simp at h2 h3 ⊢; omega, rfl, rfl, rfl, rfl⟩
  | some k => exact ⟨_, _, _, _, wi, by show (#[] : Array UInt8).size ≤ _; simp, rfl, rfl⟩
def keyedW (i : Nat) (o : List UInt8) (n : Nat) : Option Nat → Except Nat (Pat × Nat)
  | none => .ok (.key o, i + n)
  | some k => .error (i + k)
theorem same_sc (s : ByteArray) (w : World) : Calls Tryd.prog 47 #[.string s] w fun e w' =>
    e = .returned (.func (.func 58) #[] #[.pointer (some ⟨w.heap.size, 0, none⟩)]) ∧ SC w' w.heap.size s ∧ Below w.heap.size w w' :=
  (same_is s w).mono fun e w' ⟨h1, h2⟩ => by subst h2; exact ⟨h1, heap_new1 w _, below_new1 w _⟩
theorem SC.later {w w' : World} {n : Nat} {s : ByteArray} (h : SC w n s) (hb : Below w.heap.size w w') : SC w' n s := blk_later h hb (blk_lt h)

theorem keyed_fin {w' : World} {i : Nat} {o : List UInt8} {n : Nat} {b : Option Nat} {W S : ByteArray} {m fa fb : Int} {B C : Nat} (hW : WordIs i o n W m fa fb b) (hS : S = ⟨(spellL W.data.toList).toArray⟩)
    (hf : FV w' B (.func (.func 58) #[] #[.pointer (some ⟨C, 0, none⟩)])) (hc : SC w' C W) :
    StepRes w' (.returned (.tuple #[.agg #[.string (⟨#[47]⟩ ++ S), .func (.func 57) #[] #[.pointer (some ⟨B, 0, none⟩)], .bool false], .int .i64 m, .agg #[.int .i64 fa, .int .i64 fb]])) (keyedW i o n b) := by
  cases b with
  | none =>
    obtain ⟨rfl, rfl, rfl, rfl⟩ := hW
    refine ⟨_, ?_, tk_key _ B C W hf hc⟩
    have : (⟨#[47]⟩ ++ S : ByteArray) = ⟨(Pat.key W.data.toList).text.toArray⟩ := by
      rw [hS]; apply bytes_ext; simp [Pat.text]
    rw [this]; rfl
  | some k =>
    obtain ⟨rfl, rfl⟩ := hW
    exact ⟨_, _, _, _, rfl, .inl ⟨_, _, rfl⟩⟩

set_option maxRecDepth 100000 in
set_option maxHeartbeats 4000000 in
theorem keyed_is (s : ByteArray) (hs : s.size ≤ 1000000) (i : Nat) (hi : i ≤ s.size) (w : World) :
    Calls Tryd.prog 28 #[.string s, .int .i64 (i : Int)] w fun e w' => StepRes w' e (keyedL s.data.toList i) ∧ Below w.heap.size w w' := by
  obtain ⟨p2, hp2⟩ : ∃ x, decide (s.data.toList[i]? = some 42 ∧ s.data.toList[i + 1]? = some 42) = x := ⟨_, rfl⟩
  obtain ⟨p1, hp1⟩ : ∃ x, decide (s.data.toList[i]? = some 42) = x := ⟨_, rfl⟩
  have P2 := Lib.hid (fun w => pre_two s i p2 hp2 w)
  have P1 := Lib.hid (fun w => pre_one s i p1 hp1 w)
  cases p1
  · have h1 : ¬ s.data.toList[i]? = some 42 := of_decide_eq_false hp1
    have e2 : p2 = false := by rw [← hp2]; exact decide_eq_false fun q => h1 q.1
    subst e2
    obtain ⟨⟨o, n, b⟩, hx⟩ : ∃ x, wordL (s.data.toList.drop i) = x := ⟨_, rfl⟩
    have HR : Hid (keyedL s.data.toList i = keyedW i o n b) := by
      show _ = _
      unfold keyedL; rw [if_neg h1, hx]; cases b <;> rfl
    obtain ⟨W, m, fa, fb, wi, hW, hm⟩ := word_any s i hi hs o n b hx
    have WI := Lib.hid wi
    have HM := Lib.hid hm
    obtain ⟨S, hS⟩ : ∃ S : ByteArray, S = ⟨(spellL W.data.toList).toArray⟩ := ⟨_, rfl⟩
    have SL : S.size ≤ 3000000 := by
      have hsl := spell_len W.data.toList
      have hsd : W.data.toList.length = W.size := by simp
      rw [hS]; show (spellL W.data.toList).toArray.size ≤ _
      simp; omega
    have sp := fun w => spell_is W hW w
    rw [← hS] at sp
    have SP := Lib.hid sp
    have HSe := Lib.hid hS
    have SM := Lib.hid (fun w => same_sc W w)
    have KI := Lib.hid (fun (B : Nat) w => key_is S (by omega) (.func 58) #[] #[.pointer (some ⟨B, 0, none⟩)] w)
    clear hx h1 hp1 hp2 wi hm hS sp
    go_enter Tryd.func28, Tryd.ntmps28
    go_wp2_with (first
      | (go_at_call 43; (first | (with_reducible refine (P2.out _).mono ?_) | (with_reducible refine (P1.out _).mono ?_)); rintro x w1 ⟨rfl, rfl⟩)
      | (go_at_call 33; (with_reducible refine (WI.out _).mono ?_); rintro x w1 ⟨rfl, hb'⟩; have M := (KM.new w).later hb'; obtain ⟨⟨c0, c1, c2, d0, d1, d2, hlt⟩, f0, f1, g0, g1, hlt2⟩ := M.cells; have HK := Lib.hid M; clear M hb'))
    have hk2 := HK.out.setF fa fb
    obtain ⟨W2, hW2⟩ : ∃ W2, W2 = (w1.setCell ⟨w.heap.size + 1, 0, none⟩ (.int .i64 fa)).setCell ⟨w.heap.size + 1, 1, none⟩ (.int .i64 fb) := ⟨_, rfl⟩
    rw [← hW2] at hk2 ⊢
    have HK0 := Lib.hid hk2
    clear hW2 HK c0 c1 c2 d0 d1 d2 hlt f0 f1 g0 g1 hlt2 hk2
    obtain ⟨⟨c0, c1, c2, d0, d1, d2, hlt⟩, f0, f1, g0, g1, hlt2⟩ := HK0.out.drew.cells
    go_region_with (first
      | (go_at_call 15; (with_reducible refine (SP.out _).mono ?_); rintro x w3 ⟨rfl, hb'⟩; have M1 := HK0.out.drew.later hb'; clear c0 c1 c2 d0 d1 d2 hlt f0 f1 g0 g1 hlt2; obtain ⟨⟨c0, c1, c2, d0, d1, d2, hlt⟩, f0, f1, g0, g1, hlt2⟩ := M1.cells; have HK1 := Lib.hid M1; clear M1 hb')
      | (go_at_call 47; (with_reducible refine (SM.out _).mono ?_); rintro x w4 ⟨rfl, hc, hb'⟩; have M1 := HK1.out.later hb'; clear c0 c1 c2 d0 d1 d2 hlt f0 f1 g0 g1 hlt2; obtain ⟨⟨c0, c1, c2, d0, d1, d2, hlt⟩, f0, f1, g0, g1, hlt2⟩ := M1.cells; have HK2 := Lib.hid M1; have HC := Lib.hid hc; clear M1 hb' hc)
      | (go_at_call 45; (with_reducible refine (KI.out _ _).mono ?_); rintro x w5 ⟨rfl, hf, hb'⟩; have M1 := HK2.out.later hb'; have hc := HC.out.later hb'; clear c0 c1 c2 d0 d1 d2 hlt f0 f1 g0 g1 hlt2; obtain ⟨⟨c0, c1, c2, d0, d1, d2, hlt⟩, f0, f1, g0, g1, hlt2⟩ := M1.cells; have HK3 := Lib.hid M1; have HC3 := Lib.hid hc; have HF3 := Lib.hid hf; clear M1 hb' hc hf))
    all_goals (
      go_wp2
      refine bodyPost_ret (v := .tuple #[.agg #[.string (⟨#[47]⟩ ++ S), .func (.func 57) #[] #[.pointer (some ⟨w4.heap.size, 0, none⟩)], .bool false], .int .i64 m, .agg #[.int .i64 fa, .int .i64 fb]]) (by simp [results, Tryd.results28, go_sem, c0, c1, c2, f0, f1]) rfl ?_
      rw [HR.out]
      exact ⟨keyed_fin HM.out HSe.out (KS.FV HF3.out (blk_lt HK2.out.2.1)) (KS.SC HC3.out (blk_lt HK1.out.2.1)), KS.below HK3.out.2.2⟩)
  · have h1 : s.data.toList[i]? = some 42 := of_decide_eq_true hp1
    cases p2
    · have h2 : ¬ s.data.toList[i + 1]? = some 42 := by intro q; rw [decide_eq_true (⟨h1, q⟩ : _ ∧ _)] at hp2; cases hp2
      have hR : Hid (keyedL s.data.toList i = .ok (.anyKey, i + 1)) := by show _ = _; unfold keyedL; rw [if_pos h1, if_neg h2]
      clear h1 h2 hp1 hp2
      have hwr : IntKind.i64.wrap ((i : Int) + 1) = (i : Int) + 1 := by simp [IntKind.wrap_i64]; omega
      have KI := Lib.hid (fun w => key_is ⟨#[42]⟩ (by decide) (.func 46) #[] #[] w)
      go_enter Tryd.func28, Tryd.ntmps28
      go_wp2_with (first
        | (go_at_call 43; (first | (with_reducible refine (P2.out _).mono ?_) | (with_reducible refine (P1.out _).mono ?_)); rintro x w1 ⟨rfl, rfl⟩))
      go_region_with (go_at_call 45; (with_reducible refine (KI.out _).mono ?_); rintro x w1 ⟨rfl, hF, hb'⟩; have M := (KM.new w).drew.later hb'; obtain ⟨⟨c0, c1, c2, d0, d1, d2, hlt⟩, f0, f1, g0, g1, hlt2⟩ := M.cells; have HM := Lib.hid M; have HF := Lib.hid hF; clear M hF hb')
      all_goals (
        go_wp2
        refine bodyPost_ret (v := .tuple #[.agg #[.string (⟨#[47]⟩ ++ ⟨#[42]⟩), .func (.func 57) #[] #[.pointer (some ⟨w.heap.size + 1 + 1, 0, none⟩)], .bool false], .int .i64 ((i : Int) + 1), .agg #[.int .i64 0, .int .i64 0]]) (by simp [results, Tryd.results28, go_sem, c0, c1, c2, f0, f1]) rfl ?_
        rw [hR.out]
        exact ⟨⟨_, rfl, tk_anyKey _ _ (KS.FV (by have := HF.out; simpa using this) (by omega))⟩, KS.below HM.out.2.2⟩)
    · have h2 : s.data.toList[i + 1]? = some 42 := by have := of_decide_eq_true hp2; exact this.2
      have hR : Hid (keyedL s.data.toList i = .ok (.stars, i + 2)) := by show _ = _; unfold keyedL; rw [if_pos h1, if_pos h2]
      clear h1 h2 hp1 hp2
      go_enter Tryd.func28, Tryd.ntmps28
      go_wp2_with (first
        | (go_at_call 43; (first | (with_reducible refine (P2.out _).mono ?_) | (with_reducible refine (P1.out _).mono ?_)); rintro x w1 ⟨rfl, rfl⟩))
      go_region
      go_wp2
      have hb := below_new2 w (.cells #[.string ⟨#[47, 42, 42]⟩, .func (.func 44) #[] #[], .bool true] 65) (.cells #[.int .i64 0, .int .i64 0] 27)
      refine bodyPost_ret (v := .tuple #[.agg #[.string ⟨#[47, 42, 42]⟩, .func (.func 44) #[] #[], .bool true], .int .i64 ((i : Int) + 2), .agg #[.int .i64 0, .int .i64 0]]) (by simp [results, Tryd.results28, go_sem]) rfl ?_
      rw [hR.out]
      exact ⟨⟨_, rfl, tk_stars _⟩, hb.drew⟩

end Go.Proofs.YtjnedbkbhoiopaaDoor
