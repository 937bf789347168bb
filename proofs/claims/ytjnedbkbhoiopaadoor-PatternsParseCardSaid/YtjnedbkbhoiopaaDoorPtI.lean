/- Walks over package patterns: id, closed; no statement of the seat is proved here. -/
import Derived.Test.YtjnedbkbhoiopaaDoorPtH
namespace Go.Proofs.YtjnedbkbhoiopaaDoor
open Go.RowKit

/-- A pattern's step as a value. -/
def patV (p : Pat) (f : Value) : Value := .agg #[.string ⟨p.text.toArray⟩, f, .bool p.any]
def SB (w : World) (n : Nat) (x y z : Value) : Prop := w.heap[n]? = some (.cells #[x, y, z] 65 (0, 0))
theorem SB.cells {w : World} {n : Nat} {x y z : Value} (h : SB w n x y z) : w.cell? ⟨n, 0, none⟩ = some x ∧ w.cell? ⟨n, 1, none⟩ = some y ∧ w.cell? ⟨n, 2, none⟩ = some z ∧ w.frozen? ⟨n, 0, none⟩ = false ∧ w.frozen? ⟨n, 1, none⟩ = false ∧ w.frozen? ⟨n, 2, none⟩ = false ∧ n < w.heap.size :=
  ⟨blk_cell h 0, blk_cell h 1, blk_cell h 2, blk_frozen h 0, blk_frozen h 1, blk_frozen h 2, blk_lt h⟩

theorem bytes_ext {a b : ByteArray} (h : a.data.toList = b.data.toList) : a = b := by
  cases a; cases b; simpa using h
theorem three_set (w : World) (n : Nat) (a b c : Value) {k : Nat} (h : k ≠ n) : (((w.setCell ⟨n, 0, none⟩ a).setCell ⟨n, 1, none⟩ b).setCell ⟨n, 2, none⟩ c).heap[k]? = w.heap[k]? := by
  rw [Below.heap_setCell _ ⟨n, 2, none⟩ _ k h, Below.heap_setCell _ ⟨n, 1, none⟩ _ k h, Below.heap_setCell _ ⟨n, 0, none⟩ _ k h]
theorem Below.three {B : Nat} {w w' : World} (h : Below B w w') {n : Nat} (hn : B ≤ n) (a b c : Value) : Below B w (((w'.setCell ⟨n, 0, none⟩ a).setCell ⟨n, 1, none⟩ b).setCell ⟨n, 2, none⟩ c) :=
  ((h.setCell (p := ⟨n, 0, none⟩) hn a).setCell (p := ⟨n, 1, none⟩) hn b).setCell (p := ⟨n, 2, none⟩) hn c
theorem id_mem {w w1 : World} {d : ByteArray} {f : Value}
    (hb1 : Below (((w.alloc (.cells #[.string d] 9)).alloc (.cells #[f] 95)).alloc (.cells #[.string ⟨#[]⟩, .nilFunc, .bool false] 65)).heap.size (((w.alloc (.cells #[.string d] 9)).alloc (.cells #[f] 95)).alloc (.cells #[.string ⟨#[]⟩, .nilFunc, .bool false] 65)) w1) :
    SC w1 w.heap.size d ∧ FV w1 (w.heap.size + 1) f ∧ SB w1 (w.heap.size + 1 + 1) (.string ⟨#[]⟩) .nilFunc (.bool false) ∧ Below w.heap.size w w1 := by
  have hb0 : Below w.heap.size w (((w.alloc (.cells #[.string d] 9)).alloc (.cells #[f] 95)).alloc (.cells #[.string ⟨#[]⟩, .nilFunc, .bool false] 65)) := below_new3 _ _ _ _
  rw [size_new3] at hb1
  refine ⟨?_, ?_, ?_, hb0.trans (hb1.mono (by omega))⟩
  · exact blk_later (w := ((w.alloc _).alloc _).alloc _) (by rw [((below_new1 _ _).alloc (by simp) _).block w.heap.size (by simp)]; exact heap_new1 w _) hb1 (by omega)
  · exact blk_later (w := ((w.alloc _).alloc _).alloc _) (by rw [(below_new1 _ _).block (w.heap.size + 1) (by simp)]; exact (heap_new2 w _ _).2) hb1 (by omega)
  · exact blk_later (heap_new3 w _ _ _) hb1 (by omega)
set_option maxHeartbeats 1000000 in
theorem id_is (d t : ByteArray) (hd : d.size ≤ 1000000) (ht : t.size ≤ 10000000) (fn : Fn) (fs cs : Array Value) (w : World) : Calls Tryd.prog 50 #[.string d, .string t, .func fn fs cs] w fun e w' =>
    e = .returned (.agg #[.string ⟨(91 :: (spellL d.data.toList ++ 61 :: (t.data.toList ++ [93]))).toArray⟩, .func (.func 59) #[] #[.pointer (some ⟨w.heap.size, 0, none⟩), .pointer (some ⟨w.heap.size + 1, 0, none⟩)], .bool false]) ∧
      FV w' (w.heap.size + 1) (.func fn fs cs) ∧ SC w' w.heap.size d ∧ Below w.heap.size w w' := by
  have hmf : ∀ (fn : Fn) (first cap : Array Value) (w : World), (Instr.makeFunc fn first cap).run Tryd.prog w = .ok (.func fn first cap) w := fun _ _ _ _ => rfl
  have hsl := spell_len d.data.toList
  have hsd : d.data.toList.length = d.size := by simp
  obtain ⟨S, hS⟩ : ∃ S : ByteArray, S = ⟨(spellL d.data.toList).toArray⟩ := ⟨_, rfl⟩
  have SL : S.size ≤ 3000000 := by
    rw [hS]; show (spellL d.data.toList).toArray.size ≤ _
    simp; omega
  have hE : Hid (⟨#[91]⟩ ++ S ++ ⟨#[61]⟩ ++ t ++ ⟨#[93]⟩ = (⟨(91 :: (spellL d.data.toList ++ 61 :: (t.data.toList ++ [93]))).toArray⟩ : ByteArray)) := by
    show _ = _
    rw [hS]; apply bytes_ext; simp
  have sp := fun w => spell_is d hd w
  rw [← hS] at sp
  have SP := Lib.hid sp
  clear hsl hsd hS sp
  go_enter Tryd.func50, Tryd.ntmps50
  go_wp2_with (go_at_call 15; (with_reducible refine (SP.out _).mono ?_); rintro e w1 ⟨rfl, hb1⟩; obtain ⟨h1, h2, h3, h4⟩ := id_mem hb1; have H1 := Lib.hid h1; have H2 := Lib.hid h2; have HB := Lib.hid h4; obtain ⟨c0, c1, c2, d0, d1, d2, hlt⟩ := h3.cells; clear h1 h2 h3 h4 hb1)
  refine bodyPost_ret (v := .agg #[.string (⟨#[91]⟩ ++ S ++ ⟨#[61]⟩ ++ t ++ ⟨#[93]⟩), .func (.func 59) #[] #[.pointer (some ⟨w.heap.size, 0, none⟩), .pointer (some ⟨w.heap.size + 1, 0, none⟩)], .bool false]) (by simp [results, Tryd.results50, go_sem, c0, c1, c2]) rfl ?_
  refine ⟨by rw [hE.out], ?_, ?_, Below.three HB.out (by omega) _ _ _⟩
  · exact (three_set _ _ _ _ _ (by omega)).trans H2.out
  · exact (three_set _ _ _ _ _ (by omega)).trans H1.out

def OkF (Y : Value) : Prop := (∃ F cap, Y = .func (.func F) #[] cap) ∨ Y = .nilFunc
theorem OkF.one {Y : Value} (h : OkF Y) : Y.oneCell' = true := by
  rcases h with ⟨F, cap, rfl⟩ | rfl <;> rfl
/-- What a reader of a step answers. -/
def StepRes (w' : World) (e : Ending) : Except Nat (Pat × Nat) → Prop
  | .ok (p, n) => ∃ f, e = .returned (.tuple #[patV p f, .int .i64 (n : Int), .agg #[.int .i64 0, .int .i64 0]]) ∧ TK w' f p
  | .error k => ∃ s f b m, e = .returned (.tuple #[.agg #[.string s, f, .bool b], .int .i64 m, .agg #[.int .i64 3, .int .i64 (k : Int)]]) ∧ OkF f

theorem tk_func {w : World} {f : Value} {p : Pat} (h : TK w f p) : ∃ F cap, f = .func (.func F) #[] cap := by
  obtain ⟨F, cap, e, _⟩ := h; exact ⟨F, cap, e⟩
theorem get_str (s : ByteArray) (i : Nat) (h : i < s.size) : s.data.toList[i]? = some s[i] := by
  rw [List.getElem?_eq_getElem (by simpa using h)]; rfl
theorem get_str_none (s : ByteArray) (i : Nat) (h : s.size ≤ i) : s.data.toList[i]? = none := List.getElem?_eq_none (by simpa using h)
theorem closed_mem {w w1 : World} {x y z : Value}
    (hb1 : Below (((w.alloc (.cells #[x, y, z] 65)).alloc (.cells #[.string ⟨#[]⟩, .nilFunc, .bool false] 65)).alloc (.cells #[.int .i64 0, .int .i64 0] 27)).heap.size (((w.alloc (.cells #[x, y, z] 65)).alloc (.cells #[.string ⟨#[]⟩, .nilFunc, .bool false] 65)).alloc (.cells #[.int .i64 0, .int .i64 0] 27)) w1) :
    SB w1 (w.heap.size + 1) (.string ⟨#[]⟩) .nilFunc (.bool false) ∧ FB w1 (w.heap.size + 1 + 1) 0 0 ∧ Below w.heap.size w w1 := by
  have hb0 : Below w.heap.size w (((w.alloc (.cells #[x, y, z] 65)).alloc (.cells #[.string ⟨#[]⟩, .nilFunc, .bool false] 65)).alloc (.cells #[.int .i64 0, .int .i64 0] 27)) := below_new3 _ _ _ _
  rw [size_new3] at hb1
  refine ⟨?_, ?_, hb0.trans (hb1.mono (by omega))⟩
  · exact blk_later (w := ((w.alloc _).alloc _).alloc _) (by rw [(below_new1 _ _).block (w.heap.size + 1) (by simp)]; exact (heap_new2 w _ _).2) hb1 (by omega)
  · exact blk_later (heap_new3 w _ _ _) hb1 (by omega)
theorem Below.two {B : Nat} {w w' : World} (h : Below B w w') {n : Nat} (hn : B ≤ n) (a b : Value) : Below B w ((w'.setCell ⟨n, 0, none⟩ a).setCell ⟨n, 1, none⟩ b) :=
  (h.setCell (p := ⟨n, 0, none⟩) hn a).setCell (p := ⟨n, 1, none⟩) hn b
set_option maxHeartbeats 1000000 in
theorem closed_is (p : Pat) (f : Value) (s : ByteArray) (_hs : s.size ≤ 1000000) (i : Nat) (hi : i ≤ 2000000) (w : World) (hf : TK w f p) :
    Calls Tryd.prog 49 #[patV p f, .string s, .int .i64 (i : Int)] w fun e w' => StepRes w' e (closedL s.data.toList p i) ∧ Below w.heap.size w w' := by
  obtain ⟨F, cap, rfl⟩ := tk_func hf
  have HT := Lib.hid hf; clear hf
  unfold patV
  obtain ⟨S, hS⟩ : ∃ S : ByteArray, S = ⟨p.text.toArray⟩ := ⟨_, rfl⟩
  obtain ⟨ab, hab⟩ : ∃ ab, ab = p.any := ⟨_, rfl⟩
  rw [← hS, ← hab]
  have HS := Lib.hid hS; have HA := Lib.hid hab
  clear hS hab
  by_cases h : i < s.size ∧ s.data.toList[i]? = some 93
  · have hR : Hid (closedL s.data.toList p i = .ok (p, i + 1)) := by show _ = _; unfold closedL; rw [if_pos h.2]
    obtain ⟨h1, h2⟩ := h
    have b1 : ((s[i].toNat : Int) != 93) = false := by
      rw [get_str s i h1] at h2; injection h2 with h2; rw [h2]; rfl
    clear h2
    go_enter Tryd.func49, Tryd.ntmps49
    go_wp2
    rw [hR.out]
    refine bodyPost_ret (v := .tuple #[.agg #[.string S, .func (.func F) #[] cap, .bool ab], .int .i64 ((i : Int) + 1), .agg #[.int .i64 0, .int .i64 0]]) (by simp [results, Tryd.results49, go_sem]) rfl ?_
    have hb := below_new3 w (.cells #[.string S, .func (.func F) #[] cap, .bool ab] 65) (.cells #[.string S, .func (.func F) #[] cap, .bool ab] 65) (.cells #[.int .i64 0, .int .i64 0] 27)
    exact ⟨⟨_, by unfold patV; rw [← HS.out, ← HA.out]; rfl, HT.out.later hb⟩, hb⟩
  · have hR : Hid (closedL s.data.toList p i = .error i) := by
      show _ = _; unfold closedL; rw [if_neg]
      intro h2
      exact h ⟨by have := (List.getElem?_eq_some_iff.1 h2).1; simpa using this, h2⟩
    have fin : ∀ {w1 : World}, Below w.heap.size w w1 → (StepRes ((((w1.setCell ⟨w.heap.size + 1, 0, none⟩ (.string ⟨#[]⟩)).setCell ⟨w.heap.size + 1, 1, none⟩ .nilFunc).setCell ⟨w.heap.size + 1, 2, none⟩ (.bool false)).setCell ⟨w.heap.size + 1 + 1, 0, none⟩ (.int .i64 3) |>.setCell ⟨w.heap.size + 1 + 1, 1, none⟩ (.int .i64 (i : Int)))
        (.returned (.tuple #[.agg #[.string ⟨#[]⟩, .nilFunc, .bool false], .int .i64 0, .agg #[.int .i64 3, .int .i64 (i : Int)]])) (closedL s.data.toList p i) ∧
        Below w.heap.size w ((((w1.setCell ⟨w.heap.size + 1, 0, none⟩ (.string ⟨#[]⟩)).setCell ⟨w.heap.size + 1, 1, none⟩ .nilFunc).setCell ⟨w.heap.size + 1, 2, none⟩ (.bool false)).setCell ⟨w.heap.size + 1 + 1, 0, none⟩ (.int .i64 3) |>.setCell ⟨w.heap.size + 1 + 1, 1, none⟩ (.int .i64 (i : Int)))) := by
      intro w1 hb
      rw [hR.out]
      exact ⟨⟨_, _, _, _, rfl, .inr rfl⟩, Below.two (Below.three hb (by omega) _ _ _) (by omega) _ _⟩
    by_cases h1 : i < s.size
    · have b1 : ((s[i].toNat : Int) != 93) = true := by
        simp only [bne_iff_ne, ne_eq]
        intro e
        exact h ⟨h1, by rw [get_str s i h1]; congr 1; rw [← UInt8.toNat_inj]; exact Int.ofNat.inj e⟩
      clear h
      go_enter Tryd.func49, Tryd.ntmps49
      go_wp2_with (go_at_call 26; (with_reducible refine (wrong_any _ _).mono ?_); rintro x w1 ⟨rfl, hb'⟩; obtain ⟨g1, g2, g3⟩ := closed_mem hb'; obtain ⟨c0, c1, c2, d0, d1, d2, hlt⟩ := g1.cells; obtain ⟨f0, f1, f2, f3, hlt2⟩ := g2.cells; have HB := Lib.hid g3; clear hb' g1 g2 g3)
      exact bodyPost_ret (v := .tuple #[.agg #[.string ⟨#[]⟩, .nilFunc, .bool false], .int .i64 0, .agg #[.int .i64 3, .int .i64 (i : Int)]]) (by simp [results, Tryd.results49, go_sem, c0, c1, c2, f0, f1]) rfl (fin HB.out)
    · clear h
      go_enter Tryd.func49, Tryd.ntmps49
      go_wp2_with (go_at_call 26; (with_reducible refine (wrong_any _ _).mono ?_); rintro x w1 ⟨rfl, hb'⟩; obtain ⟨g1, g2, g3⟩ := closed_mem hb'; obtain ⟨c0, c1, c2, d0, d1, d2, hlt⟩ := g1.cells; obtain ⟨f0, f1, f2, f3, hlt2⟩ := g2.cells; have HB := Lib.hid g3; clear hb' g1 g2 g3)
      exact bodyPost_ret (v := .tuple #[.agg #[.string ⟨#[]⟩, .nilFunc, .bool false], .int .i64 0, .agg #[.int .i64 3, .int .i64 (i : Int)]]) (by simp [results, Tryd.results49, go_sem, c0, c1, c2, f0, f1]) rfl (fin HB.out)

end Go.Proofs.YtjnedbkbhoiopaaDoor
