/- The steps of package tquotes are the plain words' steps; no statement of the seat is proved here. -/
import Derived.Test.YtflfedfghnnaeaaDoorTqI
namespace Go.Proofs.YtflfedfghnnaeaaDoor
open Go.RowKit

theorem Glob.keepR {w w' : World} {R : Nat} (h : Glob w) (hb : Below R w w') (hR : 0 < R) : Glob w' :=
  ⟨fun i v hv => (hb.cell (p := ⟨0, i, none⟩) hR).trans (h.shorts i v hv)⟩
theorem unit_use {R : Nat} {s : ByteArray} {i q : Nat} {out : List UInt8} {Pr : Nat → Prop} {w : World} (hs : s.size ≤ 1073740000) (ho : out.length ≤ i) (hin : i < s.size) {d : Nat} (hd : d = 4 ∨ d = 8) (hdig : (dgs s.data.toList d (i + 2) 0).2 = -1) :
    UnitC R s i q out Pr w d (if (unitT s.data.toList d i).1 = 0 then 0 else 3) (if (unitT s.data.toList d i).1 = 0 then 0 else ((unitT s.data.toList d i).2.1 : Int)) (if (unitT s.data.toList d i).1 = 0 then (unitT s.data.toList d i).2.1 else i) (if (unitT s.data.toList d i).1 = 0 then out ++ (unitT s.data.toList d i).2.2 else out) := by
  intro w1 hR _
  have hV : dgs s.data.toList d (i + 2) 0 = ((dgs s.data.toList d (i + 2) 0).1, -1) := by rw [← hdig]
  have e1 : unitT s.data.toList d i = if 1114111 < (dgs s.data.toList d (i + 2) 0).1 ∨ (55296 ≤ (dgs s.data.toList d (i + 2) 0).1 ∧ (dgs s.data.toList d (i + 2) 0).1 ≤ 57343) then (2, i + 2, []) else (0, i + 2 + d, putL [(dgs s.data.toList d (i + 2) 0).1]) := by
    unfold unitT
    rw [if_neg (by rw [hdig]; omega)]
  generalize (dgs s.data.toList d (i + 2) 0).1 = V at hV e1
  by_cases hbad : 1114111 < V ∨ (55296 ≤ V ∧ V ≤ 57343)
  · rw [if_pos hbad] at e1
    rw [e1]
    have := unit_is R s i q out Pr w1 hR (by omega) (by omega) d hd V hV false (by
      rcases hbad with h | ⟨h, h'⟩
      · rw [decide_eq_true h]; rfl
      · rw [decide_eq_true h, decide_eq_true h']; simp)
    exact this.mono fun e w' ⟨h1, h2, h3⟩ => ⟨h1, h2, h3⟩
  · rw [if_neg hbad] at e1
    rw [e1]
    have := unit_is R s i q out Pr w1 hR (by omega) (by omega) d hd V hV true (by
      rw [decide_eq_false (fun h => hbad (.inl h))]
      by_cases h : 55296 ≤ V
      · rw [decide_eq_true h, decide_eq_false (fun h' => hbad (.inr ⟨h, h'⟩))]; rfl
      · rw [decide_eq_false h]; rfl)
    exact this.mono fun e w' ⟨h1, h2, h3⟩ => ⟨h1, h2.place (by show i + (2 + d) = i + 2 + d; omega) rfl, h3⟩
/-- No digit of an escape is wrong. -/
def DigitsAt (l : List UInt8) (i : Nat) : Prop := bt l i = 92 → (bt l (i + 1) = 117 → (dgs l 4 (i + 2) 0).2 = -1) ∧ (bt l (i + 1) = 85 → (dgs l 8 (i + 2) 0).2 = -1)
def DigitsOk (l : List UInt8) : Prop := ∀ i, DigitsAt l i
theorem escaped_use {R : Nat} {s : ByteArray} {i q : Nat} {out : List UInt8} {Pr : Nat → Prop} {w : World} (hR : RI w R s i q out Pr) (hG : Glob w) (hin : i < s.size) (hs : s.size ≤ 1073740000) (ho : out.length ≤ i) (hd : DigitsAt s.data.toList i) (h92 : bt s.data.toList i = 92) :
    Calls Tryd.prog 80 #[.pointer (some ⟨R, 0, none⟩)] w fun e w' => e = .returned (.agg #[.int .i64 (if (escT s.data.toList i).1 = 0 then 0 else 3), .int .i64 (if (escT s.data.toList i).1 = 0 then 0 else ((escT s.data.toList i).2.1 : Int))]) ∧ RI w' R s (if (escT s.data.toList i).1 = 0 then (escT s.data.toList i).2.1 else i) q (if (escT s.data.toList i).1 = 0 then out ++ (escT s.data.toList i).2.2 else out) Pr ∧ To R Pr w w' := by
  have hl : s.data.toList.length = s.size := rfl
  refine escaped_is R s i q out Pr w hR hG hin (by omega) (by omega) _ _ _ _ ?_
  obtain ⟨d4, d8⟩ := hd h92
  by_cases h1 : s.size ≤ i + 1
  · left
    have e : escT s.data.toList i = (2, s.size, []) := by unfold escT; rw [hl, if_pos h1]
    rw [e]
    exact ⟨h1, rfl, rfl, rfl, rfl⟩
  right
  refine ⟨by omega, ?_⟩
  cases hs' : shortFrom (bt s.data.toList (i + 1)) 0 with
  | some b =>
    left
    have e : escT s.data.toList i = (0, i + 2, [UInt8.ofNat b]) := by unfold escT; rw [hl, if_neg h1, hs']
    rw [e]
    exact ⟨b, rfl, rfl, rfl, rfl, rfl⟩
  | none =>
    right
    refine ⟨rfl, ?_⟩
    have e : escT s.data.toList i = if bt s.data.toList (i + 1) = 117 then unitT s.data.toList 4 i else if bt s.data.toList (i + 1) = 85 then unitT s.data.toList 8 i else (2, i + 1, []) := by unfold escT; rw [hl, if_neg h1, hs']
    by_cases h117 : bt s.data.toList (i + 1) = 117
    · rw [if_pos h117] at e
      rw [e]
      exact .inl ⟨h117, unit_use hs ho hin (.inl rfl) (d4 h117)⟩
    rw [if_neg h117] at e
    by_cases h85 : bt s.data.toList (i + 1) = 85
    · rw [if_pos h85] at e
      rw [e]
      exact .inr (.inl ⟨h85, unit_use hs ho hin (.inr rfl) (d8 h85)⟩)
    rw [if_neg h85] at e
    rw [e]
    exact .inr (.inr ⟨h117, h85, rfl, rfl, rfl, rfl⟩)
theorem basic_stepsOn {On : Nat → Prop} {s : ByteArray} (hs : s.size ≤ 1073740000) (hd : ∀ i, On i → DigitsAt s.data.toList i) {w0 : World} (hG : Glob w0) {R F : Nat} (hR : w0.heap.size < R) : StepsOn On 79 R s 34 false w0 F := by
  intro i out w hon hin ho hRI hB
  have hGw := hG.keep hB (Nat.le_refl _)
  have hgR : 0 < R := by
    have := cell_lt (hG.shorts 0 98 rfl)
    have h : 0 < w0.heap.size := this
    omega
  have hb : bt s.data.toList i = s[i].toNat := bt_str hin
  by_cases h1 : s[i].toNat = 34
  · have e : stepT s.data.toList 34 false i = (1, i + 1, []) := by unfold stepT; rw [hb, if_pos h1]; rfl
    rw [e]
    exact (basic_end R s i 34 out _ w hRI hin (by omega) h1).mono fun e w' ⟨h1, h2, h3⟩ => ⟨h3, .inr (.inl ⟨rfl, h1, h2.place rfl (by simp)⟩)⟩
  by_cases h2 : s[i].toNat = 92
  · have e : stepT s.data.toList 34 false i = escT s.data.toList i := by unfold stepT; rw [hb, if_neg h1, if_pos ⟨h2, rfl⟩, if_neg (by simp)]
    rw [e]
    refine (basic_esc R s i 34 out _ w hRI hin (by omega) h2 h1 _ _ _ _ (fun w1 h1 h2' => escaped_use h1 (hGw.keepR h2'.below hgR) hin hs ho (hd i hon) (by rw [hb]; exact h2))).mono ?_
    rintro e w' ⟨g1, g2, g3⟩
    refine ⟨g3, ?_⟩
    rcases escT_ways s.data.toList i hin with ⟨a, _⟩ | ⟨a, _⟩
    · rw [if_pos a, if_pos a] at g1
      rw [if_pos a, if_pos a] at g2
      exact .inl ⟨a, g1, g2⟩
    · have a' : ¬ (escT s.data.toList i).1 = 0 := by omega
      rw [if_neg a', if_neg a'] at g1
      exact .inr (.inr ⟨a, g1⟩)
  by_cases h3 : plainB s[i].toNat = true
  · have e : stepT s.data.toList 34 false i = (0, i + 1, [s[i]]) := by
      unfold stepT
      rw [hb, if_neg h1, if_neg (fun h => h2 h.1), if_neg (by simp), if_neg (by simp), if_pos h3]
      simp
    rw [e]
    exact (basic_ok R s i 34 out _ w hRI hin (by omega) (by omega) h1 h3 h2).mono fun e w' ⟨h1, h2, h3⟩ => ⟨h3, .inl ⟨rfl, h1, h2⟩⟩
  · have h3' : plainB s[i].toNat = false := by simpa using h3
    have e : stepT s.data.toList 34 false i = (2, i, []) := by
      unfold stepT
      rw [hb, if_neg h1, if_neg (fun h => h2 h.1), if_neg (by simp), if_neg (by simp), if_neg (by rw [h3']; simp)]
    rw [e]
    exact (basic_bad R s i 34 out _ w hRI hin (by omega) h1 h3' h2).mono fun e w' ⟨h1, h2, h3⟩ => ⟨h3, .inr (.inr ⟨rfl, h1⟩)⟩
theorem basic_steps {s : ByteArray} (hs : s.size ≤ 1073740000) (hd : DigitsOk s.data.toList) {w0 : World} (hG : Glob w0) {R F : Nat} (hR : w0.heap.size < R) : StepsAre 79 R s 34 false w0 F :=
  fun i out w => basic_stepsOn (On := fun _ => True) hs (fun i _ => hd i) hG hR i out w trivial
theorem literal_steps {s : ByteArray} (hs : s.size ≤ 1073740000) {w0 : World} {R F : Nat} : StepsAre 76 R s 39 false w0 F := by
  intro i out w hin ho hRI hB
  have hb : bt s.data.toList i = s[i].toNat := bt_str hin
  by_cases h1 : s[i].toNat = 39
  · have e : stepT s.data.toList 39 false i = (1, i + 1, []) := by unfold stepT; rw [hb, if_pos h1]; rfl
    rw [e]
    exact (literal_end R s i 39 out _ w hRI hin (by omega) h1).mono fun e w' ⟨h1, h2, h3⟩ => ⟨h3, .inr (.inl ⟨rfl, h1, h2.place rfl (by simp)⟩)⟩
  by_cases h3 : plainB s[i].toNat = true
  · have e : stepT s.data.toList 39 false i = (0, i + 1, [s[i]]) := by
      unfold stepT
      rw [hb, if_neg h1, if_neg (fun h => by cases h.2), if_neg (by simp), if_neg (by simp), if_pos h3]
      simp
    rw [e]
    exact (literal_ok R s i 39 out _ w hRI hin (by omega) (by omega) h1 h3).mono fun e w' ⟨h1, h2, h3⟩ => ⟨h3, .inl ⟨rfl, h1, h2⟩⟩
  · have h3' : plainB s[i].toNat = false := by simpa using h3
    have e : stepT s.data.toList 39 false i = (2, i, []) := by
      unfold stepT
      rw [hb, if_neg h1, if_neg (fun h => by cases h.2), if_neg (by simp), if_neg (by simp), if_neg (by rw [h3']; simp)]
    rw [e]
    exact (literal_bad R s i 39 out _ w hRI hin (by omega) h1 h3').mono fun e w' ⟨h1, h2, h3⟩ => ⟨h3, .inr (.inr ⟨rfl, h1⟩)⟩

end Go.Proofs.YtflfedfghnnaeaaDoor
