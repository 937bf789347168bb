/- Walks over package pieces: empty, with; no statement of the seat is proved here. -/
import Derived.Test.YtpafadfaphaoeaaDoorPcT
namespace Go.Proofs.YtpafadfaphaoeaaDoor
open Go.RowKit

theorem u8_eq2 (a b : UInt8) : ((a.toNat : Int) == (b.toNat : Int)) = decide (a = b) := by
  rw [Bool.eq_iff_iff, beq_iff_eq, decide_eq_true_iff]
  constructor
  · intro h; exact UInt8.toNat_inj.1 (Int.ofNat.inj h)
  · rintro rfl; rfl
theorem list_empty (x : ByteArray) : x.toList.isEmpty = decide (x.size = 0) := by
  rw [ByteArray.toList_eq, Bool.eq_iff_iff, List.isEmpty_iff, decide_eq_true_iff]
  constructor
  · intro h; have : x.data.toList.length = 0 := by rw [h]; rfl
    simpa using this
  · exact data_nil
set_option maxHeartbeats 2000000 in
theorem empty_at (k s : UInt8) (f t : Int) (x : ByteArray) (w : World) : Calls Tryd.prog 17 #[.agg #[.int .u8 (k.toNat : Int), .int .u8 (s.toNat : Int), .int .i64 f, .int .i64 t, .string x]] w fun e w' => e = .returned (.bool (emptyP ⟨k, s, f, t, x⟩)) ∧ Below w.heap.size w w' := by
  have b0 := u8_eqi k 0 0 rfl
  have b1 := u8_eqi k 1 1 rfl
  have hx := list_empty x
  have hp : emptyP ⟨k, s, f, t, x⟩ = ((decide (k = 0) && decide (t ≤ f)) || (decide (k = 1) && decide (x.size = 0))) := rfl
  rw [hp]
  clear hp
  have hne : ¬ (decide (k = 0) = true ∧ decide (k = 1) = true) := by
    rintro ⟨h1, h2⟩
    rw [decide_eq_true_eq] at h1 h2
    subst h1; cases h2
  obtain ⟨z0, hz0⟩ : ∃ z, decide (k = 0) = z := ⟨_, rfl⟩
  obtain ⟨z1, hz1⟩ : ∃ z, decide (k = 1) = z := ⟨_, rfl⟩
  obtain ⟨z2, hz2⟩ : ∃ z, decide (x.size = 0) = z := ⟨_, rfl⟩
  obtain ⟨z3, hz3⟩ : ∃ z, decide (t ≤ f) = z := ⟨_, rfl⟩
  rw [hz0] at b0 hne ⊢; rw [hz1] at b1 hne ⊢; rw [hz2] at hx ⊢; rw [hz3]
  clear hz0 hz1 hz2
  cases z0 <;> cases z1
  case true.true => exact absurd ⟨rfl, rfl⟩ hne
  all_goals (
    clear hne
    cases z3 <;> cases z2
    all_goals (
      go_enter Tryd.func17, Tryd.ntmps17
      go_wp2
      go_ret
      exact ⟨rfl, below_new1 _ _⟩))

theorem heap3 (w : World) (a b c : Obj) : (((w.alloc a).alloc b).alloc c).heap[w.heap.size + 1 + 1]? = some c := by
  have := heap_new1 ((w.alloc a).alloc b) c
  rw [size_new2] at this
  exact this
theorem below3 (w : World) (a b c : Obj) : Below w.heap.size w (((w.alloc a).alloc b).alloc c) := (below_new2 w a b).alloc (below_new2 w a b).size c
theorem res_with {W : World} {n : Nat} {v0 v1 v2 v3 v4 : Value} (h : W.heap[n]? = some (.cells #[v0, v1, v2, v3, v4] 36 (0, 0))) (z : Bool) (a : Array Value) (ha : a[4]?.getD undef = .pointer (some ⟨n, 0, none⟩)) (hz : a[5]?.getD undef = .bool z) :
    (results Tryd.f18 a).run Tryd.prog W = .ok (.tuple #[.agg #[v0, v1, v2, v3, v4], .bool z]) W := by
  have x0 := blk_cell h 0; have x1 := blk_cell h 1; have x2 := blk_cell h 2; have x3 := blk_cell h 3; have x4 := blk_cell h 4
  simp [results, Tryd.results18, go_sem, ha, hz, x0, x1, x2, x3, x4]

/-- What with answers. -/
def WithRes (e : Ending) (q p : Pc) : Prop := match withP q p with
  | some b => e = .returned (.tuple #[.agg b.cells, .bool true])
  | none => e = .returned (.tuple #[.agg q.cells, .bool false])
set_option maxRecDepth 100000 in
set_option maxHeartbeats 4000000 in
theorem with_at (q p : Pc) (hq : q.txt.size ≤ 1000000) (hp : p.txt.size ≤ 1000000) (w : World) : Calls Tryd.prog 18 #[.agg q.cells, .agg p.cells] w fun e w' => WithRes e q p ∧ Below w.heap.size w w' := by
  obtain ⟨k, s, f, t, x⟩ := q
  obtain ⟨k', s', f', t', x'⟩ := p
  have a0 := u8_eqi k 0 0 rfl
  have a1 := u8_eqi k 1 1 rfl
  have c0 := u8_eqi k' 0 0 rfl
  have c1 := u8_eqi k' 1 1 rfl
  have es := u8_eq2 s s'
  have hq' : x.size ≤ 1000000 := hq
  have hp' : x'.size ≤ 1000000 := hp
  clear hq hp
  unfold WithRes
  by_cases h1 : k = 1 ∧ k' = 1
  · have hw : withP ⟨k, s, f, t, x⟩ ⟨k', s', f', t', x'⟩ = some ⟨k, s, f, t, x ++ x'⟩ := by unfold withP; rw [if_pos h1]
    rw [hw]
    rw [decide_eq_true h1.1] at a1
    rw [decide_eq_true h1.2] at c1
    clear hw h1 a0 c0 es
    unfold Pc.cells
    go_enter Tryd.func18, Tryd.ntmps18
    go_wp2
    exact bodyPost_ret (res_with (heap3 _ _ _ _) true _ rfl rfl) rfl ⟨rfl, below3 _ _ _ _⟩
  · by_cases h0 : k = 0 ∧ k' = 0 ∧ s = s' ∧ t = f'
    · have hw : withP ⟨k, s, f, t, x⟩ ⟨k', s', f', t', x'⟩ = some ⟨k, s, f, t', x⟩ := by unfold withP; rw [if_neg h1, if_pos h0]
      rw [hw]
      obtain ⟨rfl, rfl, rfl, rfl⟩ := h0
      have a1 : (((0 : UInt8).toNat : Int) == 1) = false := rfl
      have a0 : (((0 : UInt8).toNat : Int) == 0) = true := rfl
      have es : ((s.toNat : Int) == (s.toNat : Int)) = true := by simp
      clear hw h1 c0 c1
      unfold Pc.cells
      go_enter Tryd.func18, Tryd.ntmps18
      go_wp2
      exact bodyPost_ret (res_with (heap3 _ _ _ _) true _ rfl rfl) rfl ⟨rfl, below3 _ _ _ _⟩
    · have hw : withP ⟨k, s, f, t, x⟩ ⟨k', s', f', t', x'⟩ = none := by unfold withP; rw [if_neg h1, if_neg h0]
      rw [hw]
      clear hw
      have he : (t == f') = decide (t = f') := by rw [Bool.eq_iff_iff, beq_iff_eq, decide_eq_true_iff]
      have hn : (decide (k = 1) && decide (k' = 1)) = false := by rw [← Bool.decide_and]; exact decide_eq_false h1
      have hm : (decide (k = 0) && decide (k' = 0) && decide (s = s') && decide (t = f')) = false := by rw [← Bool.decide_and, ← Bool.decide_and, ← Bool.decide_and]; exact decide_eq_false (by rw [and_assoc, and_assoc]; exact h0)
      clear h1 h0
      generalize decide (k = 0) = z0 at *
      generalize decide (k = 1) = z1 at *
      generalize decide (k' = 0) = y0 at *
      generalize decide (k' = 1) = y1 at *
      generalize decide (s = s') = y2 at *
      generalize decide (t = f') = y3 at *
      cases z1 <;> cases y1 <;> first | (cases hn; done) | skip
      all_goals (cases z0 <;> cases y0 <;> cases y2 <;> cases y3 <;> first | (cases hm; done) | skip)
      all_goals (
        clear hn hm
        unfold Pc.cells
        go_enter Tryd.func18, Tryd.ntmps18
        go_wp2
        exact bodyPost_ret (res_with (heap3 _ _ _ _) false _ rfl rfl) rfl ⟨rfl, below3 _ _ _ _⟩)

end Go.Proofs.YtpafadfaphaoeaaDoor
