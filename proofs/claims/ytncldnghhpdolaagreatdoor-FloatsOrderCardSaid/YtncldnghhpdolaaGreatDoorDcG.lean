/- Walks over package decimals: size, Less; no statement of the seat is proved here. -/
import Derived.Test.YtncldnghhpdolaaGreatDoorDcF
import Derived.IntWalk
import Derived.Test.YtncldnghhpdolaaGreatDoorKeep
namespace Go.Proofs.YtncldnghhpdolaaGreatDoor
open Go.RowKit

/-- A region that reads, calls quietly, and ends in operations of one forced order: at a world of which S is known. -/
theorem wp_still_tail_at {P : Program} {id : Nat} {Q : Exit → Act → World → Prop} {a : Act} {w : World} {l : List Oper} (n : Nat) (hm : P.follows .mixedOrders = true) (hB : Region.lexTailB .any l.toArray n = true) {S : World → Prop} (hS : S w.drew)
    (h : ∀ wd, S wd → wpStill P l.toArray wd (fun a' => wpList P l.toArray Q (l.drop n) a' wd) (l.take n) a) : (Code.region id l.toArray true).wp P Q a w :=
  wp_region_still_tail n hm hB (h w.drew hS)

structure ZB (w0 w : World) (m : Bool) (ds : ByteArray) (e : Int) (m' : Bool) (ds' : ByteArray) (e' : Int) : Prop where
  a0 : w.cell? ⟨w0.heap.size, 0, none⟩ = some (.bool m)
  a1 : w.cell? ⟨w0.heap.size, 1, none⟩ = some (.string ds)
  a2 : w.cell? ⟨w0.heap.size, 2, none⟩ = some (.int .i64 e)
  b0 : w.cell? ⟨w0.heap.size + 1, 0, none⟩ = some (.bool m')
  b1 : w.cell? ⟨w0.heap.size + 1, 1, none⟩ = some (.string ds')
  b2 : w.cell? ⟨w0.heap.size + 1, 2, none⟩ = some (.int .i64 e')
  below : Below w0.heap.size w0 w
theorem ZB.new (w0 : World) (m : Bool) (ds : ByteArray) (e : Int) (m' : Bool) (ds' : ByteArray) (e' : Int) (T : TypeId) : ZB w0 ((w0.alloc (.cells #[.bool m, .string ds, .int .i64 e] T)).alloc (.cells #[.bool m', .string ds', .int .i64 e'] T)).drew m ds e m' ds' e' := by
  have h1 := (heap_new2 w0 (.cells #[.bool m, .string ds, .int .i64 e] T) (.cells #[.bool m', .string ds', .int .i64 e'] T)).1
  have h2 := (heap_new2 w0 (.cells #[.bool m, .string ds, .int .i64 e] T) (.cells #[.bool m', .string ds', .int .i64 e'] T)).2
  exact ⟨blk_cell h1 0, blk_cell h1 1, blk_cell h1 2, blk_cell h2 0, blk_cell h2 1, blk_cell h2 2, (below_new2 _ _ _).drew⟩

set_option maxRecDepth 100000 in
set_option maxHeartbeats 2000000 in
theorem size_is (m m' : Bool) (ds ds' : ByteArray) (e e' : Int) (hs : ds.size ≤ 1099511627776) (hs' : ds'.size ≤ 1099511627776) (h1 : -1000000000 ≤ e) (h2 : e ≤ 1000000000) (h3 : -1000000000 ≤ e') (h4 : e' ≤ 1000000000)
    (v : Int) (hv : sizeD ⟨m, ds.data.toList, e⟩ ⟨m', ds'.data.toList, e'⟩ = v) (w : World) :
    Calls Tryz.prog 55 #[.agg #[.bool m, .string ds, .int .i64 e], .agg #[.bool m', .string ds', .int .i64 e']] w fun x w' => x = .returned (.int .i64 v) ∧ Below w.heap.size w w' := by
  obtain ⟨c, hc⟩ : ∃ c, Lib.compareInt (ds.size + e) (ds'.size + e') = c := ⟨_, rfl⟩
  obtain ⟨d, hd⟩ : ∃ d, Lib.compareBytes ds.data.toList ds'.data.toList = d := ⟨_, rfl⟩
  have hv' : (if c = 0 then d else c) = v := by
    rw [sizeD] at hv
    simp only [size_list, hc, hd] at hv
    exact hv
  have C1 : Hid (∀ w, Calls Tryz.prog 81 #[.int .i64 (ds.size + e), .int .i64 (ds'.size + e')] w fun x w' => x = .returned (.int .i64 c) ∧ w' = w) := fun w => by
    have := Tryz.cmp_Compare_int (ds.size + e) (ds'.size + e') w
    rwa [hc] at this
  have C2 : Hid (∀ w, Calls Tryz.prog 82 #[.string ds, .string ds'] w fun x w' => x = .returned (.int .i64 d) ∧ w' = w) := fun w => by
    have := Tryz.strings_Compare ds ds' w
    rwa [hd] at this
  have HV := Lib.hid hv'
  clear hc hd hv hv'
  go_enter Tryz.func55, Tryz.ntmps55
  go_upto_region 1 with (fail)
  refine wp_still_tail_at 18 (by kernel_rfl) (by kernel_rfl) (S := fun w' => ZB w w' m ds e m' ds' e') (ZB.new _ _ _ _ _ _ _ _) ?_
  intro wd hz
  have HZ := Lib.hid hz; clear hz
  have a1 := HZ.out.a1
  have a2 := HZ.out.a2
  have b1 := HZ.out.b1
  have b2 := HZ.out.b2
  simp only [List.take_succ_cons, List.take_zero, List.drop_succ_cons, List.drop_zero]
  have W1 := IntWalk.i64_in ((ds.size : Int) + e) (by omega)
  have W2 := IntWalk.i64_in ((ds'.size : Int) + e') (by omega)
  iterate 18 (refine wpStill_step (fun K hK => ?_); go_simp; (first | ((with_reducible refine hK _ ?_); clear hK K) | ((with_reducible refine ⟨_, C1.out _, hK _ ?_⟩); clear hK K) | ((with_reducible refine ⟨_, C2.out _, hK _ ?_⟩); clear hK K)))
  clear W1 W2
  refine wpStill_nil ?_
  go_wp2_with (go_at_call 80; (with_reducible refine (or_is c d v HV.out _ _ _ (blk_cell (heap_new1 _ _) 0) (blk_cell (heap_new1 _ _) 1)).mono ?_); rintro x w' ⟨rfl, rfl⟩)
  go_ret
  exact ⟨rfl, HZ.out.below.alloc HZ.out.below.size _⟩

theorem cmp_range (x y : Int) : -1 ≤ Lib.compareInt x y ∧ Lib.compareInt x y ≤ 1 := by unfold Lib.compareInt; split <;> (try split) <;> omega
theorem cmpB_range : ∀ (a b : List UInt8), -1 ≤ Lib.compareBytes a b ∧ Lib.compareBytes a b ≤ 1
  | [], [] => by simp [Lib.compareBytes]
  | [], _ :: _ => by simp [Lib.compareBytes]
  | _ :: _, [] => by simp [Lib.compareBytes]
  | a :: l, b :: k => by
    unfold Lib.compareBytes
    split
    · omega
    · split
      · omega
      · exact cmpB_range l k
theorem size_range (a b : Dm) : -1 ≤ sizeD a b ∧ sizeD a b ≤ 1 := by
  unfold sizeD; split
  · exact cmpB_range _ _
  · exact cmp_range _ _
theorem sg_range (d : Dm) : d.sg = -1 ∨ d.sg = 0 ∨ d.sg = 1 := by
  unfold Dm.sg; split
  · simp
  · split <;> simp

theorem text_ge (d : Dm) : d.digits.length ≤ d.text.length := by
  unfold Dm.text
  split
  · rename_i h; rw [h]; decide
  · simp only [List.length_append, List.length_cons]; omega
/-- Two decimals in memory, in a world that came of w0. -/
structure LB (w0 w : World) (N M : Nat) (m : Bool) (ds : ByteArray) (e : Int) (m' : Bool) (ds' : ByteArray) (e' : Int) : Prop where
  a : w.heap[N]? = some (.cells #[.bool m, .string ds, .int .i64 e] 49 (0, 0))
  b : w.heap[M]? = some (.cells #[.bool m', .string ds', .int .i64 e'] 49 (0, 0))
  below : Below w0.heap.size w0 w
theorem LB.later {w0 w w' : World} {N M : Nat} {m : Bool} {ds : ByteArray} {e : Int} {m' : Bool} {ds' : ByteArray} {e' : Int} (h : LB w0 w N M m ds e m' ds' e') (hb : Below w.heap.size w w') : LB w0 w' N M m ds e m' ds' e' :=
  ⟨blk_later h.a hb (blk_lt h.a), blk_later h.b hb (blk_lt h.b), h.below.trans (hb.mono h.below.size)⟩
theorem LB.facts {w0 w : World} {N M : Nat} {m : Bool} {ds : ByteArray} {e : Int} {m' : Bool} {ds' : ByteArray} {e' : Int} (h : LB w0 w N M m ds e m' ds' e') :
    w.cell? ⟨N, 0, none⟩ = some (.bool m) ∧ w.cell? ⟨N, 1, none⟩ = some (.string ds) ∧ w.cell? ⟨N, 2, none⟩ = some (.int .i64 e) ∧ w.cell? ⟨M, 0, none⟩ = some (.bool m') ∧ w.cell? ⟨M, 1, none⟩ = some (.string ds') ∧ w.cell? ⟨M, 2, none⟩ = some (.int .i64 e') :=
  ⟨blk_cell h.a 0, blk_cell h.a 1, blk_cell h.a 2, blk_cell h.b 0, blk_cell h.b 1, blk_cell h.b 2⟩
theorem LB.drew {w0 w : World} {N M : Nat} {m : Bool} {ds : ByteArray} {e : Int} {m' : Bool} {ds' : ByteArray} {e' : Int} (h : LB w0 w N M m ds e m' ds' e') : LB w0 w.drew N M m ds e m' ds' e' := ⟨h.a, h.b, h.below.drew⟩
set_option maxRecDepth 100000 in
set_option maxHeartbeats 4000000 in
theorem less_is (s t : ByteArray) (hs : s.size ≤ 549755813888) (ht : t.size ≤ 549755813888) (b : Bool) (hb : lessT s.data.toList t.data.toList = b) (w : World) (hT : TAB w) :
    Calls Tryz.prog 25 #[.string s, .string t] w fun x w' => x = .returned (.bool b) ∧ Below w.heap.size w w' := by
  obtain ⟨m1, d1, e1, b1, h1⟩ := Told.ex s.data.toList
  obtain ⟨m2, d2, e2, b2, h2⟩ := Told.ex t.data.toList
  have P1 := Lib.hid (fun w hT => parse_is s d1 m1 e1 b1 hs h1 w hT)
  have P2 := Lib.hid (fun w hT => parse_is t d2 m2 e2 b2 ht h2 w hT)
  have HT := Lib.hid hT
  unfold Told at h1 h2
  unfold lessT at hb
  cases b1
  · rw [if_neg (by simp)] at h1
    rw [h1.1] at hb
    subst hb
    clear h1 h2 hT
    go_enter Tryz.func25, Tryz.ntmps25
    go_wp2_with (first
      | (go_at_call 53; (with_reducible refine (P1.out _ HT.out).mono ?_); rintro x w1 ⟨rfl, hb1⟩; have HB1 : Hid (Below w.heap.size w (w1.alloc (.cells #[.bool m1, .string d1, .int .i64 e1] 49))) := hb1.alloc hb1.size _)
      | (go_at_call 53; (with_reducible refine (P2.out _ (HT.out.later HB1.out)).mono ?_); rintro x w2 ⟨rfl, hb2⟩; have HB2 : Hid (Below w.heap.size w (w2.alloc (.cells #[.bool m2, .string d2, .int .i64 e2] 49))) := (HB1.out.trans (hb2.mono HB1.out.size)).alloc (HB1.out.trans (hb2.mono HB1.out.size)).size _))
    go_ret
    exact ⟨rfl, HB2.out⟩
  · rw [if_pos rfl] at h1
    rw [h1] at hb
    cases b2
    · rw [if_neg (by simp)] at h2
      rw [h2.1] at hb
      subst hb
      clear h1 h2 hT
      go_enter Tryz.func25, Tryz.ntmps25
      go_wp2_with (first
        | (go_at_call 53; (with_reducible refine (P1.out _ HT.out).mono ?_); rintro x w1 ⟨rfl, hb1⟩; have HB1 : Hid (Below w.heap.size w (w1.alloc (.cells #[.bool m1, .string d1, .int .i64 e1] 49))) := hb1.alloc hb1.size _)
        | (go_at_call 53; (with_reducible refine (P2.out _ (HT.out.later HB1.out)).mono ?_); rintro x w2 ⟨rfl, hb2⟩; have HB2 : Hid (Below w.heap.size w (w2.alloc (.cells #[.bool m2, .string d2, .int .i64 e2] 49))) := (HB1.out.trans (hb2.mono HB1.out.size)).alloc (HB1.out.trans (hb2.mono HB1.out.size)).size _))
      go_ret
      exact ⟨rfl, HB2.out⟩
    · rw [if_pos rfl] at h2
      rw [h2] at hb
      have q1 := (parse_some h1).1
      have q2 := (parse_some h2).1
      have hs1 : d1.size ≤ 1099511627776 := by
        have h3 := text_ge ⟨m1, d1.data.toList, e1⟩
        rw [← (parse_some h1).2] at h3
        have h4 : d1.data.toList.length = d1.size := rfl
        have h5 : s.data.toList.length = s.size := rfl
        simp only at h3; omega
      have hs2 : d2.size ≤ 1099511627776 := by
        have h3 := text_ge ⟨m2, d2.data.toList, e2⟩
        rw [← (parse_some h2).2] at h3
        have h4 : d2.data.toList.length = d2.size := rfl
        have h5 : t.data.toList.length = t.size := rfl
        simp only at h3; omega
      have i1 : -1000000000 ≤ e1 ∧ e1 ≤ 1000000000 := inB_t.1 q1.inb
      have i2 : -1000000000 ≤ e2 ∧ e2 ≤ 1000000000 := inB_t.1 q2.inb
      obtain ⟨z, hz⟩ : ∃ z, sizeD ⟨m1, d1.data.toList, e1⟩ ⟨m2, d2.data.toList, e2⟩ = z := ⟨_, rfl⟩
      obtain ⟨s1, hs1'⟩ : ∃ z, (Dm.mk m1 d1.data.toList e1).sg = z := ⟨_, rfl⟩
      obtain ⟨s2, hs2'⟩ : ∃ z, (Dm.mk m2 d2.data.toList e2).sg = z := ⟨_, rfl⟩
      have zr := size_range ⟨m1, d1.data.toList, e1⟩ ⟨m2, d2.data.toList, e2⟩
      rw [hz] at zr
      obtain ⟨zr1, zr2⟩ := zr
      have r1 := sg_range ⟨m1, d1.data.toList, e1⟩
      rw [hs1'] at r1
      have ZZ := Lib.hid (fun w => size_is m1 m2 d1 d2 e1 e2 hs1 hs2 i1.1 i1.2 i2.1 i2.2 z hz w)
      have S1 := Lib.hid (fun w => sign_is m1 d1 e1 s1 hs1' w)
      have S2 := Lib.hid (fun w => sign_is m2 d2 e2 s2 hs2' w)
      have hb' : (if s1 = s2 then decide (s1 * z < 0) else decide (s1 < s2)) = b := by
        rw [← hb, ← hs1', ← hs2', ← hz]; rfl
      clear hb hs1' hs2' hz hs1 hs2 i1 i2 q1 q2 h1 h2 hT
      by_cases he : s1 = s2
      · subst he
        rw [if_pos rfl] at hb'
        rcases r1 with rfl | rfl | rfl
        all_goals (
          have HBB := Lib.hid hb'
          clear hb'
          go_enter Tryz.func25, Tryz.ntmps25
          go_wp2_with (first
            | (go_at_call 53; (with_reducible refine (P1.out _ HT.out).mono ?_); rintro x w1 ⟨rfl, hb1⟩; have HB1 : Hid (Below w.heap.size w (w1.alloc (.cells #[.bool m1, .string d1, .int .i64 e1] 49))) := hb1.alloc hb1.size _)
            | (go_at_call 53; (with_reducible refine (P2.out _ (HT.out.later HB1.out)).mono ?_); rintro x w2 ⟨rfl, hb2⟩; have HL := Lib.hid (show LB w (w2.alloc (.cells #[.bool m2, .string d2, .int .i64 e2] 49)) w1.heap.size w2.heap.size m1 d1 e1 m2 d2 e2 from ⟨(Below.heap_alloc _ _ _ (by have := hb2.size; simp at this; omega)).trans (blk_later (heap_new1 w1 _) hb2 (by simp)), heap_new1 w2 _, (HB1.out.trans (hb2.mono HB1.out.size)).alloc (HB1.out.trans (hb2.mono HB1.out.size)).size _⟩); obtain ⟨a0, a1, a2, a3, a4, a5⟩ := HL.out.facts)
            | (go_at_call 54; (first | (with_reducible refine (S1.out _).mono ?_) | (with_reducible refine (S2.out _).mono ?_)); rintro x w' ⟨rfl, hb'⟩; replace HL := Lib.hid (HL.out.later hb'); clear a0 a1 a2 a3 a4 a5 hb'; obtain ⟨a0, a1, a2, a3, a4, a5⟩ := HL.out.facts)
            | (go_at_call 55; (with_reducible refine (ZZ.out _).mono ?_); rintro x w' ⟨rfl, hb'⟩; replace HL := Lib.hid (HL.out.later hb'); clear a0 a1 a2 a3 a4 a5 hb'; obtain ⟨a0, a1, a2, a3, a4, a5⟩ := HL.out.facts))
          go_ret
          refine ⟨ret_bool ?_, HL.out.below⟩
          have hB := HBB.out
          rw [← hB]
          first | (simp; done) | (rw [Bool.eq_iff_iff]; simp; done) | (rw [Bool.eq_iff_iff]; simp; omega))
      · rw [if_neg he] at hb'
        have g1 : (s1 == s2) = false := by simp [he]
        have HBB := Lib.hid hb'
        clear hb' r1
        go_enter Tryz.func25, Tryz.ntmps25
        go_upto_region 8 with (first
            | (go_at_call 53; (with_reducible refine (P1.out _ HT.out).mono ?_); rintro x w1 ⟨rfl, hb1⟩; have HB1 : Hid (Below w.heap.size w (w1.alloc (.cells #[.bool m1, .string d1, .int .i64 e1] 49))) := hb1.alloc hb1.size _)
            | (go_at_call 53; (with_reducible refine (P2.out _ (HT.out.later HB1.out)).mono ?_); rintro x w2 ⟨rfl, hb2⟩; have HL := Lib.hid (show LB w (w2.alloc (.cells #[.bool m2, .string d2, .int .i64 e2] 49)) w1.heap.size w2.heap.size m1 d1 e1 m2 d2 e2 from ⟨(Below.heap_alloc _ _ _ (by have := hb2.size; simp at this; omega)).trans (blk_later (heap_new1 w1 _) hb2 (by simp)), heap_new1 w2 _, (HB1.out.trans (hb2.mono HB1.out.size)).alloc (HB1.out.trans (hb2.mono HB1.out.size)).size _⟩); obtain ⟨a0, a1, a2, a3, a4, a5⟩ := HL.out.facts)
            | (go_at_call 54; (first | (with_reducible refine (S1.out _).mono ?_) | (with_reducible refine (S2.out _).mono ?_)); rintro x w' ⟨rfl, hb'⟩; replace HL := Lib.hid (HL.out.later hb'); clear a0 a1 a2 a3 a4 a5 hb'; obtain ⟨a0, a1, a2, a3, a4, a5⟩ := HL.out.facts))
        obtain ⟨S, hS⟩ : ∃ S : World → Prop, S = fun w' => LB w w' w1.heap.size w2.heap.size m1 d1 e1 m2 d2 e2 := ⟨_, rfl⟩
        have hn : ∀ n : Keep S, LB w n.at_ w1.heap.size w2.heap.size m1 d1 e1 m2 d2 e2 := fun n => by have := n.ok; subst hS; exact this
        have K1 : Hid (∀ n : Keep S, Calls Tryz.prog 54 #[.agg #[.bool m1, .string d1, .int .i64 e1]] n.at_ fun x w' => x = .returned (.int .i64 s1) ∧ ∃ m : Keep S, w' = m.at_) := fun n => calls_keep (by
          refine (S1.out _).mono ?_
          rintro x w' ⟨rfl, hb⟩
          exact ⟨rfl, by subst hS; exact n.ok.later hb⟩)
        have K2 : Hid (∀ n : Keep S, Calls Tryz.prog 54 #[.agg #[.bool m2, .string d2, .int .i64 e2]] n.at_ fun x w' => x = .returned (.int .i64 s2) ∧ ∃ m : Keep S, w' = m.at_) := fun n => calls_keep (by
          refine (S2.out _).mono ?_
          rintro x w' ⟨rfl, hb⟩
          exact ⟨rfl, by subst hS; exact n.ok.later hb⟩)
        clear a0 a1 a2 a3 a4 a5
        refine wp_region_keep S (by kernel_rfl) (by kernel_rfl) (by rw [hS]; exact HL.out.drew) ?_
        intro hne
        have a0 := fun n => (hn n).facts.1
        have a1 := fun n => (hn n).facts.2.1
        have a2 := fun n => (hn n).facts.2.2.1
        have a3 := fun n => (hn n).facts.2.2.2.1
        have a4 := fun n => (hn n).facts.2.2.2.2.1
        have a5 := fun n => (hn n).facts.2.2.2.2.2
        have HN := Lib.hid hn
        clear hn hS HL
        repeat (go_big_quiet_step ((first | (go_at_call 54; with_reducible exact K1.out _) | (go_at_call 54; with_reducible exact K2.out _))))
        refine wpQuiet_nil ?_
        intro w5 hw5
        obtain ⟨n5, hw5⟩ := hw5
        have h6 : LB w w5 w1.heap.size w2.heap.size m1 d1 e1 m2 d2 e2 := hw5 ▸ HN.out n5
        clear hw5 a0 a1 a2 a3 a4 a5
        go_wp2
        go_ret
        exact ⟨ret_bool HBB.out, h6.below⟩

end Go.Proofs.YtncldnghhpdolaaGreatDoor
