/- Walks over chapter 07's reference: form, Long; no statement of the seat is proved here. -/
import Derived.Test.YtnoghelkcbjfiaaGreatDoorDtS
namespace Go.Proofs.YtnoghelkcbjfiaaGreatDoor
open Go.RowKit

theorem bcell {W w1 : World} (hb : Below W.heap.size W w1) : (∀ b o, b < W.heap.size → w1.cell? ⟨b, o, none⟩ = W.cell? ⟨b, o, none⟩) ∧ (∀ b o, b < W.heap.size → w1.frozen? ⟨b, o, none⟩ = W.frozen? ⟨b, o, none⟩) :=
  ⟨fun b o h => hb.cell (p := ⟨b, o, none⟩) h, fun b o h => hb.frozen (p := ⟨b, o, none⟩) h⟩
theorem is_c (s : ByteArray) (hs : s.size ≤ 1099511627776) (i : Int) (k : Nat) (h0 : i = (k : Int)) (c : Int) (n : Nat) (hc : c = (n : Int)) (hn : n < 256) (b : Bool) (h : Hid (decide (bt s.data.toList k = n) = b)) (w : World) :
    Calls Tryz.prog 30 #[.string s, .int .i64 i, .int .u8 c] w fun e w' => e = .returned (.bool b) ∧ w = w' := by
  subst h0
  have := ris_c s hs k (by omega) c n hc hn w
  rwa [Int.toNat_natCast, h.out] at this
theorem date_0 (s : ByteArray) (hs : s.size ≤ 1099511627776) (v : Int) (h : Hid (dateZ s.data.toList 0 = v)) (w : World) :
    Calls Tryz.prog 28 #[.string s, .int .i64 0] w fun e w' => e = .returned (.int .i64 v) ∧ Below w.heap.size w w' := by
  have := date_is s hs 0 (by omega) w
  rwa [h.out] at this
theorem clock_v (s : ByteArray) (hs : s.size ≤ 1099511627776) (i : Int) (k : Nat) (hi : i = (k : Int)) (h1 : k ≤ 1099511627776) (v : Int) (h : Hid (clockZ s.data.toList k = v)) (w : World) :
    Calls Tryz.prog 29 #[.string s, .int .i64 i] w fun e w' => e = .returned (.int .i64 v) ∧ Below w.heap.size w w' := by
  subst hi
  have := clock_is s hs k (by omega) (by omega) w
  rwa [Int.toNat_natCast, h.out] at this
theorem rzone_v (s : ByteArray) (hs : s.size ≤ 1099511627776) (i : Int) (k : Nat) (hi : i = (k : Int)) (h1 : k ≤ 1099511627776) (v : Int) (h : Hid (zoneZ s.data.toList k = v)) (w : World) :
    Calls Tryz.prog 31 #[.string s, .int .i64 i] w fun e w' => e = .returned (.int .i64 v) ∧ Below w.heap.size w w' := by
  subst hi
  have := rzone_is s hs k (by omega) (by omega) w
  rwa [Int.toNat_natCast, h.out] at this

/-- The form of a beginning, as the reference has it. -/
def Parts.timeI (p : Parts) : Int := if p.time then (p.at_ : Int) else -1
def Parts.zoneI (p : Parts) : Int := if p.zone ≠ 0 then (p.zAt : Int) else -1
def formV (p : Parts) : Value := .agg #[.int .i64 (kindP p : Nat), .int .i64 p.timeI, .int .i64 p.zoneI, .int .i64 (p.long : Nat)]
theorem formV_of {p : Parts} {K T Z E : Int} (h1 : (kindP p : Int) = K) (h2 : p.timeI = T) (h3 : p.zoneI = Z) (h4 : (p.long : Int) = E) : .agg #[.int .i64 K, .int .i64 T, .int .i64 Z, .int .i64 E] = formV p := by subst h1 h2 h3 h4; rfl

theorem set4 {B n : Nat} {w0 w : World} (h : Below B w0 w) (hn : B ≤ n) (a b c d : Value) : Below B w0 ((((w.setCell ⟨n, 0, none⟩ a).setCell ⟨n, 1, none⟩ b).setCell ⟨n, 2, none⟩ c).setCell ⟨n, 3, none⟩ d) :=
  (((h.setCell hn _).setCell hn _).setCell hn _).setCell hn _
theorem set4_blk {n m : Nat} {w : World} {o : Obj} (h : w.heap[m]? = some o) (hn : m < n) (a b c d : Value) : ((((w.setCell ⟨n, 0, none⟩ a).setCell ⟨n, 1, none⟩ b).setCell ⟨n, 2, none⟩ c).setCell ⟨n, 3, none⟩ d).heap[m]? = some o := by
  rw [Below.heap_setCell _ _ _ _ (by simp; omega), Below.heap_setCell _ _ _ _ (by simp; omega), Below.heap_setCell _ _ _ _ (by simp; omega), Below.heap_setCell _ _ _ _ (by simp; omega), h]
theorem set_own {n : Nat} {w : World} {cs : Array Value} {T : TypeId} {fz : Nat × Nat} (h : w.heap[n]? = some (.cells cs T fz)) (k : Nat) (v : Value) : (w.setCell ⟨n, k, none⟩ v).heap[n]? = some (.cells (cs.setIfInBounds k v) T fz) := by
  simp [World.setCell, Array.getElem?_modify, h]
theorem set4_own {n : Nat} {w : World} {x0 x1 x2 x3 : Value} {T : TypeId} (h : w.heap[n]? = some (.cells #[x0, x1, x2, x3] T (0, 0))) (a b c d : Value) : ((((w.setCell ⟨n, 0, none⟩ a).setCell ⟨n, 1, none⟩ b).setCell ⟨n, 2, none⟩ c).setCell ⟨n, 3, none⟩ d).heap[n]? = some (.cells #[a, b, c, d] T (0, 0)) :=
  set_own (set_own (set_own (set_own h 0 a) 1 b) 2 c) 3 d
theorem formV_eq {p : Parts} {K T Z E : Int} (h : .agg #[.int .i64 K, .int .i64 T, .int .i64 Z, .int .i64 E] = formV p) : Ending.returned (.agg #[.int .i64 K, .int .i64 T, .int .i64 Z, .int .i64 E]) = .returned (formV p) := by rw [h]

set_option maxHeartbeats 1000000 in
theorem form_no (s : ByteArray) (hs : s.size ≤ 1099511627776) (hD : isD s.data.toList 0 = false) (w : World) :
    Calls Tryz.prog 16 #[.string s] w fun e w' => e = .returned (formV (spl s.data.toList)) ∧ Below w.heap.size w w' := by
  have h1 : Hid (dateZ s.data.toList 0 = -1) := by show _ = _; rw [dateZ, if_neg (by simp [hD])]
  cases hC : isC s.data.toList 0
  · have h2 : Hid (clockZ s.data.toList 0 = -1) := by show _ = _; rw [clockZ, if_neg (by simp [hC])]
    have hV : Hid (.agg #[.int .i64 0, .int .i64 (-1), .int .i64 (-1), .int .i64 0] = formV (spl s.data.toList)) := by
      show _ = _
      rw [spl, if_neg (by simp [hD]), if_neg (by simp [hC])]; exact formV_of rfl rfl rfl rfl
    clear hD hC
    go_enter Tryz.func16, Tryz.ntmps16
    go_wp2_with (first
      | (go_at_call 28; (with_reducible refine (date_0 s hs _ h1 _).mono ?_); rintro e w1 ⟨rfl, hb1⟩; obtain ⟨hc1, hf1⟩ := bcell hb1; have hz1 : w.heap.size + 1 < w1.heap.size := (by have := hb1.size; simp at this; omega); have hz1' : w.heap.size < w1.heap.size := (by omega); have HB1 : Hid (Below w.heap.size w w1) := (below_new2 w _ _).trans (hb1.mono (by simp; omega)); have HR1 : Hid (w1.heap[w.heap.size]? = some (.cells #[.int .i64 0, .int .i64 0, .int .i64 0, .int .i64 0] 37 (0, 0))) := blk_later (heap_new2 w _ _).1 hb1 (by simp; omega))
      | (go_at_call 29; (with_reducible refine (clock_v s hs _ 0 (by omega) (by omega) _ h2 _).mono ?_); rintro e w2 ⟨rfl, hb2⟩; obtain ⟨hc2, hf2⟩ := bcell hb2; have hz2 : w.heap.size + 1 < w2.heap.size := (by have := hb2.size; omega); have hz2' : w.heap.size < w2.heap.size := (by omega); have HB2 : Hid (Below w.heap.size w w2) := HB1.out.trans (hb2.mono (by omega)); have HR2 : Hid (w2.heap[w.heap.size]? = some (.cells #[.int .i64 0, .int .i64 0, .int .i64 0, .int .i64 0] 37 (0, 0))) := blk_later HR1.out hb2 (by omega)))
    have e0 := blk_cell HR2.out 0; have e1 := blk_cell HR2.out 1; have e2 := blk_cell HR2.out 2; have e3 := blk_cell HR2.out 3
    refine bodyPost_ret (v := .agg #[.int .i64 0, .int .i64 (-1), .int .i64 (-1), .int .i64 0]) (by simp [results, Tryz.results16, go_sem, e0, e1, e2, e3]) rfl ⟨formV_eq hV.out, ?_⟩
    exact set4 HB2.out (Nat.le_refl _) _ _ _ _
  · obtain ⟨n, hn⟩ : ∃ n, Hid (pN (partN s.data.toList 8) = n) := ⟨pN (partN s.data.toList 8), rfl⟩
    have h2 : Hid (clockZ s.data.toList 0 = 8 + (n : Int)) := by show _ = _; rw [clockZ, if_pos hC, hn.out]; simp
    have hV : Hid (.agg #[.int .i64 2, .int .i64 0, .int .i64 (-1), .int .i64 (8 + (n : Int))] = formV (spl s.data.toList)) := by
      show _ = _
      rw [spl, if_neg (by simp [hD]), if_pos hC]; exact formV_of rfl rfl rfl (by simp [Parts.long, Parts.zAt, hn.out])
    clear hD hC
    go_enter Tryz.func16, Tryz.ntmps16
    go_wp2_with (first
      | (go_at_call 28; (with_reducible refine (date_0 s hs _ h1 _).mono ?_); rintro e w1 ⟨rfl, hb1⟩; obtain ⟨hc1, hf1⟩ := bcell hb1; have hz1 : w.heap.size + 1 < w1.heap.size := (by have := hb1.size; simp at this; omega); have hz1' : w.heap.size < w1.heap.size := (by omega); have HB1 : Hid (Below w.heap.size w w1) := (below_new2 w _ _).trans (hb1.mono (by simp; omega)); have HR1 : Hid (w1.heap[w.heap.size]? = some (.cells #[.int .i64 0, .int .i64 0, .int .i64 0, .int .i64 0] 37 (0, 0))) := blk_later (heap_new2 w _ _).1 hb1 (by simp; omega))
      | (go_at_call 29; (with_reducible refine (clock_v s hs _ 0 (by omega) (by omega) _ h2 _).mono ?_); rintro e w2 ⟨rfl, hb2⟩; obtain ⟨hc2, hf2⟩ := bcell hb2; have hz2 : w.heap.size + 1 < w2.heap.size := (by have := hb2.size; omega); have hz2' : w.heap.size < w2.heap.size := (by omega); have HB2 : Hid (Below w.heap.size w w2) := HB1.out.trans (hb2.mono (by omega)); have HR2 : Hid (w2.heap[w.heap.size]? = some (.cells #[.int .i64 0, .int .i64 0, .int .i64 0, .int .i64 0] 37 (0, 0))) := blk_later HR1.out hb2 (by omega)))
    have e0 := blk_cell HR2.out 0; have e1 := blk_cell HR2.out 1; have e2 := blk_cell HR2.out 2; have e3 := blk_cell HR2.out 3
    refine bodyPost_ret (v := .agg #[.int .i64 2, .int .i64 0, .int .i64 (-1), .int .i64 (8 + (n : Int))]) (by simp [results, Tryz.results16, go_sem, e0, e1, e2, e3]) rfl ⟨formV_eq hV.out, ?_⟩
    exact set4 HB2.out (Nat.le_refl _) _ _ _ _

set_option maxHeartbeats 1000000 in
theorem form_day (s : ByteArray) (hs : s.size ≤ 1099511627776) (hD : isD s.data.toList 0 = true) (hM : (midB s.data.toList && isC s.data.toList 11) = false) (w : World) :
    Calls Tryz.prog 16 #[.string s] w fun e w' => e = .returned (formV (spl s.data.toList)) ∧ Below w.heap.size w w' := by
  have h1 : Hid (dateZ s.data.toList 0 = 10) := by show _ = _; rw [dateZ, if_pos hD]; rfl
  have hV : Hid (.agg #[.int .i64 1, .int .i64 (-1), .int .i64 (-1), .int .i64 10] = formV (spl s.data.toList)) := by
    show _ = _
    rw [spl, if_pos hD, if_neg (by simp [hM])]; exact formV_of rfl rfl rfl rfl
  clear hD
  obtain ⟨b1, t84⟩ : ∃ b, Hid (decide (bt s.data.toList 10 = 84) = b) := ⟨decide (bt s.data.toList 10 = 84), rfl⟩
  obtain ⟨b2, t116⟩ : ∃ b, Hid (decide (bt s.data.toList 10 = 116) = b) := ⟨decide (bt s.data.toList 10 = 116), rfl⟩
  obtain ⟨b3, t32⟩ : ∃ b, Hid (decide (bt s.data.toList 10 = 32) = b) := ⟨decide (bt s.data.toList 10 = 32), rfl⟩
  by_cases hm : b1 = false ∧ b2 = false ∧ b3 = false
  · obtain ⟨rfl, rfl, rfl⟩ := hm
    clear hM
    go_enter Tryz.func16, Tryz.ntmps16
    go_wp2_with (first
      | (go_at_call 28; (with_reducible refine (date_0 s hs _ h1 _).mono ?_); rintro e w1 ⟨rfl, hb1⟩; obtain ⟨hc1, hf1⟩ := bcell hb1; have hz1 : w.heap.size + 1 < w1.heap.size := (by have := hb1.size; simp at this; omega); have hz1' : w.heap.size < w1.heap.size := (by omega); have HB1 : Hid (Below w.heap.size w w1) := (below_new2 w _ _).trans (hb1.mono (by simp; omega)); have HR1 : Hid (w1.heap[w.heap.size]? = some (.cells #[.int .i64 0, .int .i64 0, .int .i64 0, .int .i64 0] 37 (0, 0))) := blk_later (heap_new2 w _ _).1 hb1 (by simp; omega))
      | (go_at_call 30; (first | (with_reducible refine (is_c s hs _ 10 (by omega) 84 84 (by omega) (by omega) _ t84 _).mono ?_) | (with_reducible refine (is_c s hs _ 10 (by omega) 116 116 (by omega) (by omega) _ t116 _).mono ?_) | (with_reducible refine (is_c s hs _ 10 (by omega) 32 32 (by omega) (by omega) _ t32 _).mono ?_)); rintro e w' ⟨rfl, rfl⟩))
    have e0 := blk_cell HR1.out 0; have e1 := blk_cell HR1.out 1; have e2 := blk_cell HR1.out 2; have e3 := blk_cell HR1.out 3
    refine bodyPost_ret (v := .agg #[.int .i64 1, .int .i64 (-1), .int .i64 (-1), .int .i64 10]) (by simp [results, Tryz.results16, go_sem, e0, e1, e2, e3]) rfl ⟨formV_eq hV.out, ?_⟩
    exact set4 (set4 HB1.out (by omega) _ _ _ _) (Nat.le_refl _) _ _ _ _
  · have hC : isC s.data.toList 11 = false := by
      have : midB s.data.toList = true := by
        have e1 := t84.out; have e2 := t116.out; have e3 := t32.out
        unfold midB
        rw [decide_eq_true_iff]
        cases b1 <;> cases b2 <;> cases b3 <;> simp_all
      rw [this] at hM; simpa using hM
    have h2 : Hid (clockZ s.data.toList 11 = -1) := by show _ = _; rw [clockZ, if_neg (by simp [hC])]
    clear hM hC
    cases b1 <;> cases b2 <;> cases b3
    all_goals first | exact absurd ⟨rfl, rfl, rfl⟩ hm | skip
    all_goals clear hm
    all_goals
      go_enter Tryz.func16, Tryz.ntmps16
      go_wp2_with (first
        | (go_at_call 28; (with_reducible refine (date_0 s hs _ h1 _).mono ?_); rintro e w1 ⟨rfl, hb1⟩; obtain ⟨hc1, hf1⟩ := bcell hb1; have hz1 : w.heap.size + 1 < w1.heap.size := (by have := hb1.size; simp at this; omega); have hz1' : w.heap.size < w1.heap.size := (by omega); have HB1 : Hid (Below w.heap.size w w1) := (below_new2 w _ _).trans (hb1.mono (by simp; omega)); have HR1 : Hid (w1.heap[w.heap.size]? = some (.cells #[.int .i64 0, .int .i64 0, .int .i64 0, .int .i64 0] 37 (0, 0))) := blk_later (heap_new2 w _ _).1 hb1 (by simp; omega))
        | (go_at_call 30; (first | (with_reducible refine (is_c s hs _ 10 (by omega) 84 84 (by omega) (by omega) _ t84 _).mono ?_) | (with_reducible refine (is_c s hs _ 10 (by omega) 116 116 (by omega) (by omega) _ t116 _).mono ?_) | (with_reducible refine (is_c s hs _ 10 (by omega) 32 32 (by omega) (by omega) _ t32 _).mono ?_)); rintro e w' ⟨rfl, rfl⟩)
        | (go_at_call 29; (with_reducible refine (clock_v s hs _ 11 (by omega) (by omega) _ h2 _).mono ?_); rintro e w2 ⟨rfl, hb2⟩; obtain ⟨hc2, hf2⟩ := bcell hb2; have hz2 : w.heap.size + 1 < w2.heap.size := (by have := hb2.size; simp at this; omega); have hz2' : w.heap.size < w2.heap.size := (by omega); have HB2 : Hid (Below w.heap.size w w2) := (set4 HB1.out (by omega) _ _ _ _).trans (hb2.mono (by simp; omega)); have HR2 : Hid (w2.heap[w.heap.size]? = some (.cells #[.int .i64 0, .int .i64 0, .int .i64 0, .int .i64 0] 37 (0, 0))) := blk_later (set4_blk HR1.out (by omega) _ _ _ _) hb2 (by simp; omega)))
      have e0 := blk_cell HR2.out 0; have e1 := blk_cell HR2.out 1; have e2 := blk_cell HR2.out 2; have e3 := blk_cell HR2.out 3
      refine bodyPost_ret (v := .agg #[.int .i64 1, .int .i64 (-1), .int .i64 (-1), .int .i64 10]) (by simp [results, Tryz.results16, go_sem, e0, e1, e2, e3]) rfl ⟨formV_eq hV.out, ?_⟩
      exact set4 HB2.out (Nat.le_refl _) _ _ _ _

end Go.Proofs.YtnoghelkcbjfiaaGreatDoor
