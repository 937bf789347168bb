/- Walks over chapter 07's reference: form, when there are a date and a time; no statement of the seat is proved here. -/
import Derived.Test.YtnoghelkcbjfiaaGreatDoorDtT
namespace Go.Proofs.YtnoghelkcbjfiaaGreatDoor
open Go.RowKit

set_option maxHeartbeats 2000000 in
theorem form_both (s : ByteArray) (hs : s.size ≤ 549755813888) (hD : isD s.data.toList 0 = true) (hM : midB s.data.toList = true) (hC : isC s.data.toList 11 = true) (w : World) :
    Calls Tryz.prog 16 #[.string s] w fun e w' => e = .returned (formV (spl s.data.toList)) ∧ Below w.heap.size w w' := by
  have hs : s.size ≤ 1099511627776 := by omega
  have h1 : Hid (dateZ s.data.toList 0 = 10) := by show _ = _; rw [dateZ, if_pos hD]; rfl
  obtain ⟨n, hn⟩ : ∃ n, Hid (pN (partN s.data.toList 19) = n) := ⟨pN (partN s.data.toList 19), rfl⟩
  have hn1 : n ≤ 549755813890 := by
    have h5 : partN s.data.toList 19 ≤ s.data.toList.length := by
      unfold partN; split
      · have := runD_le s.data.toList (19 + 1); omega
      · omega
    have h6 : n ≤ partN s.data.toList 19 + 1 := by rw [← hn.out]; unfold pN; split <;> omega
    rw [size_list] at h5
    omega
  have h2 : Hid (clockZ s.data.toList 11 = 19 + (n : Int)) := by show _ = _; rw [clockZ, if_pos hC, hn.out]; simp
  obtain ⟨z, hz⟩ : ∃ z, Hid (zoneN s.data.toList (19 + n) = z) := ⟨zoneN s.data.toList (19 + n), rfl⟩
  have hS : Hid (spl s.data.toList = ⟨true, true, 11, partN s.data.toList 19, z⟩) := by
    show _ = _
    rw [spl, if_pos hD, if_pos (by rw [hM, hC]; rfl), hn.out, hz.out]
  have hM' : bt s.data.toList 10 = 84 ∨ bt s.data.toList 10 = 116 ∨ bt s.data.toList 10 = 32 := by unfold midB at hM; simpa using hM
  obtain ⟨b1, t84⟩ : ∃ b, Hid (decide (bt s.data.toList 10 = 84) = b) := ⟨decide (bt s.data.toList 10 = 84), rfl⟩
  obtain ⟨b2, t116⟩ : ∃ b, Hid (decide (bt s.data.toList 10 = 116) = b) := ⟨decide (bt s.data.toList 10 = 116), rfl⟩
  obtain ⟨b3, t32⟩ : ∃ b, Hid (decide (bt s.data.toList 10 = 32) = b) := ⟨decide (bt s.data.toList 10 = 32), rfl⟩
  have hbb : (b1 = true ∧ b2 = false ∧ b3 = false) ∨ (b1 = false ∧ b2 = true ∧ b3 = false) ∨ (b1 = false ∧ b2 = false ∧ b3 = true) := by
    have e1 := t84.out; have e2 := t116.out; have e3 := t32.out
    rcases hM' with h | h | h <;> (rw [h] at e1 e2 e3; simp at e1 e2 e3; subst e1 e2 e3; simp)
  clear hD hM hC hM'
  by_cases hz0 : z = 0
  · have h3 : Hid (zoneZ s.data.toList (19 + n) = -1) := by show _ = _; rw [zoneZ, if_pos (by rw [hz.out]; exact hz0)]
    have hV : Hid (.agg #[.int .i64 3, .int .i64 11, .int .i64 (-1), .int .i64 (19 + (n : Int))] = formV (spl s.data.toList)) := by
      show _ = _
      rw [hS.out, hz0]; exact formV_of rfl rfl rfl (by simp [Parts.long, Parts.zAt, hn.out])
    clear hz0
    rcases hbb with ⟨rfl, rfl, rfl⟩ | ⟨rfl, rfl, rfl⟩ | ⟨rfl, rfl, rfl⟩
    all_goals
      go_enter Tryz.func16, Tryz.ntmps16
      go_wp2_with (first
        | (go_at_call 28; (with_reducible refine (date_0 s hs _ h1 _).mono ?_); rintro e w1 ⟨rfl, hb1⟩; obtain ⟨hc1, hf1⟩ := bcell hb1; have hz1 : w.heap.size + 1 < w1.heap.size := (by have := hb1.size; simp at this; omega); have hz1' : w.heap.size < w1.heap.size := (by omega); have HB1 : Hid (Below w.heap.size w w1) := (below_new2 w _ _).trans (hb1.mono (by simp; omega)); have HR1 : Hid (w1.heap[w.heap.size]? = some (.cells #[.int .i64 0, .int .i64 0, .int .i64 0, .int .i64 0] 37 (0, 0))) := blk_later (heap_new2 w _ _).1 hb1 (by simp; omega); have HF1 : Hid (w1.heap[w.heap.size + 1]? = some (.cells #[.int .i64 0, .int .i64 (-1), .int .i64 (-1), .int .i64 0] 37 (0, 0))) := blk_later (heap_new2 w _ _).2 hb1 (by simp))
        | (go_at_call 30; (first | (with_reducible refine (is_c s hs _ 10 (by omega) 84 84 (by omega) (by omega) _ t84 _).mono ?_) | (with_reducible refine (is_c s hs _ 10 (by omega) 116 116 (by omega) (by omega) _ t116 _).mono ?_) | (with_reducible refine (is_c s hs _ 10 (by omega) 32 32 (by omega) (by omega) _ t32 _).mono ?_)); rintro e w' ⟨rfl, rfl⟩)
        | (go_at_call 29; (with_reducible refine (clock_v s hs _ 11 (by omega) (by omega) _ h2 _).mono ?_); rintro e w2 ⟨rfl, hb2⟩; have hz2 : w.heap.size + 1 < w2.heap.size := (by have := hb2.size; simp at this; omega); have hz2' : w.heap.size < w2.heap.size := (by omega); have HB2 : Hid (Below w.heap.size w w2) := (set4 HB1.out (by omega) _ _ _ _).trans (hb2.mono (by simp; omega)); have HR2 : Hid (w2.heap[w.heap.size]? = some (.cells #[.int .i64 0, .int .i64 0, .int .i64 0, .int .i64 0] 37 (0, 0))) := blk_later (set4_blk HR1.out (by omega) _ _ _ _) hb2 (by simp; omega); have HF2 : Hid (w2.heap[w.heap.size + 1]? = some (.cells #[.int .i64 1, .int .i64 (-1), .int .i64 (-1), .int .i64 10] 37 (0, 0))) := blk_later (set4_own HF1.out _ _ _ _) hb2 (by simp; omega); have q0 : w2.cell? ⟨w.heap.size + 1, 0, none⟩ = some (.int .i64 1) := blk_cell HF2.out 0; have q1 : w2.cell? ⟨w.heap.size + 1, 1, none⟩ = some (.int .i64 (-1)) := blk_cell HF2.out 1; have q2 : w2.cell? ⟨w.heap.size + 1, 2, none⟩ = some (.int .i64 (-1)) := blk_cell HF2.out 2; have q3 : w2.cell? ⟨w.heap.size + 1, 3, none⟩ = some (.int .i64 10) := blk_cell HF2.out 3; have qf : ∀ i, w2.frozen? ⟨w.heap.size + 1, i, none⟩ = false := fun i => blk_frozen HF2.out i)
        | (go_at_call 31; (with_reducible refine (rzone_v s hs _ (19 + n) (by omega) (by omega) _ h3 _).mono ?_); rintro e w3 ⟨rfl, hb3⟩; have hz3 : w.heap.size + 1 < w3.heap.size := (by have := hb3.size; simp at this; omega); have hz3' : w.heap.size < w3.heap.size := (by omega); have HB3 : Hid (Below w.heap.size w w3) := (set4 HB2.out (by omega) _ _ _ _).trans (hb3.mono (by simp; omega)); have HR3 : Hid (w3.heap[w.heap.size]? = some (.cells #[.int .i64 0, .int .i64 0, .int .i64 0, .int .i64 0] 37 (0, 0))) := blk_later (set4_blk HR2.out (by omega) _ _ _ _) hb3 (by simp; omega); have HF3 : Hid (w3.heap[w.heap.size + 1]? = some (.cells #[.int .i64 3, .int .i64 11, .int .i64 (-1), .int .i64 (19 + (n : Int))] 37 (0, 0))) := blk_later (set4_own HF2.out _ _ _ _) hb3 (by simp; omega); have o0 : w3.cell? ⟨w.heap.size + 1, 0, none⟩ = some (.int .i64 3) := blk_cell HF3.out 0; have o1 : w3.cell? ⟨w.heap.size + 1, 1, none⟩ = some (.int .i64 11) := blk_cell HF3.out 1; have o2 : w3.cell? ⟨w.heap.size + 1, 2, none⟩ = some (.int .i64 (-1)) := blk_cell HF3.out 2; have o3 : w3.cell? ⟨w.heap.size + 1, 3, none⟩ = some (.int .i64 (19 + (n : Int))) := blk_cell HF3.out 3; have of : ∀ i, w3.frozen? ⟨w.heap.size + 1, i, none⟩ = false := (fun i => blk_frozen HF3.out i); have e0 : w3.cell? ⟨w.heap.size, 0, none⟩ = some (.int .i64 0) := blk_cell HR3.out 0; have e1 : w3.cell? ⟨w.heap.size, 1, none⟩ = some (.int .i64 0) := blk_cell HR3.out 1; have e2 : w3.cell? ⟨w.heap.size, 2, none⟩ = some (.int .i64 0) := blk_cell HR3.out 2; have e3 : w3.cell? ⟨w.heap.size, 3, none⟩ = some (.int .i64 0) := blk_cell HR3.out 3; have ef : ∀ i, w3.frozen? ⟨w.heap.size, i, none⟩ = false := (fun i => blk_frozen HR3.out i)))
      refine bodyPost_ret (v := .agg #[.int .i64 3, .int .i64 11, .int .i64 (-1), .int .i64 (19 + (n : Int))]) (by simp [results, Tryz.results16, go_sem, e0, e1, e2, e3]) rfl ⟨formV_eq hV.out, ?_⟩
      exact set4 HB3.out (Nat.le_refl _) _ _ _ _
  · have h3 : Hid (zoneZ s.data.toList (19 + n) = 19 + (n : Int) + (z : Int)) := by show _ = _; rw [zoneZ, if_neg (by rw [hz.out]; exact hz0), hz.out]; simp
    have hV : Hid (.agg #[.int .i64 4, .int .i64 11, .int .i64 (19 + (n : Int)), .int .i64 (19 + (n : Int) + (z : Int))] = formV (spl s.data.toList)) := by
      show _ = _
      rw [hS.out]; exact formV_of (by simp [kindP, hz0]) rfl (by simp [Parts.zoneI, Parts.zAt, hn.out, hz0]) (by simp [Parts.long, Parts.zAt, hn.out])
    clear hz0
    rcases hbb with ⟨rfl, rfl, rfl⟩ | ⟨rfl, rfl, rfl⟩ | ⟨rfl, rfl, rfl⟩
    all_goals
      go_enter Tryz.func16, Tryz.ntmps16
      go_wp2_with (first
        | (go_at_call 28; (with_reducible refine (date_0 s hs _ h1 _).mono ?_); rintro e w1 ⟨rfl, hb1⟩; obtain ⟨hc1, hf1⟩ := bcell hb1; have hz1 : w.heap.size + 1 < w1.heap.size := (by have := hb1.size; simp at this; omega); have hz1' : w.heap.size < w1.heap.size := (by omega); have HB1 : Hid (Below w.heap.size w w1) := (below_new2 w _ _).trans (hb1.mono (by simp; omega)); have HR1 : Hid (w1.heap[w.heap.size]? = some (.cells #[.int .i64 0, .int .i64 0, .int .i64 0, .int .i64 0] 37 (0, 0))) := blk_later (heap_new2 w _ _).1 hb1 (by simp; omega); have HF1 : Hid (w1.heap[w.heap.size + 1]? = some (.cells #[.int .i64 0, .int .i64 (-1), .int .i64 (-1), .int .i64 0] 37 (0, 0))) := blk_later (heap_new2 w _ _).2 hb1 (by simp))
        | (go_at_call 30; (first | (with_reducible refine (is_c s hs _ 10 (by omega) 84 84 (by omega) (by omega) _ t84 _).mono ?_) | (with_reducible refine (is_c s hs _ 10 (by omega) 116 116 (by omega) (by omega) _ t116 _).mono ?_) | (with_reducible refine (is_c s hs _ 10 (by omega) 32 32 (by omega) (by omega) _ t32 _).mono ?_)); rintro e w' ⟨rfl, rfl⟩)
        | (go_at_call 29; (with_reducible refine (clock_v s hs _ 11 (by omega) (by omega) _ h2 _).mono ?_); rintro e w2 ⟨rfl, hb2⟩; have hz2 : w.heap.size + 1 < w2.heap.size := (by have := hb2.size; simp at this; omega); have hz2' : w.heap.size < w2.heap.size := (by omega); have HB2 : Hid (Below w.heap.size w w2) := (set4 HB1.out (by omega) _ _ _ _).trans (hb2.mono (by simp; omega)); have HR2 : Hid (w2.heap[w.heap.size]? = some (.cells #[.int .i64 0, .int .i64 0, .int .i64 0, .int .i64 0] 37 (0, 0))) := blk_later (set4_blk HR1.out (by omega) _ _ _ _) hb2 (by simp; omega); have HF2 : Hid (w2.heap[w.heap.size + 1]? = some (.cells #[.int .i64 1, .int .i64 (-1), .int .i64 (-1), .int .i64 10] 37 (0, 0))) := blk_later (set4_own HF1.out _ _ _ _) hb2 (by simp; omega); have q0 : w2.cell? ⟨w.heap.size + 1, 0, none⟩ = some (.int .i64 1) := blk_cell HF2.out 0; have q1 : w2.cell? ⟨w.heap.size + 1, 1, none⟩ = some (.int .i64 (-1)) := blk_cell HF2.out 1; have q2 : w2.cell? ⟨w.heap.size + 1, 2, none⟩ = some (.int .i64 (-1)) := blk_cell HF2.out 2; have q3 : w2.cell? ⟨w.heap.size + 1, 3, none⟩ = some (.int .i64 10) := blk_cell HF2.out 3; have qf : ∀ i, w2.frozen? ⟨w.heap.size + 1, i, none⟩ = false := fun i => blk_frozen HF2.out i)
        | (go_at_call 31; (with_reducible refine (rzone_v s hs _ (19 + n) (by omega) (by omega) _ h3 _).mono ?_); rintro e w3 ⟨rfl, hb3⟩; have hz3 : w.heap.size + 1 < w3.heap.size := (by have := hb3.size; simp at this; omega); have hz3' : w.heap.size < w3.heap.size := (by omega); have HB3 : Hid (Below w.heap.size w w3) := (set4 HB2.out (by omega) _ _ _ _).trans (hb3.mono (by simp; omega)); have HR3 : Hid (w3.heap[w.heap.size]? = some (.cells #[.int .i64 0, .int .i64 0, .int .i64 0, .int .i64 0] 37 (0, 0))) := blk_later (set4_blk HR2.out (by omega) _ _ _ _) hb3 (by simp; omega); have HF3 : Hid (w3.heap[w.heap.size + 1]? = some (.cells #[.int .i64 3, .int .i64 11, .int .i64 (-1), .int .i64 (19 + (n : Int))] 37 (0, 0))) := blk_later (set4_own HF2.out _ _ _ _) hb3 (by simp; omega); have o0 : w3.cell? ⟨w.heap.size + 1, 0, none⟩ = some (.int .i64 3) := blk_cell HF3.out 0; have o1 : w3.cell? ⟨w.heap.size + 1, 1, none⟩ = some (.int .i64 11) := blk_cell HF3.out 1; have o2 : w3.cell? ⟨w.heap.size + 1, 2, none⟩ = some (.int .i64 (-1)) := blk_cell HF3.out 2; have o3 : w3.cell? ⟨w.heap.size + 1, 3, none⟩ = some (.int .i64 (19 + (n : Int))) := blk_cell HF3.out 3; have of : ∀ i, w3.frozen? ⟨w.heap.size + 1, i, none⟩ = false := (fun i => blk_frozen HF3.out i); have e0 : w3.cell? ⟨w.heap.size, 0, none⟩ = some (.int .i64 0) := blk_cell HR3.out 0; have e1 : w3.cell? ⟨w.heap.size, 1, none⟩ = some (.int .i64 0) := blk_cell HR3.out 1; have e2 : w3.cell? ⟨w.heap.size, 2, none⟩ = some (.int .i64 0) := blk_cell HR3.out 2; have e3 : w3.cell? ⟨w.heap.size, 3, none⟩ = some (.int .i64 0) := blk_cell HR3.out 3; have ef : ∀ i, w3.frozen? ⟨w.heap.size, i, none⟩ = false := (fun i => blk_frozen HR3.out i)))
      refine bodyPost_ret (v := .agg #[.int .i64 4, .int .i64 11, .int .i64 (19 + (n : Int)), .int .i64 (19 + (n : Int) + (z : Int))]) (by simp [results, Tryz.results16, go_sem, e0, e1, e2, e3]) rfl ⟨formV_eq hV.out, ?_⟩
      exact set4 (set4 HB3.out (by omega) _ _ _ _) (Nat.le_refl _) _ _ _ _

theorem rform_is (s : ByteArray) (hs : s.size ≤ 549755813888) (w : World) :
    Calls Tryz.prog 16 #[.string s] w fun e w' => e = .returned (formV (spl s.data.toList)) ∧ Below w.heap.size w w' := by
  cases hD : isD s.data.toList 0
  · exact form_no s (by omega) hD w
  · cases hM : midB s.data.toList
    · exact form_day s (by omega) hD (by rw [hM]; rfl) w
    · cases hC : isC s.data.toList 11
      · exact form_day s (by omega) hD (by rw [hM, hC]; rfl) w
      · exact form_both s hs hD hM hC w

end Go.Proofs.YtnoghelkcbjfiaaGreatDoor
