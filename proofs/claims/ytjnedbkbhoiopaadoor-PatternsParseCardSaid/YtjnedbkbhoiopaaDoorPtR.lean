/- The walk over patterns' Text; no statement of the seat is proved here. -/
import Derived.Test.YtjnedbkbhoiopaaDoorPtO
import Derived.Test.YtjnedbkbhoiopaaDoorBld3
namespace Go.Proofs.YtjnedbkbhoiopaaDoor
open Go.RowKit

theorem texts_take (ps : List Pat) (k : Nat) (h : k < ps.length) : (ps.take (k + 1)).flatMap Pat.text = (ps.take k).flatMap Pat.text ++ ps[k].text := by
  rw [List.take_succ_eq_append_getElem h, List.flatMap_append]; simp

set_option maxRecDepth 100000 in
set_option maxHeartbeats 8000000 in
theorem text_is (base b : Nat) (A : Option Addr) (c : Nat) (q : List (Pat × Value)) (w : World) (hP : PB w base b A c q) (hl : ((q.map (·.1)).flatMap Pat.text).length ≤ 140737488355327) :
    Calls Tryd.prog 11 #[.pointer (some ⟨b, 0, none⟩)] w fun e w' => e = .returned (.string ⟨(textL (q.map (·.1))).toArray⟩) ∧ Below w.heap.size w w' := by
  obtain ⟨c0, c1, _, hb⟩ := hP.cells
  cases q with
  | nil =>
    have c1' : w.cell? ⟨b, 1, none⟩ = some (.slice A 0 c) := c1
    clear c1
    go_enter Tryd.func11, Tryd.ntmps11
    go_wp2
    go_ret
    exact ⟨rfl, Below.refl _ _⟩
  | cons x0 q0 =>
    obtain ⟨q, hq⟩ : ∃ q, q = x0 :: q0 := ⟨_, rfl⟩
    rw [← hq] at hP c1 hl ⊢
    have hqn : 0 < q.length := by rw [hq]; simp
    have hqe : q.map (·.1) ≠ [] := by rw [hq]; simp
    have b0 : ((q.length : Int) == 0) = false := by rw [beq_eq_false_iff_ne]; omega
    have hqm : q.length ≤ 9223372036854775807 := by
      rcases hP.2.1.2 with ⟨_, h⟩ | ⟨g, cap, cur, _, _, _, h1, h2, _⟩
      · omega
      · simp only [maxLen] at h2; omega
    have HP := Lib.hid hP; have HQ := Lib.hid hqe; have HL := Lib.hid hl
    clear hP hq hqe hl
    have hI0 := builder_new w _ rfl
    have HI := Lib.hid hI0
    clear hI0
    go_enter Tryd.func11, Tryd.ntmps11
    go_wp2
    go_loopg [26] q.length (fun g s26 wr => ∃ k : Nat, s26 = .int .i64 (k : Int) ∧ k ≤ q.length ∧ Hid (g = q.length - k) ∧
      Hid (Lib.IsBuilder 74 5 w.heap.size w.heap.size (byteVals (((q.map (·.1)).take k).flatMap Pat.text)) wr) ∧ Hid (Below w.heap.size w wr))
    case atStart => exact ⟨0, rfl, by omega, rfl, HI.out, below_new1 w _⟩
    case round =>
      obtain ⟨k, rfl, hk, hg, HI2, HB⟩ := hrel
      have hs2 := HB.out.size
      by_cases hlt : k < q.length
      · obtain ⟨g, rfl, hgl, e0, e1, e2⟩ := (HP.out.keep HB.out (Nat.le_refl _)).step hlt
        have ht := HP.out.2.2 q[k] (List.getElem_mem hlt)
        have hlt' : k < (q.map (·.1)).length := by simpa using hlt
        have hnx := texts_take (q.map (·.1)) k hlt'
        rw [List.getElem_map] at hnx
        have hle : (((q.map (·.1)).take (k + 1)).flatMap Pat.text).length ≤ 140737488355327 := by
          refine Nat.le_trans ?_ HL.out
          conv => rhs; rw [← List.take_append_drop (k + 1) (q.map (·.1)), List.flatMap_append, List.length_append]
          omega
        obtain ⟨⟨p, f⟩, hqk⟩ : ∃ x, q[k] = x := ⟨_, rfl⟩
        rw [hqk] at e0 e1 e2 ht hnx
        obtain ⟨F, cap, hf⟩ := tk_func ht
        dsimp only at hf e0 e1 e2 hnx
        subst hf
        obtain ⟨S, hS⟩ : ∃ S : ByteArray, (⟨p.text.toArray⟩ : ByteArray) = S := ⟨_, rfl⟩
        obtain ⟨an, han⟩ : ∃ an, p.any = an := ⟨_, rfl⟩
        rw [hS] at e0
        rw [han] at e2
        have hSd : S.data.toList = p.text := by rw [← hS]
        rw [← hSd] at hnx
        have HX := Lib.hid hnx
        have hbl := builder_lt HI2.out
        have WS := Lib.hid (writeString_any w.heap.size w.heap.size (((q.map (·.1)).take k).flatMap Pat.text) S (wr.alloc (.cells #[.string S, .func (.func F) #[] cap, .bool an] 65)) (builder_keep HI2.out (below_new1 wr _) (Nat.le_refl _)) (by
          rw [hnx, List.length_append] at hle
          rw [show S.size = S.data.toList.length from rfl]; omega) (by rw [size_new1]; omega))
        clear hqk hS han ht hlt' hnx hle hSd
        go_wp2_with (go_at_call 31; (with_reducible refine Calls.mono WS.out ?_); rintro x w2 ⟨⟨rfl, hi2⟩, hb2⟩; rw [← HX.out] at hi2; have HI3 := Lib.hid hi2; have HB3 := Lib.hid ((HB.out.trans ((below_new1 wr _).mono hs2)).trans hb2); clear hi2 hb2)
        go_roundg (q.length - (k + 1))
        case measure => have := hg.out; omega
        case rel => exact ⟨k + 1, by go_num, by omega, rfl, HI3.out, HB3.out⟩
      · have hkq : k = q.length := by omega
        have htk : Hid (((q.map (·.1)).take k).flatMap Pat.text = textL (q.map (·.1))) := by
          show _ = _
          rw [hkq, textL, if_neg HQ.out]
          congr 1
          exact List.take_of_length_le (by simp)
        rw [htk.out] at HI2
        obtain ⟨T, hT⟩ : ∃ T, textL (q.map (·.1)) = T := ⟨_, rfl⟩
        rw [hT] at HI2
        have HT := Lib.hid hT
        have ST := Lib.hid (Tryd.Builder_String_any w.heap.size w.heap.size T wr HI2.out (by omega))
        clear hkq hT
        go_wp2_with (go_at_call 32; (with_reducible refine Calls.mono ST.out ?_); rintro e w2 ⟨rfl, hb2⟩)
        go_ret
        exact ⟨by rw [HT.out]; rfl, HB.out.trans hb2⟩

end Go.Proofs.YtjnedbkbhoiopaaDoor
