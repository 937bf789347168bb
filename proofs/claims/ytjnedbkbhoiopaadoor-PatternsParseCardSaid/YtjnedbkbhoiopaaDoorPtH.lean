/- Walks over package patterns: Spell, id; no statement of the seat is proved here. -/
import Derived.Test.YtjnedbkbhoiopaaDoorPtG
import Derived.Test.YtjnedbkbhoiopaaDoorBld2
import Derived.Laws.ShiftsVarLaws
namespace Go.Proofs.YtjnedbkbhoiopaaDoor
open Go.RowKit

set_option maxRecDepth 100000 in
theorem hexc_ix (v : Nat) (h : v < 16) : ∀ W : World, (Instr.index 9 (.string ⟨#[48, 49, 50, 51, 52, 53, 54, 55, 56, 57, 97, 98, 99, 100, 101, 102]⟩) (.int .u8 (v : Int))).run Tryd.prog W = .ok (.int .u8 (((hexc v).toNat : Nat) : Int)) W := by
  have hv : v = 0 ∨ v = 1 ∨ v = 2 ∨ v = 3 ∨ v = 4 ∨ v = 5 ∨ v = 6 ∨ v = 7 ∨ v = 8 ∨ v = 9 ∨ v = 10 ∨ v = 11 ∨ v = 12 ∨ v = 13 ∨ v = 14 ∨ v = 15 := by omega
  rcases hv with rfl | rfl | rfl | rfl | rfl | rfl | rfl | rfl | rfl | rfl | rfl | rfl | rfl | rfl | rfl | rfl
  all_goals exact fun W => by kernel_rfl
theorem and15 : ∀ x : UInt8, bits .and .u8 (x.toNat : Int) 15 = ((x.toNat % 16 : Nat) : Int) := u8_all (by decide +kernel)
theorem shr4 : ∀ x : UInt8, (x.toNat : Int) / 16 = ((x.toNat / 16 : Nat) : Int) := fun x => by omega
theorem spell_len (l : List UInt8) : (spellL l).length ≤ 3 * l.length := by
  induction l with
  | nil => simp [spellL]
  | cons c l ih =>
    have : (spellC c).length ≤ 3 := by unfold spellC; split <;> simp
    have e : spellL (c :: l) = spellC c ++ spellL l := rfl
    rw [e]; simp; omega
theorem spell_take (l : List UInt8) (k : Nat) (h : k < l.length) : spellL (l.take (k + 1)) = spellL (l.take k) ++ spellC l[k] := by
  unfold spellL; rw [List.take_succ_eq_append_getElem h, List.flatMap_append]; simp

set_option maxRecDepth 100000 in
set_option maxHeartbeats 2000000 in
theorem spell_is (s : ByteArray) (hs : s.size ≤ 1000000) (w : World) :
    Calls Tryd.prog 15 #[.string s] w fun e w' => e = .returned (.string ⟨(spellL s.data.toList).toArray⟩) ∧ Below w.heap.size w w' := by
  obtain ⟨cap, w1, hrun, hb1, hs1, hS⟩ := conv_sb (P := Tryd.prog) (w.alloc (.cells #[.pointer none, .slice none 0 0] 74)) 9 72 5 s Tryd.underlying9 Tryd.underlying72 Tryd.underlying5
  rw [size_new1] at hS hs1
  have hI0 : BQ w.heap.size w.heap.size (w.heap.size + 1) [] w1 := BQ.new (by rw [size_new1] at hb1; exact hb1) (by omega) hs1
  have hb01 : Below w.heap.size w w1 := (below_new1 w _).trans (hb1.mono (by simp))
  have hsl : s.data.toList.length = s.size := by simp
  have HSL := Lib.hid hsl; clear hsl
  have HS := Lib.hid hS; clear hS
  have HI := Lib.hid hI0; clear hI0
  have HB := Lib.hid hb01; clear hb01
  have HB1 := Lib.hid hb1; clear hb1 hs1
  go_enter Tryd.func15, Tryd.ntmps15
  go_wp2
  go_loopg [5, 9] s.size (fun g s5 s9 wr => ∃ k : Nat, s9 = .int .i64 k ∧ k ≤ s.size ∧ Hid (g = s.size - k) ∧
    Hid (BQ w.heap.size w.heap.size (w.heap.size + 1) (spellL (s.data.toList.take k)) wr) ∧ Hid (wr.heap[w.heap.size + 1]? = w1.heap[w.heap.size + 1]?) ∧ Hid (Below w.heap.size w wr))
  case atStart => exact ⟨0, rfl, by omega, rfl, HI.out, rfl, HB.out⟩
  case round =>
    obtain ⟨k, rfl, hk, hg, HQ, HO, HW⟩ := hrel
    have hbase := HQ.out.2.2.1
    by_cases hlt : k < s.size
    · have hk' : k < s.data.toList.length := by rw [HSL.out]; exact hlt
      have hca : wr.cell? ⟨w.heap.size + 1, k, none⟩ = some (.int .u8 ((s.data.toList[k].toNat : Nat) : Int)) := by
        obtain ⟨a, e, _, hc⟩ := HS.out k hk'
        cases e
        rw [add_plain, Nat.zero_add] at hc
        rw [← hc]
        exact World.cell?_of_block (a := ⟨w.heap.size + 1, k, none⟩) HO.out
      obtain ⟨x, hx⟩ : ∃ x, Hid (s.data.toList[k] = x) := ⟨s.data.toList[k], rfl⟩
      rw [hx.out] at hca
      have hnext : Hid (spellL (s.data.toList.take k) ++ spellC x = spellL (s.data.toList.take (k + 1))) := by
        show _ = _
        rw [spell_take _ _ hk', hx.out]
      have hL : Hid ((spellL (s.data.toList.take k)).length ≤ 3000000) := by
        show _ ≤ _
        have := spell_len (s.data.toList.take k)
        rw [List.length_take] at this; omega
      obtain ⟨sp, hsp⟩ : ∃ sp, spec x = sp := ⟨_, rfl⟩
      have SP := Lib.hid (fun w => special_any x sp hsp w)
      obtain ⟨hi, hhi⟩ : ∃ hi : Bool, decide (128 ≤ (x.toNat : Int)) = hi := ⟨_, rfl⟩
      have hC : Hid (spellC x = if (sp || hi) = true then [37, hexc (x.toNat / 16), hexc (x.toNat % 16)] else [x]) := by
        show _ = _
        unfold spellC
        have : decide (128 ≤ (x.toNat : Int)) = decide (128 ≤ x.toNat) := by rw [decide_eq_decide]; omega
        rw [hsp, ← hhi, this]
      clear hsp
      by_cases hq : (sp || hi) = true
      · have hC' := Lib.hid (hC.out.trans (if_pos hq)); clear hC
        have hq' : sp = true ∨ (sp = false ∧ hi = true) := by cases sp <;> simp_all
        clear hq
        have hix1 := fun W => hexc_ix (x.toNat / 16) (by have := x.toNat_lt; omega) W
        have hix2 := fun W => hexc_ix (x.toNat % 16) (by omega) W
        rw [← and15] at hix2
        rw [Int.natCast_ediv] at hix1
        simp only [Int.cast_ofNat_Int] at hix1
        have HN := Lib.hid (writeQ w.heap.size w.heap.size (w.heap.size + 1) (spellL (s.data.toList.take k)) wr.heap.size [37, hexc (x.toNat / 16), hexc (x.toNat % 16)] (Nat.zero_lt_succ _) 3 rfl 3 ((wr.alloc (.cells #[.int .u8 37, .int .u8 (((hexc (x.toNat / 16)).toNat : Nat) : Int), .int .u8 (((hexc (x.toNat % 16)).toNat : Nat) : Int)] 5)).drew) (news_at (heap_new1 wr _)) (HQ.out.keep (below_new1 wr _).drew (Nat.le_refl _)) (by omega) (by have := hL.out; simp; omega) (by simp; omega))
        rcases hq' with rfl | ⟨rfl, rfl⟩
        all_goals (
          go_wp2_with (go_at_call 35; (with_reducible refine (SP.out _).mono ?_); rintro e w' ⟨rfl, rfl⟩)
          go_region_with (go_at_call 36; (with_reducible refine Calls.mono HN.out ?_); rintro e w2 ⟨rfl, hq2⟩))
        all_goals (
          obtain ⟨q1, q2, q3⟩ := hq2
          have q4 := q3.trans ((below_new1 wr _).drew.block (w.heap.size + 1) hbase)
          have q5 := HW.out.trans (((below_new1 wr _).drew.mono (by omega)).trans q2)
          rw [← hC'.out, hnext.out] at q1
          have Q1 := Lib.hid q1; have Q4 := Lib.hid (q4.trans HO.out); have Q5 := Lib.hid q5
          clear q1 q2 q3 q4 q5
          go_wp2
          go_roundg (s.size - (k + 1))
          case measure => have := hg.out; omega
          case rel => exact ⟨k + 1, by go_num, by omega, rfl, Q1.out, Q4.out, Q5.out⟩)
      · have hC' := Lib.hid (hC.out.trans (if_neg hq)); clear hC
        obtain ⟨rfl, rfl⟩ : sp = false ∧ hi = false := by cases sp <;> cases hi <;> simp_all
        clear hq
        have HN := Lib.hid (writeByteQ w.heap.size w.heap.size (w.heap.size + 1) (spellL (s.data.toList.take k)) x _ HQ.out (by have := hL.out; omega) (by omega))
        go_wp2_with (first
          | (go_at_call 35; (with_reducible refine (SP.out _).mono ?_); rintro e w' ⟨rfl, rfl⟩)
          | (go_at_call 37; (with_reducible refine Calls.mono HN.out ?_); rintro e w2 ⟨rfl, hq2⟩))
        obtain ⟨q1, q2, q3⟩ := hq2
        have q5 := HW.out.trans q2
        rw [← hC'.out, hnext.out] at q1
        have Q1 := Lib.hid q1; have Q4 := Lib.hid (q3.trans HO.out); have Q5 := Lib.hid q5
        clear q1 q2 q3 q5
        go_wp2
        go_roundg (s.size - (k + 1))
        case measure => have := hg.out; omega
        case rel => exact ⟨k + 1, by go_num, by omega, rfl, Q1.out, Q4.out, Q5.out⟩
    · have hks : k = s.size := by omega
      have htk : Hid (spellL (s.data.toList.take k) = spellL s.data.toList) := by
        show _ = _
        rw [hks, ← HSL.out, List.take_length]
      rw [htk.out] at HQ
      have ST := Lib.hid (Tryd.Builder_String_any w.heap.size w.heap.size (spellL s.data.toList) wr HQ.out.is (by omega))
      go_wp2_with (go_at_call 32; (with_reducible refine Calls.mono ST.out ?_); rintro e w2 ⟨rfl, hb2⟩)
      go_ret
      exact ⟨rfl, HW.out.trans hb2⟩

end Go.Proofs.YtjnedbkbhoiopaaDoor
