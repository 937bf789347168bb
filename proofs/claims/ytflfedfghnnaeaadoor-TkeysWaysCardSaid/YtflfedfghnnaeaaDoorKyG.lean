/- The walk over lives of chapter 10; no statement of the seat is proved here. -/
import Derived.Test.YtflfedfghnnaeaaDoorKyF
namespace Go.Proofs.YtflfedfghnnaeaaDoor
open Go.RowKit

theorem bare_a : FormOf [97] [97] := .bare (by decide) (by decide)
theorem foll1 {x : UInt8} {r : List UInt8} (h : (bareB x.toNat == false && x.toNat != 34 && x.toNat != 39) = true) : Foll (x :: r) := by
  simp at h
  exact Foll.cons ⟨h.1.1, h.1.2, h.2⟩
def liveE : List Ent := [([97], 0, 1), ([98, 46, 99], 4, 9)]
theorem live1 : KeyR [97, 32, 46, 32, 34, 98, 46, 99, 34, 32, 61, 32, 49] 2 0 (liveE, 9, 0, 0) := by
  have h1 : WordAt [97, 32, 46, 32, 34, 98, 46, 99, 34, 32, 61, 32, 49] 0 [97] 1 := ⟨[97], [32, 46, 32, 34, 98, 46, 99, 34, 32, 61, 32, 49], rfl, bare_a, foll1 (by decide), rfl⟩
  have h2 : WordAt [97, 32, 46, 32, 34, 98, 46, 99, 34, 32, 61, 32, 49] 4 [98, 46, 99] 9 := ⟨writeQ [98, 46, 99], [32, 61, 32, 49], by decide +kernel, .basic _, foll1 (by decide), by decide +kernel⟩
  have hk := KeyR.more h1 (by decide +kernel) (KeyR.last (i := 4) h2 (by decide +kernel))
  rw [if_pos rfl] at hk
  exact hk
theorem live2 : KeyR [97, 46] 2 0 ([], 0, 3, 2) := by
  have h1 : WordAt [97, 46] 0 [97] 1 := ⟨[97], [46], rfl, bare_a, foll1 (by decide), rfl⟩
  have hk := KeyR.more h1 (by decide +kernel) (KeyR.bad (i := 2) ⟨by decide, Foll.nil⟩)
  rw [if_neg (by decide)] at hk
  exact hk
theorem live3 : KeyR [61, 32, 49] 1 0 ([], 0, 3, 0) := KeyR.bad ⟨by decide, foll1 (by decide)⟩
theorem live4 : keyL [⟨#[97]⟩, ⟨#[98, 46, 99]⟩, ⟨#[]⟩] = [97, 46, 34, 98, 46, 99, 34, 46, 34, 34] := by decide +kernel
theorem TxA.made2 (w : World) (x y : ByteArray) : TxA (w.alloc (.cells #[.string x, .string y] 9)) w.heap.size 0 [x, y] :=
  ⟨by simp, fun j hj => by
    have h := heap_new1 w (.cells #[.string x, .string y] 9)
    match j, hj with
    | 0, _ => exact blk_cell h 0
    | 1, _ => exact blk_cell h 1⟩

set_option maxRecDepth 100000 in
set_option maxHeartbeats 4000000 in
theorem lives_any (w : World) (hG : Glob w) : Calls Tryd.prog 6 #[] w fun e w' => e = .returned (.bool true) ∧ Below w.heap.size w w' := by
  have HG := Lib.hid hG; clear hG
  go_enter Tryd.func6, Tryd.ntmps6
  go_wp2_with fail
  refine (read_key ⟨#[97, 32, 46, 32, 34, 98, 46, 99, 34, 32, 61, 32, 49]⟩ (by decide) 2 0 _ live1 (by decide) (by decide) w HG.out).mono ?_
  rintro e w1 (⟨_, A, B, rfl, hT, hS, hb1⟩ | ⟨h0, _⟩)
  · obtain ⟨g, rfl, hg1, hg2, hg3⟩ := hS
    have hA0 := hg3 0 (by decide)
    have hA1 := hg3 1 (by decide)
    have HB1 := Lib.hid hb1
    have hl2 : liveE.length = 2 := rfl
    dsimp only
    rw [hl2]
    clear hT hb1 hg1 hl2
    obtain ⟨w2, hw2⟩ : ∃ w2, w2 = ((w1.alloc (.cells #[.slice A 2 2, .slice (some ⟨g, 0, none⟩) 2 2] 30)).alloc (.cells #[.int .i64 0, .int .i64 0] 33)).alloc (.cells #[.string ⟨#[97]⟩, .string ⟨#[98, 46, 99]⟩] 9) := ⟨_, rfl⟩
    have hb2 : Below w1.heap.size w1 w2 := by rw [hw2]; exact ((below_new1 w1 _).trans ((below_new1 _ _).mono (by simp))).trans ((below_new1 _ _).mono (by simp; omega))
    have hk2 : w2.heap[w1.heap.size]? = some (.cells #[.slice A 2 2, .slice (some ⟨g, 0, none⟩) 2 2] 30 (0, 0)) := by
      rw [hw2]
      exact blk_later (heap_new2 w1 _ _).1 (below_new1 _ _) (by simp; omega)
    have hM2 : TxA w2 (w1.heap.size + 2) 0 [⟨#[97]⟩, ⟨#[98, 46, 99]⟩] := by
      have := TxA.made2 ((w1.alloc (.cells #[.slice A 2 2, .slice (some ⟨g, 0, none⟩) 2 2] 30)).alloc (.cells #[.int .i64 0, .int .i64 0] 33)) ⟨#[97]⟩ ⟨#[98, 46, 99]⟩
      rw [← hw2] at this
      simpa using this
    have hB2 := HB1.out.trans (hb2.mono HB1.out.size)
    have hG2 := HG.out.keep hB2 (Nat.le_refl _)
    have HIS := Lib.hid (is_of ⟨#[97, 32, 46, 32, 34, 98, 46, 99, 34, 32, 61, 32, 49]⟩ 0 liveE 9 [⟨#[97]⟩, ⟨#[98, 46, 99]⟩] ⟨rfl, fun j h h' => by match j, h with | 0, _ => rfl | 1, _ => rfl⟩ (by decide) (w1.heap.size + 2) 0 2 2 rfl w2 hM2 (read_key ⟨#[97, 32, 46, 32, 34, 98, 46, 99, 34, 32, 61, 32, 49]⟩ (by decide) 2 0 _ live1 (by decide) (by decide) w2 hG2))
    have HK2 := Lib.hid hk2; have HBB2 := Lib.hid hB2
    have hA0' := (hb2.cell (p := ⟨g, 2 * 0, none⟩) hg2).trans hA0.1
    have hA0'' := (hb2.cell (p := ⟨g, 2 * 0 + 1, none⟩) hg2).trans hA0.2
    have hA1' := (hb2.cell (p := ⟨g, 2 * 1, none⟩) hg2).trans hA1.1
    have hA1'' := (hb2.cell (p := ⟨g, 2 * 1 + 1, none⟩) hg2).trans hA1.2
    have HA := Lib.hid (And.intro hA0' (And.intro hA0'' (And.intro hA1' hA1'')))
    have hgl : Hid (g < w2.heap.size) := Nat.lt_of_lt_of_le hg2 hb2.size
    clear hA0 hA1 hA0' hA0'' hA1' hA1'' hg3 hb2 hk2 hM2 hB2 hG2
    go_wp2_with fail
    rw [← hw2]
    refine HIS.out.mono ?_
    rintro e w3 ⟨rfl, hb3⟩
    clear hw2 HIS
    have hk3 := blk_later HK2.out hb3 (blk_lt HK2.out)
    have e1 : w3.cell? ⟨w1.heap.size, 1, none⟩ = some (.slice (some ⟨g, 0, none⟩) 2 2) := blk_cell hk3 1
    obtain ⟨a0, a1, a2, a3⟩ := HA.out
    have c0 : w3.cell? ⟨g, 0, none⟩ = some (.int .i64 0) := (hb3.cell (p := ⟨g, 0, none⟩) hgl.out).trans a0
    have c1 : w3.cell? ⟨g, 1, none⟩ = some (.int .i64 1) := (hb3.cell (p := ⟨g, 1, none⟩) hgl.out).trans a1
    have c2 : w3.cell? ⟨g, 2, none⟩ = some (.int .i64 4) := (hb3.cell (p := ⟨g, 2, none⟩) hgl.out).trans a2
    have c3 : w3.cell? ⟨g, 3, none⟩ = some (.int .i64 9) := (hb3.cell (p := ⟨g, 3, none⟩) hgl.out).trans a3
    have HB3 := Lib.hid (HBB2.out.trans (hb3.mono HBB2.out.size))
    clear a0 a1 a2 a3 hb3 hk3
    have HF2 := Lib.hid (fun W (h : Below w.heap.size w W) => fails_of ⟨#[97, 46]⟩ 0 2 W (read_key ⟨#[97, 46]⟩ (by decide) 2 0 _ live2 (by decide) (by decide) W (HG.out.keep h (Nat.le_refl _))))
    have HF3 := Lib.hid (fun W (h : Below w.heap.size w W) => fails_of ⟨#[61, 32, 49]⟩ 0 0 W (read_key ⟨#[61, 32, 49]⟩ (by decide) 1 0 _ live3 (by decide) (by decide) W (HG.out.keep h (Nat.le_refl _))))
    go_wp2_with (first
      | (go_at_call 8; (with_reducible refine (HF2.out _ HB3.out).mono ?_); rintro e w4 ⟨rfl, hb4⟩; have HB4 := Lib.hid (HB3.out.trans (hb4.mono HB3.out.size)); clear hb4)
      | (go_at_call 8; (with_reducible refine (HF3.out _ HB4.out).mono ?_); rintro e w5 ⟨rfl, hb5⟩; have HB5 := Lib.hid (HB4.out.trans (hb5.mono HB4.out.size)); clear hb5)
      | fail)
    have hB6 := HB5.out.trans ((below_new1 w5 (.cells #[.string ⟨#[97]⟩, .string ⟨#[98, 46, 99]⟩, .string ⟨#[]⟩] 9)).mono HB5.out.size)
    refine (twrite_is [⟨#[97]⟩, ⟨#[98, 46, 99]⟩, ⟨#[]⟩] (by decide) (by decide) 3 3 rfl (by decide) w5.heap.size 0 _ (fun j hj => by
      have h := heap_new1 w5 (.cells #[.string ⟨#[97]⟩, .string ⟨#[98, 46, 99]⟩, .string ⟨#[]⟩] 9)
      match j, hj with
      | 0, _ => exact blk_cell h 0
      | 1, _ => exact blk_cell h 1
      | 2, _ => exact blk_cell h 2) (HG.out.keep hB6 (Nat.le_refl _))).mono ?_
    rintro e w6 ⟨rfl, hb6⟩
    rw [live4]
    go_wp2
    go_ret
    exact ⟨rfl, hB6.trans (hb6.mono hB6.size)⟩
  · exact absurd rfl h0

end Go.Proofs.YtflfedfghnnaeaaDoor
