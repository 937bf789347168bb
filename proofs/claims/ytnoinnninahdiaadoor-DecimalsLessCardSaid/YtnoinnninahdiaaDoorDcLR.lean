/- The walks of the laws DecimalsRead and DecimalsLess; no statement of the seat is proved here. -/
import Derived.Test.YtnoinnninahdiaaDoorDcL
import Derived.Test.YtnoinnninahdiaaDoorDcRL
import Derived.Test.YtnoinnninahdiaaDoorDcZ
namespace Go.Proofs.YtnoinnninahdiaaDoor
open Go.RowKit

/-- A row of two strings, in a world that came of w0. -/
structure R2 (w0 w : World) (N : Nat) (x y : ByteArray) : Prop where
  blk : w.heap[N]? = some (.cells #[.string x, .string y] 9 (0, 0))
  below : Below w0.heap.size w0 w
theorem R2.later {w0 w w' : World} {N : Nat} {x y : ByteArray} (h : R2 w0 w N x y) (hb : Below w.heap.size w w') : R2 w0 w' N x y := ⟨blk_later h.blk hb (blk_lt h.blk), h.below.trans (hb.mono h.below.size)⟩
theorem readD_len (s : ByteArray) (hs : s.size ≤ 100000) : (readD s.data.toList).1.length ≤ 549755813888 := by
  unfold readD
  split
  · split
    · rename_i hg
      have h1 := text_len (norm_dW hg)
      have h2 : (dW (sW s.data.toList)).digits.length ≤ 2 * s.size + 1 := by
        unfold dW normalD
        split
        · simp [Dm.zero]
        · have h3 := rstrip_len (lstrip ((sW s.data.toList).whole ++ (sW s.data.toList).part))
          have h4 := lstrip_len ((sW s.data.toList).whole ++ (sW s.data.toList).part)
          have h5 : ((sW s.data.toList).whole ++ (sW s.data.toList).part).length = (wholeL s.data.toList).length + (partL s.data.toList).length := List.length_append
          have h6 := whole_le s.data.toList
          have h7 := part_le s.data.toList
          rw [size_list] at h6 h7
          simp only; omega
      simp only; omega
    · simp
  · simp

set_option maxRecDepth 100000 in
set_option maxHeartbeats 4000000 in
theorem readlaw_walk (s : ByteArray) (w : World) (hT : TAB w) :
    Calls Tryd.prog 3 #[.string s] w fun e w' => e = .returned (.bool true) ∧ Below w.heap.size w w' := by
  have HT := Lib.hid hT
  by_cases hbig : 3000 < s.size
  · clear hT
    go_enter Tryd.func3, Tryd.ntmps3
    go_wp2_with (go_at_call 8; (with_reducible refine (lives_any _ HT.out).mono ?_); rintro e w1 ⟨rfl, hb1⟩)
    go_ret
    exact ⟨rfl, hb1⟩
  · have hs : s.size ≤ 549755813888 := by omega
    obtain ⟨r, hr⟩ := str_ex (readD s.data.toList).1
    obtain ⟨c, hc⟩ : ∃ c, (readD s.data.toList).2 = c := ⟨_, rfl⟩
    have he : readD s.data.toList = (r.data.toList, c) := by rw [hr, ← hc]
    have hrs : r.size ≤ 549755813888 := by rw [← size_list, hr]; exact readD_len s (by omega)
    have C1 := Lib.hid (fun w hT => iread_is s r c hs he w hT)
    have C2 := Lib.hid (fun w => rread_is s r c hs he w)
    obtain ⟨m1, d1, e1, b1, h1⟩ := Told.ex s.data.toList
    obtain ⟨m2, d2, e2, b2, h2⟩ := Told.ex r.data.toList
    have P1 := Lib.hid (fun w hT => parts_is s d1 m1 e1 b1 hs h1 w hT)
    have P2 := Lib.hid (fun w hT => parts_is r d2 m2 e2 b2 hrs h2 w hT)
    have P3 := Lib.hid (fun w => rparts_is s d1 m1 e1 b1 hs h1 w)
    have P4 := Lib.hid (fun w => rparts_is r d2 m2 e2 b2 hrs h2 w)
    clear hr hc he hrs h1 h2 hT
    go_enter Tryd.func3, Tryd.ntmps3
    go_wp2_with (first
      | (go_at_call 9; (with_reducible refine (C1.out _ HT.out).mono ?_); rintro x w1 ⟨rfl, hb1⟩)
      | (go_at_call 10; (with_reducible refine (C2.out _).mono ?_); rintro x w2 ⟨rfl, hb2⟩; have HB2 := Lib.hid (hb1.trans (hb2.mono hb1.size))))
    have H0 := Lib.hid (show R2 w (w2.alloc (.cells #[.string s, .string r] 9)) w2.heap.size s r from ⟨heap_new1 _ _, HB2.out.alloc HB2.out.size _⟩)
    go_loopw [8] (fun i wr => ∃ k : Nat, k ≤ 2 ∧ i = .int .i64 k ∧ Hid (R2 w wr w2.heap.size s r)) (fun i _ => 2 - (intOf i).toNat)
    case atStart => exact ⟨0, by omega, rfl, H0⟩
    case round =>
      obtain ⟨k, hk, rfl, HR⟩ := hrel
      have a0 : wr.cell? ⟨w2.heap.size, 0, none⟩ = some (.string s) := blk_cell HR.out.blk 0
      have a1 : wr.cell? ⟨w2.heap.size, 1, none⟩ = some (.string r) := blk_cell HR.out.blk 1
      have hc : k = 0 ∨ k = 1 ∨ k = 2 := by omega
      rcases hc with rfl | rfl | rfl
      · go_wp2_with (first
          | (go_at_call 11; (with_reducible refine (P1.out _ (HT.out.later HR.out.below)).mono ?_); rintro x w' ⟨rfl, hb'⟩; replace HR := Lib.hid (HR.out.later hb'); clear hb' a0; have a0 : w'.cell? ⟨w2.heap.size, 0, none⟩ = some (.string s) := blk_cell HR.out.blk 0)
          | (go_at_call 12; (with_reducible refine (P3.out _).mono ?_); rintro x w' ⟨rfl, hb'⟩; replace HR := Lib.hid (HR.out.later hb'); clear hb'))
        go_roundw
        case rel => exact ⟨1, by omega, by go_num, HR⟩
        case measure => simp [intOf]
      · go_wp2_with (first
          | (go_at_call 11; (with_reducible refine (P2.out _ (HT.out.later HR.out.below)).mono ?_); rintro x w' ⟨rfl, hb'⟩; replace HR := Lib.hid (HR.out.later hb'); clear hb' a1; have a1 : w'.cell? ⟨w2.heap.size, 1, none⟩ = some (.string r) := blk_cell HR.out.blk 1)
          | (go_at_call 12; (with_reducible refine (P4.out _).mono ?_); rintro x w' ⟨rfl, hb'⟩; replace HR := Lib.hid (HR.out.later hb'); clear hb'))
        go_roundw
        case rel => exact ⟨2, by omega, by go_num, HR⟩
        case measure => simp [intOf]
      · go_wp2_with (go_at_call 8; (with_reducible refine (lives_any _ (HT.out.later HR.out.below)).mono ?_); rintro e w' ⟨rfl, hb'⟩; replace HR := Lib.hid (HR.out.later hb'); clear hb')
        go_ret
        exact ⟨rfl, HR.out.below⟩

set_option maxRecDepth 100000 in
set_option maxHeartbeats 4000000 in
theorem lesslaw_walk (s t : ByteArray) (w : World) (hT : TAB w) :
    Calls Tryd.prog 4 #[.string s, .string t] w fun e w' => e = .returned (.bool true) ∧ Below w.heap.size w w' := by
  have HT := Lib.hid hT
  by_cases hbig : 3000 < s.size
  · clear hT
    go_enter Tryd.func4, Tryd.ntmps4
    go_wp2_with (go_at_call 8; (with_reducible refine (lives_any _ HT.out).mono ?_); rintro e w1 ⟨rfl, hb1⟩)
    go_ret
    exact ⟨rfl, hb1⟩
  · by_cases hbig2 : 3000 < t.size
    · clear hT
      go_enter Tryd.func4, Tryd.ntmps4
      go_wp2_with (go_at_call 8; (with_reducible refine (lives_any _ HT.out).mono ?_); rintro e w1 ⟨rfl, hb1⟩)
      go_ret
      exact ⟨rfl, hb1⟩
    · have hs : s.size ≤ 549755813888 := by omega
      have ht : t.size ≤ 549755813888 := by omega
      have hbb : decide ((3000 : Int) < (t.size : Int)) = false := by simp; omega
      obtain ⟨x, hx⟩ := str_ex (readD s.data.toList).1
      obtain ⟨c, hc⟩ : ∃ c, (readD s.data.toList).2 = c := ⟨_, rfl⟩
      have he : readD s.data.toList = (x.data.toList, c) := by rw [hx, ← hc]
      have hxs : x.size ≤ 549755813888 := by rw [← size_list, hx]; exact readD_len s (by omega)
      obtain ⟨y, hy⟩ := str_ex (readD t.data.toList).1
      obtain ⟨c', hc'⟩ : ∃ c, (readD t.data.toList).2 = c := ⟨_, rfl⟩
      have he' : readD t.data.toList = (y.data.toList, c') := by rw [hy, ← hc']
      have hys : y.size ≤ 549755813888 := by rw [← size_list, hy]; exact readD_len t (by omega)
      have C1 := Lib.hid (fun w => rread_is s x c hs he w)
      have C2 := Lib.hid (fun w => rread_is t y c' ht he' w)
      obtain ⟨v1, h1⟩ : ∃ v, lessT s.data.toList t.data.toList = v := ⟨_, rfl⟩
      obtain ⟨v2, h2⟩ : ∃ v, lessT x.data.toList y.data.toList = v := ⟨_, rfl⟩
      obtain ⟨v3, h3⟩ : ∃ v, lessT y.data.toList x.data.toList = v := ⟨_, rfl⟩
      have L1 := Lib.hid (fun w hT => less_is s t hs ht v1 h1 w hT)
      have L2 := Lib.hid (fun w hT => less_is x y hxs hys v2 h2 w hT)
      have L3 := Lib.hid (fun w hT => less_is y x hys hxs v3 h3 w hT)
      have L4 := Lib.hid (fun w => rless_is s t hs ht v1 h1 w)
      have L5 := Lib.hid (fun w => rless_is x y hxs hys v2 h2 w)
      have L6 := Lib.hid (fun w => rless_is y x hys hxs v3 h3 w)
      have HB : Hid (Below w.heap.size w w) := Below.refl _ _
      clear hx hc he hy hc' he' h1 h2 h3 hT
      go_enter Tryd.func4, Tryd.ntmps4
      go_wp2_with (first
        | (go_at_call 10; (first | (with_reducible refine (C1.out _).mono ?_) | (with_reducible refine (C2.out _).mono ?_)); rintro x w' ⟨rfl, hb'⟩; replace HB := Lib.hid (HB.out.trans (hb'.mono HB.out.size)); clear hb')
        | (go_at_call 13; (first | (with_reducible refine (L1.out _ (HT.out.later HB.out)).mono ?_) | (with_reducible refine (L2.out _ (HT.out.later HB.out)).mono ?_) | (with_reducible refine (L3.out _ (HT.out.later HB.out)).mono ?_)); rintro x w' ⟨rfl, hb'⟩; replace HB := Lib.hid (HB.out.trans (hb'.mono HB.out.size)); clear hb')
        | (go_at_call 14; (first | (with_reducible refine (L4.out _).mono ?_) | (with_reducible refine (L5.out _).mono ?_) | (with_reducible refine (L6.out _).mono ?_)); rintro x w' ⟨rfl, hb'⟩; replace HB := Lib.hid (HB.out.trans (hb'.mono HB.out.size)); clear hb')
        | (go_at_call 8; (with_reducible refine (lives_any _ (HT.out.later HB.out)).mono ?_); rintro x w' ⟨rfl, hb'⟩; replace HB := Lib.hid (HB.out.trans (hb'.mono HB.out.size)); clear hb'))
      go_ret
      exact ⟨rfl, HB.out⟩

end Go.Proofs.YtnoinnninahdiaaDoor
