/- The reference's Put; no statement of the seat is proved here. -/
import Derived.Test.YtpchipmpgoflfaaDoorPut
namespace Go.Proofs.YtpchipmpgoflfaaDoor
open Go.RowKit

theorem enc_one {r : Int} (h0 : 0 ≤ r) (h1 : r ≤ 127) : byteVals (Lib.encodeRune r) = [.int .u8 r] := by rw [← rune_cells, Lib.runeCells, Lib.encodeRuneZ_one h0 h1]; rfl
theorem enc_two {r : Int} (h0 : 128 ≤ r) (h1 : r ≤ 2047) : byteVals (Lib.encodeRune r) = [.int .u8 (192 + r / 64), .int .u8 (128 + r % 64)] := by rw [← rune_cells, Lib.runeCells, Lib.encodeRuneZ_two h0 h1]; rfl
theorem enc_three {r : Int} (h : (2048 ≤ r ∧ r < 55296) ∨ (57343 < r ∧ r ≤ 65535)) : byteVals (Lib.encodeRune r) = [.int .u8 (224 + r / 4096), .int .u8 (128 + r / 64 % 64), .int .u8 (128 + r % 64)] := by rw [← rune_cells, Lib.runeCells, Lib.encodeRuneZ_three h]; rfl
theorem enc_four {r : Int} (h0 : 65536 ≤ r) (h1 : r ≤ 1114111) : byteVals (Lib.encodeRune r) = [.int .u8 (240 + r / 262144), .int .u8 (128 + r / 4096 % 64), .int .u8 (128 + r / 64 % 64), .int .u8 (128 + r % 64)] := by rw [← rune_cells, Lib.runeCells, Lib.encodeRuneZ_four h0 h1]; rfl
theorem enc_wrong {r : Int} (h : r < 0 ∨ (55296 ≤ r ∧ r ≤ 57343) ∨ 1114111 < r) : byteVals (Lib.encodeRune r) = [.int .u8 239, .int .u8 191, .int .u8 189] := by rw [← rune_cells, Lib.runeCells, Lib.encodeRuneZ_bad h]; rfl
theorem byteVals_inj {a b : List UInt8} (h : byteVals a = byteVals b) : a.length = b.length := by rw [← byteVals_len, ← byteVals_len, h]

set_option maxRecDepth 100000 in
set_option maxHeartbeats 2000000 in
theorem rput_any (A : Option Addr) (rs : List Int) (n c : Nat) (hn : n = rs.length) (hl : n ≤ 1073741824) (w : World) (hI : IS w w.heap.size A rs) :
    Calls Tryd.prog 25 #[.slice A n c] w fun e w' => ∃ A' n' c', e = .returned (.slice A' n' c') ∧ OwnB w' w.heap.size A' n' c' (putL rs) ∧ Below w.heap.size w w' := by
  subst hn
  have HI := Lib.hid hI; clear hI
  obtain ⟨i0, hi, hz0, hz1, hz2⟩ := info_parts put_byte
  go_enter Tryd.func25, Tryd.ntmps25
  go_wp2
  go_loopg [3, 4, 5] rs.length (fun g s3 s4 s5 wr => ∃ k n' c' : Nat, ∃ A', s4 = .int .i64 k ∧ s3 = .slice A' n' c' ∧ k ≤ rs.length ∧ n' ≤ 4 * k ∧ Hid (g = rs.length - k) ∧ Hid (OwnB wr w.heap.size A' n' c' (putL (rs.take k))) ∧ Below w.heap.size w wr)
  case atStart => exact ⟨0, 0, 0, none, rfl, rfl, by omega, by omega, rfl, OwnB.nil _ _, Below.refl _ _⟩
  case round =>
    obtain ⟨k, n', c', A', rfl, rfl, hk, hn', hg, hown, hbw⟩ := hrel
    have hsz := hbw.size
    by_cases hlt : k < rs.length
    · obtain ⟨a, rfl, hab, hca⟩ := (HI.out.below hbw) k hlt
      have ht := Lib.hid (take_next rs k hlt)
      obtain ⟨r, hr⟩ : ∃ r, Hid (rs[k] = r) := ⟨rs[k], rfl⟩
      rw [hr.out] at hca
      have fin : ∀ (m : Nat) (news : List Value) w2 v2, byteVals (Lib.encodeRune r) = news → 0 < m → m ≤ 4 → w2.ownsRow w.heap.size 5 1 v2 (n' + m) (byteVals (putL (rs.take k)) ++ news) → ∃ A2 c2, v2 = .slice A2 (n' + m) c2 ∧ n' + m ≤ 4 * (k + 1) ∧ OwnB w2 w.heap.size A2 (n' + m) c2 (putL (rs.take (k + 1))) := fun m news w2 v2 e hm hm4 h => by
        subst e
        rw [← byteVals_app, ← hr.out, ← putL_snoc, ← ht.out] at h
        obtain ⟨A2, c2, rfl, _⟩ := own_slice h
        exact ⟨A2, c2, rfl, by omega, h⟩
      have HF := Lib.hid fin; clear fin
      have hgrow : ∀ (w2 w3 : World) (o : Obj), (w2.alloc o).grownBy w3 (Value.slice A' n' c').ownBlock → w2 = wr → Below w.heap.size w w3 := fun w2 w3 o h e => by
        subst e
        exact (hbw.alloc hsz o).grown h (by simp; omega) hown.out.ge
      have HGW := Lib.hid hgrow; clear hgrow
      have H4 : Hid (∀ m, m ≤ 4 → n' + m ≤ maxLen) := by intro m hm; simp only [maxLen]; omega
      have H6 : Hid (∀ o, w.heap.size ≤ (wr.alloc o).heap.size) := by intro o; simp; omega
      by_cases hbad : r < 0 ∨ (55296 ≤ r ∧ r ≤ 57343) ∨ 1114111 < r
      · have henc := Lib.hid (enc_wrong hbad)
        have hb' : r < 0 ∨ (0 ≤ r ∧ 1114111 < r) ∨ (0 ≤ r ∧ r ≤ 1114111 ∧ 55296 ≤ r ∧ r ≤ 57343) := by omega
        clear hbad
        rcases hb' with hb0 | ⟨hb0, hb1⟩ | ⟨hb0, hb1, hb2, hb3⟩
        all_goals
          have H3 : Hid (∀ u ∈ ([.int .u8 239, .int .u8 191, .int .u8 189] : List Value), u.oneCell' = true) := by intro u hu; simp at hu; rcases hu with rfl | rfl | rfl <;> rfl
          go_wp2_with (at_builtin; refine wpList_append_own_at _ rfl (.tmp 52) (.tmp 66) 34 rfl w.heap.size 5 i0 (.int .u8 0) 1 1 Tryd.underlying34 hi hz0 hz1 hz2 rfl (by decide) _ n' (byteVals (putL (rs.take k))) rfl (hown.out.keep (below_new1 wr _) (Nat.le_refl _)) ⟨wr.heap.size, 0, none⟩ 3 3 [.int .u8 239, .int .u8 191, .int .u8 189] rfl rfl (news_at (heap_new1 wr _)) H3.out (H4.out _ (by omega)) (by omega) (H6.out _) ?_)
          intro v2 w2 hown2 hg2 _ _
          obtain ⟨A2, c2, rfl, hn2, ho2⟩ := HF.out 3 _ _ _ henc.out (by omega) (by omega) hown2
          have HO := Lib.hid ho2; have HB := Lib.hid (HGW.out _ _ _ hg2 rfl); clear ho2 hown2 hg2
          go_wp2
          go_roundg (rs.length - (k + 1))
          case measure => have := hg.out; omega
          case rel => exact ⟨k + 1, _, c2, A2, by go_num, rfl, by omega, hn2, rfl, HO.out, HB.out⟩
      · have h0 : 0 ≤ r := by omega
        have h9 : r ≤ 1114111 := by omega
        have hbad' : r < 55296 ∨ (55296 ≤ r ∧ 57343 < r) := by omega
        clear hbad
        by_cases h1 : r < 128
        · have hx : r < 55296 := by omega
          have henc := Lib.hid (enc_one h0 (by omega))
          clear hbad'
          have H3 : Hid (∀ u ∈ ([.int .u8 r] : List Value), u.oneCell' = true) := by intro u hu; simp at hu; subst hu; rfl
          go_wp2_with (at_builtin; refine wpList_append_own_at _ rfl (.tmp 32) (.tmp 35) 34 rfl w.heap.size 5 i0 (.int .u8 0) 1 1 Tryd.underlying34 hi hz0 hz1 hz2 rfl (by decide) _ n' (byteVals (putL (rs.take k))) rfl (hown.out.keep (below_new1 wr _) (Nat.le_refl _)) ⟨wr.heap.size, 0, none⟩ 1 1 [.int .u8 r] rfl rfl (news_at (heap_new1 wr _)) H3.out (H4.out _ (by omega)) (by omega) (H6.out _) ?_)
          intro v2 w2 hown2 hg2 _ _
          obtain ⟨A2, c2, rfl, hn2, ho2⟩ := HF.out 1 _ _ _ henc.out (by omega) (by omega) hown2
          have HO := Lib.hid ho2; have HB := Lib.hid (HGW.out _ _ _ hg2 rfl); clear ho2 hown2 hg2
          go_wp2
          go_roundg (rs.length - (k + 1))
          case measure => have := hg.out; omega
          case rel => exact ⟨k + 1, _, c2, A2, by go_num, rfl, by omega, hn2, rfl, HO.out, HB.out⟩
        · by_cases h2 : r < 2048
          · have hx : r < 55296 := by omega
            have henc := Lib.hid (enc_two (by omega) (by omega) : byteVals (Lib.encodeRune r) = _)
            clear hbad'
            have H3 : Hid (∀ u ∈ ([.int .u8 (192 + r / 64), .int .u8 (128 + r % 64)] : List Value), u.oneCell' = true) := by intro u hu; simp at hu; rcases hu with rfl | rfl <;> rfl
            go_wp2_with (at_builtin; refine wpList_append_own_at _ rfl (.tmp 39) (.tmp 48) 34 rfl w.heap.size 5 i0 (.int .u8 0) 1 1 Tryd.underlying34 hi hz0 hz1 hz2 rfl (by decide) _ n' (byteVals (putL (rs.take k))) rfl (hown.out.keep (below_new1 wr _) (Nat.le_refl _)) ⟨wr.heap.size, 0, none⟩ 2 2 [.int .u8 (192 + r / 64), .int .u8 (128 + r % 64)] rfl rfl (news_at (heap_new1 wr _)) H3.out (H4.out _ (by omega)) (by omega) (H6.out _) ?_)
            intro v2 w2 hown2 hg2 _ _
            obtain ⟨A2, c2, rfl, hn2, ho2⟩ := HF.out 2 _ _ _ henc.out (by omega) (by omega) hown2
            have HO := Lib.hid ho2; have HB := Lib.hid (HGW.out _ _ _ hg2 rfl); clear ho2 hown2 hg2
            go_wp2
            go_roundg (rs.length - (k + 1))
            case measure => have := hg.out; omega
            case rel => exact ⟨k + 1, _, c2, A2, by go_num, rfl, by omega, hn2, rfl, HO.out, HB.out⟩
          · by_cases h3 : r < 65536
            · have henc := Lib.hid (enc_three (by omega) : byteVals (Lib.encodeRune r) = _)
              rcases hbad' with hx | ⟨hx, hy⟩
              all_goals
                have H3 : Hid (∀ u ∈ ([.int .u8 (224 + r / 4096), .int .u8 (128 + r / 64 % 64), .int .u8 (128 + r % 64)] : List Value), u.oneCell' = true) := by intro u hu; simp at hu; rcases hu with rfl | rfl | rfl <;> rfl
                go_wp2_with (at_builtin; refine wpList_append_own_at _ rfl (.tmp 52) (.tmp 66) 34 rfl w.heap.size 5 i0 (.int .u8 0) 1 1 Tryd.underlying34 hi hz0 hz1 hz2 rfl (by decide) _ n' (byteVals (putL (rs.take k))) rfl (hown.out.keep (below_new1 wr _) (Nat.le_refl _)) ⟨wr.heap.size, 0, none⟩ 3 3 [.int .u8 (224 + r / 4096), .int .u8 (128 + r / 64 % 64), .int .u8 (128 + r % 64)] rfl rfl (news_at (heap_new1 wr _)) H3.out (H4.out _ (by omega)) (by omega) (H6.out _) ?_)
                intro v2 w2 hown2 hg2 _ _
                obtain ⟨A2, c2, rfl, hn2, ho2⟩ := HF.out 3 _ _ _ henc.out (by omega) (by omega) hown2
                have HO := Lib.hid ho2; have HB := Lib.hid (HGW.out _ _ _ hg2 rfl); clear ho2 hown2 hg2
                go_wp2
                go_roundg (rs.length - (k + 1))
                case measure => have := hg.out; omega
                case rel => exact ⟨k + 1, _, c2, A2, by go_num, rfl, by omega, hn2, rfl, HO.out, HB.out⟩
            · have hx : 55296 ≤ r := by omega
              have hy : 57343 < r := by omega
              have henc := Lib.hid (enc_four (by omega) h9 : byteVals (Lib.encodeRune r) = _)
              clear hbad'
              have H3 : Hid (∀ u ∈ ([.int .u8 (240 + r / 262144), .int .u8 (128 + r / 4096 % 64), .int .u8 (128 + r / 64 % 64), .int .u8 (128 + r % 64)] : List Value), u.oneCell' = true) := by intro u hu; simp at hu; rcases hu with rfl | rfl | rfl | rfl <;> rfl
              go_wp2_with (at_builtin; refine wpList_append_own_at _ rfl (.tmp 68) (.tmp 87) 34 rfl w.heap.size 5 i0 (.int .u8 0) 1 1 Tryd.underlying34 hi hz0 hz1 hz2 rfl (by decide) _ n' (byteVals (putL (rs.take k))) rfl (hown.out.keep (below_new1 wr _) (Nat.le_refl _)) ⟨wr.heap.size, 0, none⟩ 4 4 [.int .u8 (240 + r / 262144), .int .u8 (128 + r / 4096 % 64), .int .u8 (128 + r / 64 % 64), .int .u8 (128 + r % 64)] rfl rfl (news_at (heap_new1 wr _)) H3.out (H4.out _ (by omega)) (by omega) (H6.out _) ?_)
              intro v2 w2 hown2 hg2 _ _
              obtain ⟨A2, c2, rfl, hn2, ho2⟩ := HF.out 4 _ _ _ henc.out (by omega) (by omega) hown2
              have HO := Lib.hid ho2; have HB := Lib.hid (HGW.out _ _ _ hg2 rfl); clear ho2 hown2 hg2
              go_wp2
              go_roundg (rs.length - (k + 1))
              case measure => have := hg.out; omega
              case rel => exact ⟨k + 1, _, c2, A2, by go_num, rfl, by omega, hn2, rfl, HO.out, HB.out⟩
    · obtain rfl : k = rs.length := by omega
      go_wp2
      go_ret
      have h := hown.out
      rw [List.take_length] at h
      exact ⟨_, _, _, rfl, h, hbw⟩

end Go.Proofs.YtpchipmpgoflfaaDoor
