/- strconv.FormatUint, FormatInt at bases 2, 8, 16: formatBits walked; no statement of the seat is proved here. -/
import Derived.Test.YtghjiddcbbnhpaaGreatDoorInB
import Derived.LoopN
import Derived.Outline
import Derived.Lib.Zigzag
namespace Go.Proofs.YtghjiddcbbnhpaaGreatDoor
open Go.RowKit

theorem BW.zeros {w : World} {N : Nat} {e : TypeId} {cs : Array Value} (h : w.heap[N]? = some (.cells cs e (0, 0))) (hc : cs = Array.replicate 65 (.int .u8 0)) : BW w N (List.replicate 65 0) := by
  intro k hk
  rw [List.length_replicate] at hk
  refine ⟨?_, froz_of h k⟩
  rw [blk_cell h, hc, Array.getElem?_replicate, if_pos hk, List.getElem_replicate]; rfl
theorem dig_at : ∀ (k : Nat) (h : k < 16), ((⟨#[48, 49, 50, 51, 52, 53, 54, 55, 56, 57, 97, 98, 99, 100, 101, 102, 103, 104, 105, 106, 107, 108, 109, 110, 111, 112, 113, 114, 115, 116, 117, 118, 119, 120, 121, 122]⟩ : ByteArray)[k]'(Nat.lt_of_lt_of_le h (by decide))).toNat = (digQ k).toNat := by decide
theorem drop_set {l : List UInt8} {i : Nat} (h : i < l.length) (b : UInt8) : (l.set i b).drop i = b :: l.drop (i + 1) := by
  rw [List.set_eq_take_append_cons_drop, if_pos h, List.drop_left' (by simp; omega)]
theorem and_mask (n : Nat) (hn : n < 18446744073709551616) : bits .and .u64 (n : Int) 1 = ((n % 2 : Nat) : Int) ∧ bits .and .u64 (n : Int) 7 = ((n % 8 : Nat) : Int) ∧ bits .and .u64 (n : Int) 15 = ((n % 16 : Nat) : Int) := by
  have h1 := bits_mask .u64 64 (by decide) (fun n h0 h1 => by rw [IntKind.wrap_u64]; omega) 1 (by decide) (n : Int) (by omega) (by omega)
  have h2 := bits_mask .u64 64 (by decide) (fun n h0 h1 => by rw [IntKind.wrap_u64]; omega) 3 (by decide) (n : Int) (by omega) (by omega)
  have h3 := bits_mask .u64 64 (by decide) (fun n h0 h1 => by rw [IntKind.wrap_u64]; omega) 4 (by decide) (n : Int) (by omega) (by omega)
  exact ⟨h1.trans (by omega), h2.trans (by omega), h3.trans (by omega)⟩


set_option maxRecDepth 100000 in
set_option maxHeartbeats 4000000 in
theorem fb_2 (n : Nat) (hn : n < 18446744073709551616) (t : ByteArray) (ht : t.data.toList = fmtQ 2 n) (w : World) (hD : Db w) :
    Calls Tryz.prog 56 #[.slice none 0 0, .int .u64 (n : Int), .int .i64 2, .bool false, .bool false] w fun e w' => e = .returned (.tuple #[.slice none 0 0, .string t]) ∧ Below w.heap.size w w' := by
  have HP := Lib.hid (pw_is 2 (by omega))
  have HZ := Lib.hid (fun w' h => tz_is 2 1 (by omega) w' (hD.later h))
  have HT := Lib.hid ht
  have HN64 := fmt_len64 (q := 2) (by omega) hn
  clear ht hD
  go_enter Tryz.func56, Tryz.ntmps56
  go_upto_region 4 with (fail)
  have hrow := heap_new1 w (.cells Tryz.zeroCells127 127)
  have HB0 := Lib.hid (BW.zeros hrow rfl)
  have HL0 := Lib.hid (below_new1 w (.cells Tryz.zeroCells127 127))
  generalize w.alloc (.cells Tryz.zeroCells127 127) = w1 at HB0 HL0 ⊢
  clear hrow
  go_wp2_with (first
    | (go_at_call 85; refine (HP.out _).mono ?_; rintro e w2 ⟨rfl, rfl⟩)
    | (go_at_call 86; refine (HZ.out _ HL0.out).mono ?_; rintro e w2 ⟨rfl, rfl⟩))
  go_loopg [1, 13] (n) (fun g s1 s13 wr => ∃ (u i : Nat) (l : List UInt8), s1 = .int .u64 (u : Int) ∧ s13 = .int .i64 (i : Int) ∧ i ≤ 65 ∧ u < 18446744073709551616 ∧ Hid (g = u) ∧ Hid (l.length = 65) ∧ Hid (BW wr w.heap.size l) ∧ Hid (fmtQ 2 u ++ l.drop i = fmtQ 2 n) ∧ Hid (Below w.heap.size w wr))
  case atStart => exact ⟨n, 65, List.replicate 65 0, rfl, rfl, Nat.le_refl _, hn, rfl, List.length_replicate, HB0.out, by show _ ++ _ = _; rw [List.drop_of_length_le (by rw [List.length_replicate]; omega), List.append_nil], HL0.out⟩
  case round =>
    obtain ⟨u, i, l, rfl, rfl, hi, hu, hg, hl, hbw, hfm, hlow⟩ := hrel
    have hll := congrArg List.length hfm.out
    rw [List.length_append, List.length_drop, hl.out] at hll
    by_cases hq : 2 ≤ u
    · have bq : decide ((2 : Int) ≤ (u : Int)) = true := decide_eq_true (by omega)
      have hfl : 2 ≤ (fmtQ 2 u).length := by
        rw [fmt_big (by omega) hq, List.length_append]
        have := List.length_pos_iff.2 (fmt_ne 2 (u / 2))
        simp; omega
      obtain ⟨j, rfl⟩ : ∃ j, i = j + 1 := ⟨i - 1, by omega⟩
      obtain ⟨c1, c2⟩ := hbw.out j (by rw [hl.out]; omega)
      have ha := (and_mask u hu).1
      have hm := Nat.mod_lt u (show 0 < 2 by omega)
      have HD := Lib.hid (dig_at (u % 2) (by omega))
      have HF := Lib.hid (fmt_step (by omega) hq hfm.out)
      clear hll hfl
      have hB : Hid (BW (wr.setCell ⟨w.heap.size, j, none⟩ (.int .u8 (((⟨#[48, 49, 50, 51, 52, 53, 54, 55, 56, 57, 97, 98, 99, 100, 101, 102, 103, 104, 105, 106, 107, 108, 109, 110, 111, 112, 113, 114, 115, 116, 117, 118, 119, 120, 121, 122]⟩ : ByteArray)[u % 2]'(Nat.lt_of_lt_of_le hm (by decide))).toNat : Int))) w.heap.size (l.set j (digQ (u % 2)))) := by
        show BW _ _ _
        rw [HD.out]; exact hbw.out.set j _
      have HF2 : Hid (fmtQ 2 (u / 2) ++ (l.set j (digQ (u % 2))).drop j = fmtQ 2 n) := by
        show _ = _
        rw [drop_set (by rw [hl.out]; omega)]; exact HF.out
      clear HD HF
      go_wp2
      go_roundg (u / 2)
      case measure => have := hg.out; omega
      case rel => exact ⟨u / 2, j, l.set j (digQ (u % 2)), congrArg (Value.int .u64) (by omega), rfl, by omega, by omega, rfl, by show _ = _; rw [List.length_set]; exact hl.out, hB.out, HF2.out, hlow.out.setCell (p := ⟨w.heap.size, j, none⟩) (Nat.le_refl _) _⟩
    · have bq : decide ((2 : Int) ≤ (u : Int)) = false := decide_eq_false (by omega)
      have hfl : (fmtQ 2 u).length = 1 := by rw [fmt_small (by omega)]; rfl
      obtain ⟨j, rfl⟩ : ∃ j, i = j + 1 := ⟨i - 1, by omega⟩
      obtain ⟨c1, c2⟩ := hbw.out j (by rw [hl.out]; omega)
      have hm : u < 2 := by omega
      have HD := Lib.hid (dig_at u (by omega))
      have hB : Hid (BW (wr.setCell ⟨w.heap.size, j, none⟩ (.int .u8 (((⟨#[48, 49, 50, 51, 52, 53, 54, 55, 56, 57, 97, 98, 99, 100, 101, 102, 103, 104, 105, 106, 107, 108, 109, 110, 111, 112, 113, 114, 115, 116, 117, 118, 119, 120, 121, 122]⟩ : ByteArray)[u]'(Nat.lt_of_lt_of_le hm (by decide))).toNat : Int))) w.heap.size (l.set j (digQ u))) := by
        show BW _ _ _
        rw [HD.out]; exact hbw.out.set j _
      have HF2 : Hid (t.data.toList = (l.set j (digQ u)).drop j) := by
        show _ = _
        rw [drop_set (by rw [hl.out]; omega), HT.out, ← hfm.out, fmt_small hm]; rfl
      have hlz : (l.set j (digQ u)).length = 65 := by rw [List.length_set]; exact hl.out
      have hw2 : Hid (Below w.heap.size w (wr.setCell ⟨w.heap.size, j, none⟩ (.int .u8 (((⟨#[48, 49, 50, 51, 52, 53, 54, 55, 56, 57, 97, 98, 99, 100, 101, 102, 103, 104, 105, 106, 107, 108, 109, 110, 111, 112, 113, 114, 115, 116, 117, 118, 119, 120, 121, 122]⟩ : ByteArray)[u]'(Nat.lt_of_lt_of_le hm (by decide))).toNat : Int)))) := hlow.out.setCell (p := ⟨w.heap.size, j, none⟩) (Nat.le_refl _) _
      have hal : Tryz.prog.arrayLen 127 = 65 := by simp [Program.arrayLen, Tryz.underlying127]
      have hsl : ∀ W, (Instr.sliceAt 127 (.pointer (some ⟨w.heap.size, 0, none⟩)) (some (.int .i64 (j : Int))) none none).run Tryz.prog W = .ok (.slice (some ⟨w.heap.size, j, none⟩) (65 - j) (65 - j)) W := fun W => by
        rw [run_sliceAt_array_l W 127 ⟨w.heap.size, 0, none⟩ (by simp [Program.arrayLen, Program.elem, Tryz.underlying127]) .i64 (j : Int) (by omega) (by rw [hal]; omega)]
        go_simp
        omega
      clear hal
      obtain ⟨w3, hW⟩ : ∃ w3, wr.setCell ⟨w.heap.size, j, none⟩ (.int .u8 (((⟨#[48, 49, 50, 51, 52, 53, 54, 55, 56, 57, 97, 98, 99, 100, 101, 102, 103, 104, 105, 106, 107, 108, 109, 110, 111, 112, 113, 114, 115, 116, 117, 118, 119, 120, 121, 122]⟩ : ByteArray)[u]'(Nat.lt_of_lt_of_le hm (by decide))).toNat : Int)) = w3 := ⟨_, rfl⟩
      rw [hW] at hB hw2
      have HBS : BS w3 (w.heap.size + 1) (some ⟨w.heap.size, j, none⟩) ((l.set j (digQ u)).drop j) := BS.of_cells (by simp) fun k hk => by
        rw [List.length_drop] at hk
        rw [List.getElem_drop, add_plain]
        exact (hB.out (j + k) (by omega)).1
      have hcv := conv_bs (P := Tryz.prog) w3 61 9 5 Tryz.underlying61 Tryz.underlying5 Tryz.underlying9 HBS (65 - j)
      rw [List.length_drop, hlz, ← HF2.out] at hcv
      have hcv2 : (convert 61 9 (.slice (some ⟨w.heap.size, j, none⟩) (65 - j) (65 - j))).run Tryz.prog w3 = .ok (.string t) w3 := hcv
      clear hcv HBS HD HF2 hlz hB hll hfl
      rw [← hW] at hcv2 hw2
      clear hW
      go_wp2
      go_ret2
      exact ⟨rfl, hw2.out⟩


set_option maxRecDepth 100000 in
set_option maxHeartbeats 4000000 in
theorem fb_8 (n : Nat) (hn : n < 18446744073709551616) (t : ByteArray) (ht : t.data.toList = fmtQ 8 n) (w : World) (hD : Db w) :
    Calls Tryz.prog 56 #[.slice none 0 0, .int .u64 (n : Int), .int .i64 8, .bool false, .bool false] w fun e w' => e = .returned (.tuple #[.slice none 0 0, .string t]) ∧ Below w.heap.size w w' := by
  have HP := Lib.hid (pw_is 8 (by omega))
  have HZ := Lib.hid (fun w' h => tz_is 8 3 (by omega) w' (hD.later h))
  have HT := Lib.hid ht
  have HN64 := fmt_len64 (q := 8) (by omega) hn
  clear ht hD
  go_enter Tryz.func56, Tryz.ntmps56
  go_upto_region 4 with (fail)
  have hrow := heap_new1 w (.cells Tryz.zeroCells127 127)
  have HB0 := Lib.hid (BW.zeros hrow rfl)
  have HL0 := Lib.hid (below_new1 w (.cells Tryz.zeroCells127 127))
  generalize w.alloc (.cells Tryz.zeroCells127 127) = w1 at HB0 HL0 ⊢
  clear hrow
  go_wp2_with (first
    | (go_at_call 85; refine (HP.out _).mono ?_; rintro e w2 ⟨rfl, rfl⟩)
    | (go_at_call 86; refine (HZ.out _ HL0.out).mono ?_; rintro e w2 ⟨rfl, rfl⟩))
  go_loopg [1, 13] (n) (fun g s1 s13 wr => ∃ (u i : Nat) (l : List UInt8), s1 = .int .u64 (u : Int) ∧ s13 = .int .i64 (i : Int) ∧ i ≤ 65 ∧ u < 18446744073709551616 ∧ Hid (g = u) ∧ Hid (l.length = 65) ∧ Hid (BW wr w.heap.size l) ∧ Hid (fmtQ 8 u ++ l.drop i = fmtQ 8 n) ∧ Hid (Below w.heap.size w wr))
  case atStart => exact ⟨n, 65, List.replicate 65 0, rfl, rfl, Nat.le_refl _, hn, rfl, List.length_replicate, HB0.out, by show _ ++ _ = _; rw [List.drop_of_length_le (by rw [List.length_replicate]; omega), List.append_nil], HL0.out⟩
  case round =>
    obtain ⟨u, i, l, rfl, rfl, hi, hu, hg, hl, hbw, hfm, hlow⟩ := hrel
    have hll := congrArg List.length hfm.out
    rw [List.length_append, List.length_drop, hl.out] at hll
    by_cases hq : 8 ≤ u
    · have bq : decide ((8 : Int) ≤ (u : Int)) = true := decide_eq_true (by omega)
      have hfl : 2 ≤ (fmtQ 8 u).length := by
        rw [fmt_big (by omega) hq, List.length_append]
        have := List.length_pos_iff.2 (fmt_ne 8 (u / 8))
        simp; omega
      obtain ⟨j, rfl⟩ : ∃ j, i = j + 1 := ⟨i - 1, by omega⟩
      obtain ⟨c1, c2⟩ := hbw.out j (by rw [hl.out]; omega)
      have ha := (and_mask u hu).2.1
      have hm := Nat.mod_lt u (show 0 < 8 by omega)
      have HD := Lib.hid (dig_at (u % 8) (by omega))
      have HF := Lib.hid (fmt_step (by omega) hq hfm.out)
      clear hll hfl
      have hB : Hid (BW (wr.setCell ⟨w.heap.size, j, none⟩ (.int .u8 (((⟨#[48, 49, 50, 51, 52, 53, 54, 55, 56, 57, 97, 98, 99, 100, 101, 102, 103, 104, 105, 106, 107, 108, 109, 110, 111, 112, 113, 114, 115, 116, 117, 118, 119, 120, 121, 122]⟩ : ByteArray)[u % 8]'(Nat.lt_of_lt_of_le hm (by decide))).toNat : Int))) w.heap.size (l.set j (digQ (u % 8)))) := by
        show BW _ _ _
        rw [HD.out]; exact hbw.out.set j _
      have HF2 : Hid (fmtQ 8 (u / 8) ++ (l.set j (digQ (u % 8))).drop j = fmtQ 8 n) := by
        show _ = _
        rw [drop_set (by rw [hl.out]; omega)]; exact HF.out
      clear HD HF
      go_wp2
      go_roundg (u / 8)
      case measure => have := hg.out; omega
      case rel => exact ⟨u / 8, j, l.set j (digQ (u % 8)), congrArg (Value.int .u64) (by omega), rfl, by omega, by omega, rfl, by show _ = _; rw [List.length_set]; exact hl.out, hB.out, HF2.out, hlow.out.setCell (p := ⟨w.heap.size, j, none⟩) (Nat.le_refl _) _⟩
    · have bq : decide ((8 : Int) ≤ (u : Int)) = false := decide_eq_false (by omega)
      have hfl : (fmtQ 8 u).length = 1 := by rw [fmt_small (by omega)]; rfl
      obtain ⟨j, rfl⟩ : ∃ j, i = j + 1 := ⟨i - 1, by omega⟩
      obtain ⟨c1, c2⟩ := hbw.out j (by rw [hl.out]; omega)
      have hm : u < 8 := by omega
      have HD := Lib.hid (dig_at u (by omega))
      have hB : Hid (BW (wr.setCell ⟨w.heap.size, j, none⟩ (.int .u8 (((⟨#[48, 49, 50, 51, 52, 53, 54, 55, 56, 57, 97, 98, 99, 100, 101, 102, 103, 104, 105, 106, 107, 108, 109, 110, 111, 112, 113, 114, 115, 116, 117, 118, 119, 120, 121, 122]⟩ : ByteArray)[u]'(Nat.lt_of_lt_of_le hm (by decide))).toNat : Int))) w.heap.size (l.set j (digQ u))) := by
        show BW _ _ _
        rw [HD.out]; exact hbw.out.set j _
      have HF2 : Hid (t.data.toList = (l.set j (digQ u)).drop j) := by
        show _ = _
        rw [drop_set (by rw [hl.out]; omega), HT.out, ← hfm.out, fmt_small hm]; rfl
      have hlz : (l.set j (digQ u)).length = 65 := by rw [List.length_set]; exact hl.out
      have hw2 : Hid (Below w.heap.size w (wr.setCell ⟨w.heap.size, j, none⟩ (.int .u8 (((⟨#[48, 49, 50, 51, 52, 53, 54, 55, 56, 57, 97, 98, 99, 100, 101, 102, 103, 104, 105, 106, 107, 108, 109, 110, 111, 112, 113, 114, 115, 116, 117, 118, 119, 120, 121, 122]⟩ : ByteArray)[u]'(Nat.lt_of_lt_of_le hm (by decide))).toNat : Int)))) := hlow.out.setCell (p := ⟨w.heap.size, j, none⟩) (Nat.le_refl _) _
      have hal : Tryz.prog.arrayLen 127 = 65 := by simp [Program.arrayLen, Tryz.underlying127]
      have hsl : ∀ W, (Instr.sliceAt 127 (.pointer (some ⟨w.heap.size, 0, none⟩)) (some (.int .i64 (j : Int))) none none).run Tryz.prog W = .ok (.slice (some ⟨w.heap.size, j, none⟩) (65 - j) (65 - j)) W := fun W => by
        rw [run_sliceAt_array_l W 127 ⟨w.heap.size, 0, none⟩ (by simp [Program.arrayLen, Program.elem, Tryz.underlying127]) .i64 (j : Int) (by omega) (by rw [hal]; omega)]
        go_simp
        omega
      clear hal
      obtain ⟨w3, hW⟩ : ∃ w3, wr.setCell ⟨w.heap.size, j, none⟩ (.int .u8 (((⟨#[48, 49, 50, 51, 52, 53, 54, 55, 56, 57, 97, 98, 99, 100, 101, 102, 103, 104, 105, 106, 107, 108, 109, 110, 111, 112, 113, 114, 115, 116, 117, 118, 119, 120, 121, 122]⟩ : ByteArray)[u]'(Nat.lt_of_lt_of_le hm (by decide))).toNat : Int)) = w3 := ⟨_, rfl⟩
      rw [hW] at hB hw2
      have HBS : BS w3 (w.heap.size + 1) (some ⟨w.heap.size, j, none⟩) ((l.set j (digQ u)).drop j) := BS.of_cells (by simp) fun k hk => by
        rw [List.length_drop] at hk
        rw [List.getElem_drop, add_plain]
        exact (hB.out (j + k) (by omega)).1
      have hcv := conv_bs (P := Tryz.prog) w3 61 9 5 Tryz.underlying61 Tryz.underlying5 Tryz.underlying9 HBS (65 - j)
      rw [List.length_drop, hlz, ← HF2.out] at hcv
      have hcv2 : (convert 61 9 (.slice (some ⟨w.heap.size, j, none⟩) (65 - j) (65 - j))).run Tryz.prog w3 = .ok (.string t) w3 := hcv
      clear hcv HBS HD HF2 hlz hB hll hfl
      rw [← hW] at hcv2 hw2
      clear hW
      go_wp2
      go_ret2
      exact ⟨rfl, hw2.out⟩


set_option maxRecDepth 100000 in
set_option maxHeartbeats 4000000 in
theorem fb_16 (n : Nat) (hn : n < 18446744073709551616) (t : ByteArray) (ht : t.data.toList = fmtQ 16 n) (w : World) (hD : Db w) :
    Calls Tryz.prog 56 #[.slice none 0 0, .int .u64 (n : Int), .int .i64 16, .bool false, .bool false] w fun e w' => e = .returned (.tuple #[.slice none 0 0, .string t]) ∧ Below w.heap.size w w' := by
  have HP := Lib.hid (pw_is 16 (by omega))
  have HZ := Lib.hid (fun w' h => tz_is 16 4 (by omega) w' (hD.later h))
  have HT := Lib.hid ht
  have HN64 := fmt_len64 (q := 16) (by omega) hn
  clear ht hD
  go_enter Tryz.func56, Tryz.ntmps56
  go_upto_region 4 with (fail)
  have hrow := heap_new1 w (.cells Tryz.zeroCells127 127)
  have HB0 := Lib.hid (BW.zeros hrow rfl)
  have HL0 := Lib.hid (below_new1 w (.cells Tryz.zeroCells127 127))
  generalize w.alloc (.cells Tryz.zeroCells127 127) = w1 at HB0 HL0 ⊢
  clear hrow
  go_wp2_with (first
    | (go_at_call 85; refine (HP.out _).mono ?_; rintro e w2 ⟨rfl, rfl⟩)
    | (go_at_call 86; refine (HZ.out _ HL0.out).mono ?_; rintro e w2 ⟨rfl, rfl⟩))
  go_loopg [1, 13] (n) (fun g s1 s13 wr => ∃ (u i : Nat) (l : List UInt8), s1 = .int .u64 (u : Int) ∧ s13 = .int .i64 (i : Int) ∧ i ≤ 65 ∧ u < 18446744073709551616 ∧ Hid (g = u) ∧ Hid (l.length = 65) ∧ Hid (BW wr w.heap.size l) ∧ Hid (fmtQ 16 u ++ l.drop i = fmtQ 16 n) ∧ Hid (Below w.heap.size w wr))
  case atStart => exact ⟨n, 65, List.replicate 65 0, rfl, rfl, Nat.le_refl _, hn, rfl, List.length_replicate, HB0.out, by show _ ++ _ = _; rw [List.drop_of_length_le (by rw [List.length_replicate]; omega), List.append_nil], HL0.out⟩
  case round =>
    obtain ⟨u, i, l, rfl, rfl, hi, hu, hg, hl, hbw, hfm, hlow⟩ := hrel
    have hll := congrArg List.length hfm.out
    rw [List.length_append, List.length_drop, hl.out] at hll
    by_cases hq : 16 ≤ u
    · have bq : decide ((16 : Int) ≤ (u : Int)) = true := decide_eq_true (by omega)
      have hfl : 2 ≤ (fmtQ 16 u).length := by
        rw [fmt_big (by omega) hq, List.length_append]
        have := List.length_pos_iff.2 (fmt_ne 16 (u / 16))
        simp; omega
      obtain ⟨j, rfl⟩ : ∃ j, i = j + 1 := ⟨i - 1, by omega⟩
      obtain ⟨c1, c2⟩ := hbw.out j (by rw [hl.out]; omega)
      have ha := (and_mask u hu).2.2
      have hm := Nat.mod_lt u (show 0 < 16 by omega)
      have HD := Lib.hid (dig_at (u % 16) (by omega))
      have HF := Lib.hid (fmt_step (by omega) hq hfm.out)
      clear hll hfl
      have hB : Hid (BW (wr.setCell ⟨w.heap.size, j, none⟩ (.int .u8 (((⟨#[48, 49, 50, 51, 52, 53, 54, 55, 56, 57, 97, 98, 99, 100, 101, 102, 103, 104, 105, 106, 107, 108, 109, 110, 111, 112, 113, 114, 115, 116, 117, 118, 119, 120, 121, 122]⟩ : ByteArray)[u % 16]'(Nat.lt_of_lt_of_le hm (by decide))).toNat : Int))) w.heap.size (l.set j (digQ (u % 16)))) := by
        show BW _ _ _
        rw [HD.out]; exact hbw.out.set j _
      have HF2 : Hid (fmtQ 16 (u / 16) ++ (l.set j (digQ (u % 16))).drop j = fmtQ 16 n) := by
        show _ = _
        rw [drop_set (by rw [hl.out]; omega)]; exact HF.out
      clear HD HF
      go_wp2
      go_roundg (u / 16)
      case measure => have := hg.out; omega
      case rel => exact ⟨u / 16, j, l.set j (digQ (u % 16)), congrArg (Value.int .u64) (by omega), rfl, by omega, by omega, rfl, by show _ = _; rw [List.length_set]; exact hl.out, hB.out, HF2.out, hlow.out.setCell (p := ⟨w.heap.size, j, none⟩) (Nat.le_refl _) _⟩
    · have bq : decide ((16 : Int) ≤ (u : Int)) = false := decide_eq_false (by omega)
      have hfl : (fmtQ 16 u).length = 1 := by rw [fmt_small (by omega)]; rfl
      obtain ⟨j, rfl⟩ : ∃ j, i = j + 1 := ⟨i - 1, by omega⟩
      obtain ⟨c1, c2⟩ := hbw.out j (by rw [hl.out]; omega)
      have hm : u < 16 := by omega
      have HD := Lib.hid (dig_at u (by omega))
      have hB : Hid (BW (wr.setCell ⟨w.heap.size, j, none⟩ (.int .u8 (((⟨#[48, 49, 50, 51, 52, 53, 54, 55, 56, 57, 97, 98, 99, 100, 101, 102, 103, 104, 105, 106, 107, 108, 109, 110, 111, 112, 113, 114, 115, 116, 117, 118, 119, 120, 121, 122]⟩ : ByteArray)[u]'(Nat.lt_of_lt_of_le hm (by decide))).toNat : Int))) w.heap.size (l.set j (digQ u))) := by
        show BW _ _ _
        rw [HD.out]; exact hbw.out.set j _
      have HF2 : Hid (t.data.toList = (l.set j (digQ u)).drop j) := by
        show _ = _
        rw [drop_set (by rw [hl.out]; omega), HT.out, ← hfm.out, fmt_small hm]; rfl
      have hlz : (l.set j (digQ u)).length = 65 := by rw [List.length_set]; exact hl.out
      have hw2 : Hid (Below w.heap.size w (wr.setCell ⟨w.heap.size, j, none⟩ (.int .u8 (((⟨#[48, 49, 50, 51, 52, 53, 54, 55, 56, 57, 97, 98, 99, 100, 101, 102, 103, 104, 105, 106, 107, 108, 109, 110, 111, 112, 113, 114, 115, 116, 117, 118, 119, 120, 121, 122]⟩ : ByteArray)[u]'(Nat.lt_of_lt_of_le hm (by decide))).toNat : Int)))) := hlow.out.setCell (p := ⟨w.heap.size, j, none⟩) (Nat.le_refl _) _
      have hal : Tryz.prog.arrayLen 127 = 65 := by simp [Program.arrayLen, Tryz.underlying127]
      have hsl : ∀ W, (Instr.sliceAt 127 (.pointer (some ⟨w.heap.size, 0, none⟩)) (some (.int .i64 (j : Int))) none none).run Tryz.prog W = .ok (.slice (some ⟨w.heap.size, j, none⟩) (65 - j) (65 - j)) W := fun W => by
        rw [run_sliceAt_array_l W 127 ⟨w.heap.size, 0, none⟩ (by simp [Program.arrayLen, Program.elem, Tryz.underlying127]) .i64 (j : Int) (by omega) (by rw [hal]; omega)]
        go_simp
        omega
      clear hal
      obtain ⟨w3, hW⟩ : ∃ w3, wr.setCell ⟨w.heap.size, j, none⟩ (.int .u8 (((⟨#[48, 49, 50, 51, 52, 53, 54, 55, 56, 57, 97, 98, 99, 100, 101, 102, 103, 104, 105, 106, 107, 108, 109, 110, 111, 112, 113, 114, 115, 116, 117, 118, 119, 120, 121, 122]⟩ : ByteArray)[u]'(Nat.lt_of_lt_of_le hm (by decide))).toNat : Int)) = w3 := ⟨_, rfl⟩
      rw [hW] at hB hw2
      have HBS : BS w3 (w.heap.size + 1) (some ⟨w.heap.size, j, none⟩) ((l.set j (digQ u)).drop j) := BS.of_cells (by simp) fun k hk => by
        rw [List.length_drop] at hk
        rw [List.getElem_drop, add_plain]
        exact (hB.out (j + k) (by omega)).1
      have hcv := conv_bs (P := Tryz.prog) w3 61 9 5 Tryz.underlying61 Tryz.underlying5 Tryz.underlying9 HBS (65 - j)
      rw [List.length_drop, hlz, ← HF2.out] at hcv
      have hcv2 : (convert 61 9 (.slice (some ⟨w.heap.size, j, none⟩) (65 - j) (65 - j))).run Tryz.prog w3 = .ok (.string t) w3 := hcv
      clear hcv HBS HD HF2 hlz hB hll hfl
      rw [← hW] at hcv2 hw2
      clear hW
      go_wp2
      go_ret2
      exact ⟨rfl, hw2.out⟩


set_option maxRecDepth 100000 in
set_option maxHeartbeats 2000000 in
theorem fu_2 (n : Nat) (hn : n < 18446744073709551616) (t : ByteArray) (ht : t.data.toList = fmtQ 2 n) (w : World) (hD : Db w) :
    Calls Tryz.prog 16 #[.int .u64 (n : Int), .int .i64 2] w fun e w' => e = .returned (.string t) ∧ Below w.heap.size w w' := by
  have HB := Lib.hid (fb_2 n hn t ht w hD)
  have HI : Hid (Calls Tryz.prog 41 #[.int .u64 (n : Int), .int .i64 2] w fun e w' => e = .returned (.string t) ∧ Below w.heap.size w w') := by
    show Calls _ _ _ _ _
    clear ht hD
    go_enter Tryz.func41, Tryz.ntmps41
    go_wp2_with (go_at_call 56; refine HB.out.mono ?_; rintro e w1 ⟨rfl, hb1⟩)
    go_ret
    exact ⟨rfl, hb1⟩
  clear ht hD HB
  go_enter Tryz.func16, Tryz.ntmps16
  go_wp2_with (go_at_call 41; refine HI.out.mono ?_; rintro e w1 ⟨rfl, hb1⟩)
  go_ret
  exact ⟨rfl, hb1⟩
set_option maxRecDepth 100000 in
set_option maxHeartbeats 2000000 in
theorem fi_2 (n : Nat) (hn : n < 9223372036854775808) (t : ByteArray) (ht : t.data.toList = fmtQ 2 n) (w : World) (hD : Db w) :
    Calls Tryz.prog 13 #[.int .i64 (n : Int), .int .i64 2] w fun e w' => e = .returned (.string t) ∧ Below w.heap.size w w' := by
  have HB := Lib.hid (fb_2 n (by omega) t ht w hD)
  have hw : IntKind.u64.wrap (n : Int) = (n : Int) := by rw [IntKind.wrap_u64]; omega
  have b0 : decide ((n : Int) < 0) = false := decide_eq_false (by omega)
  have HI : Hid (Calls Tryz.prog 33 #[.int .i64 (n : Int), .int .i64 2] w fun e w' => e = .returned (.string t) ∧ Below w.heap.size w w') := by
    show Calls _ _ _ _ _
    clear ht hD
    go_enter Tryz.func33, Tryz.ntmps33
    go_wp2_with (go_at_call 56; refine HB.out.mono ?_; rintro e w1 ⟨rfl, hb1⟩)
    go_ret
    exact ⟨rfl, hb1⟩
  clear ht hD HB hw b0
  go_enter Tryz.func13, Tryz.ntmps13
  go_wp2_with (go_at_call 33; refine HI.out.mono ?_; rintro e w1 ⟨rfl, hb1⟩)
  go_ret
  exact ⟨rfl, hb1⟩


set_option maxRecDepth 100000 in
set_option maxHeartbeats 2000000 in
theorem fu_8 (n : Nat) (hn : n < 18446744073709551616) (t : ByteArray) (ht : t.data.toList = fmtQ 8 n) (w : World) (hD : Db w) :
    Calls Tryz.prog 16 #[.int .u64 (n : Int), .int .i64 8] w fun e w' => e = .returned (.string t) ∧ Below w.heap.size w w' := by
  have HB := Lib.hid (fb_8 n hn t ht w hD)
  have HI : Hid (Calls Tryz.prog 41 #[.int .u64 (n : Int), .int .i64 8] w fun e w' => e = .returned (.string t) ∧ Below w.heap.size w w') := by
    show Calls _ _ _ _ _
    clear ht hD
    go_enter Tryz.func41, Tryz.ntmps41
    go_wp2_with (go_at_call 56; refine HB.out.mono ?_; rintro e w1 ⟨rfl, hb1⟩)
    go_ret
    exact ⟨rfl, hb1⟩
  clear ht hD HB
  go_enter Tryz.func16, Tryz.ntmps16
  go_wp2_with (go_at_call 41; refine HI.out.mono ?_; rintro e w1 ⟨rfl, hb1⟩)
  go_ret
  exact ⟨rfl, hb1⟩
set_option maxRecDepth 100000 in
set_option maxHeartbeats 2000000 in
theorem fi_8 (n : Nat) (hn : n < 9223372036854775808) (t : ByteArray) (ht : t.data.toList = fmtQ 8 n) (w : World) (hD : Db w) :
    Calls Tryz.prog 13 #[.int .i64 (n : Int), .int .i64 8] w fun e w' => e = .returned (.string t) ∧ Below w.heap.size w w' := by
  have HB := Lib.hid (fb_8 n (by omega) t ht w hD)
  have hw : IntKind.u64.wrap (n : Int) = (n : Int) := by rw [IntKind.wrap_u64]; omega
  have b0 : decide ((n : Int) < 0) = false := decide_eq_false (by omega)
  have HI : Hid (Calls Tryz.prog 33 #[.int .i64 (n : Int), .int .i64 8] w fun e w' => e = .returned (.string t) ∧ Below w.heap.size w w') := by
    show Calls _ _ _ _ _
    clear ht hD
    go_enter Tryz.func33, Tryz.ntmps33
    go_wp2_with (go_at_call 56; refine HB.out.mono ?_; rintro e w1 ⟨rfl, hb1⟩)
    go_ret
    exact ⟨rfl, hb1⟩
  clear ht hD HB hw b0
  go_enter Tryz.func13, Tryz.ntmps13
  go_wp2_with (go_at_call 33; refine HI.out.mono ?_; rintro e w1 ⟨rfl, hb1⟩)
  go_ret
  exact ⟨rfl, hb1⟩


set_option maxRecDepth 100000 in
set_option maxHeartbeats 2000000 in
theorem fu_16 (n : Nat) (hn : n < 18446744073709551616) (t : ByteArray) (ht : t.data.toList = fmtQ 16 n) (w : World) (hD : Db w) :
    Calls Tryz.prog 16 #[.int .u64 (n : Int), .int .i64 16] w fun e w' => e = .returned (.string t) ∧ Below w.heap.size w w' := by
  have HB := Lib.hid (fb_16 n hn t ht w hD)
  have HI : Hid (Calls Tryz.prog 41 #[.int .u64 (n : Int), .int .i64 16] w fun e w' => e = .returned (.string t) ∧ Below w.heap.size w w') := by
    show Calls _ _ _ _ _
    clear ht hD
    go_enter Tryz.func41, Tryz.ntmps41
    go_wp2_with (go_at_call 56; refine HB.out.mono ?_; rintro e w1 ⟨rfl, hb1⟩)
    go_ret
    exact ⟨rfl, hb1⟩
  clear ht hD HB
  go_enter Tryz.func16, Tryz.ntmps16
  go_wp2_with (go_at_call 41; refine HI.out.mono ?_; rintro e w1 ⟨rfl, hb1⟩)
  go_ret
  exact ⟨rfl, hb1⟩
set_option maxRecDepth 100000 in
set_option maxHeartbeats 2000000 in
theorem fi_16 (n : Nat) (hn : n < 9223372036854775808) (t : ByteArray) (ht : t.data.toList = fmtQ 16 n) (w : World) (hD : Db w) :
    Calls Tryz.prog 13 #[.int .i64 (n : Int), .int .i64 16] w fun e w' => e = .returned (.string t) ∧ Below w.heap.size w w' := by
  have HB := Lib.hid (fb_16 n (by omega) t ht w hD)
  have hw : IntKind.u64.wrap (n : Int) = (n : Int) := by rw [IntKind.wrap_u64]; omega
  have b0 : decide ((n : Int) < 0) = false := decide_eq_false (by omega)
  have HI : Hid (Calls Tryz.prog 33 #[.int .i64 (n : Int), .int .i64 16] w fun e w' => e = .returned (.string t) ∧ Below w.heap.size w w') := by
    show Calls _ _ _ _ _
    clear ht hD
    go_enter Tryz.func33, Tryz.ntmps33
    go_wp2_with (go_at_call 56; refine HB.out.mono ?_; rintro e w1 ⟨rfl, hb1⟩)
    go_ret
    exact ⟨rfl, hb1⟩
  clear ht hD HB hw b0
  go_enter Tryz.func13, Tryz.ntmps13
  go_wp2_with (go_at_call 33; refine HI.out.mono ?_; rintro e w1 ⟨rfl, hb1⟩)
  go_ret
  exact ⟨rfl, hb1⟩


theorem fu10_conv (w : World) (u k v' : Nat) (dk : Array UInt8) (t : ByteArray) (ht : t.data.toList = Lib.decDigits u) (hnd : Lib.nDigits u ≤ 24) (hF : Lib.FmtInv (Lib.nDigits u) u 0 v' dk) :
    (convert 61 9 (.slice (some ⟨w.heap.size, 0, none⟩) (Lib.nDigits u) 24)).run Tryz.prog ((Sort.putRow (fun (b : UInt8) => Value.int .u8 (b.toNat : Int)) (w.alloc (.cells Lib.zeros24 83)) w.heap.size 0 dk).drewN k) =
      .ok (.string t) ((Sort.putRow (fun (b : UInt8) => Value.int .u8 (b.toNat : Int)) (w.alloc (.cells Lib.zeros24 83)) w.heap.size 0 dk).drewN k) := by
  have hH0 := Lib.holds_zero0 w 83 (Lib.nDigits u) hnd
  have h := run_convert_bytes_back (P := Tryz.prog) ((Sort.putRow (fun (b : UInt8) => Value.int .u8 (b.toNat : Int)) (w.alloc (.cells Lib.zeros24 83)) w.heap.size 0 dk).drewN k) 61 9 5 ⟨w.heap.size, 0, none⟩ 24 (Lib.decDigits u) Tryz.underlying61 Tryz.underlying5 Tryz.underlying9 (fun j hj => by
    rw [Lib.row_is_numeral hF j hj, Lib.add_plain, World.cell?_drewN]
    exact Sort.cell?_putRow (fun (b : UInt8) => Value.int .u8 (b.toNat : Int)) _ w.heap.size 0 _ dk hH0 (by rw [hF.size, Array.size_replicate]) j (by rw [hF.size]; rw [Lib.decDigits_length] at hj; exact hj))
  rw [Lib.decDigits_length] at h
  have e : (⟨(Lib.decDigits u).toArray⟩ : ByteArray) = t := str_eq ht.symm
  rw [e] at h
  exact h
set_option maxRecDepth 100000 in
set_option maxHeartbeats 4000000 in
theorem fu_10 (u : Nat) (hu1 : 100 ≤ u) (hu64 : u < 18446744073709551616) (t : ByteArray) (ht : t.data.toList = Lib.decDigits u) (w : World) (hT : TAB w) :
    Calls Tryz.prog 16 #[.int .u64 (u : Int), .int .i64 10] w fun e w' => e = .returned (.string t) ∧ Below w.heap.size w w' := by
  have HI : Hid (Calls Tryz.prog 41 #[.int .u64 (u : Int), .int .i64 10] w fun e w' => e = .returned (.string t) ∧ Below w.heap.size w w') := by
    show Calls _ _ _ _ _
    have hnd20 : Lib.nDigits u ≤ 20 := by have := Lib.numDigits_eq u (by omega) hu64; split at this <;> omega
    have b1 : decide ((u : Int) < 100) = false := decide_eq_false (by omega)
    have hal : Tryz.prog.arrayLen 83 = 24 := by simp [Program.arrayLen, Tryz.underlying83]
    have hsl1 : ∀ W, (Instr.sliceAt 83 (.pointer (some ⟨w.heap.size, 0, none⟩)) none (some (.int .i64 (Lib.nDigits u : Int))) none).run Tryz.prog W = .ok (.slice (some ⟨w.heap.size, 0, none⟩) (Lib.nDigits u) 24) W := fun W => by
      rw [run_sliceAt_array_h W 83 ⟨w.heap.size, 0, none⟩ (by simp [Program.arrayLen, Program.elem, Tryz.underlying83]) .i64 (Lib.nDigits u : Int) (by omega) (by rw [hal]; omega)]
      go_simp
    have hH0 := Lib.holds_zero0 w 83 (Lib.nDigits u) (by omega)
    have hfmt := Tryz.internal_strconv_formatBase10 w.heap.size 0 24 u (Array.replicate (Lib.nDigits u) 0) (w.alloc (.cells Lib.zeros24 83)) hH0 (by rw [Array.size_replicate]; exact Lib.lt_pow_nDigits u) hu64 (by rw [Array.size_replicate]; omega)
    rw [Array.size_replicate] at hfmt
    have HF := Lib.hid hfmt
    have HH0 := Lib.hid hH0
    have HN := Lib.hid (fun W h => Tryz.internal_strconv_numDigits u (by omega) hu64 W (hT W h))
    clear hH0 hal hfmt hT
    go_enter Tryz.func41, Tryz.ntmps41
    go_wp2_with (first
      | (go_at_call 54; refine (HN.out _ (below_new1 _ _)).mono ?_; rintro e w' ⟨rfl, rfl⟩)
      | (go_at_call 55; refine HF.out.mono ?_; rintro e w' ⟨rfl, k, v', dk, rfl, hF⟩; have hcv := fu10_conv w u k v' dk t ht (by omega) hF))
    go_ret
    obtain ⟨os, eo⟩ := Lib.fin_at w (.cells Lib.zeros24 83) dk k 0
    exact ⟨rfl, by rw [eo]; exact Lib.below_grow _ _ (Nat.le_refl _) _ _⟩
  clear ht hT hu64
  go_enter Tryz.func16, Tryz.ntmps16
  go_wp2_with (go_at_call 41; refine HI.out.mono ?_; rintro e w1 ⟨rfl, hb1⟩)
  go_ret
  exact ⟨rfl, hb1⟩


end Go.Proofs.YtghjiddcbbnhpaaGreatDoor
