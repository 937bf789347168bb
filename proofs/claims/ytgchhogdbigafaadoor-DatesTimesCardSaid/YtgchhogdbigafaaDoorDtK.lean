/- Walks over the law's helper of chapter 07: number; and what its numerals are; no statement of the seat is proved here. -/
import Derived.Test.YtgchhogdbigafaaDoorDtH
import Derived.Test.YtgchhogdbigafaaDoorDtJ
namespace Go.Proofs.YtgchhogdbigafaaDoor
open Go.RowKit

/-- So many numerals of a number. -/
def numL (n : Nat) : Nat → List UInt8
  | 0 => []
  | d + 1 => numL (n / 10) d ++ [UInt8.ofNat (48 + n % 10)]
theorem numL_len (d : Nat) : ∀ n, (numL n d).length = d := by
  induction d with
  | zero => intro n; rfl
  | succ d ih => intro n; simp [numL, ih]
theorem num_byte (m : Nat) : (UInt8.ofNat (48 + m % 10)).toNat = 48 + m % 10 := by simp; omega
theorem num_dig (m : Nat) : dgN (UInt8.ofNat (48 + m % 10)).toNat = true := by rw [num_byte]; exact dgN_t.2 (by omega)
theorem numL_digs (d : Nat) : ∀ n, Digs (numL n d) := by
  induction d with
  | zero => intro n c hc; simp [numL] at hc
  | succ d ih =>
    intro n c hc
    rw [numL, List.mem_append] at hc
    rcases hc with hc | hc
    · exact ih _ c hc
    · simp only [List.mem_singleton] at hc; rw [hc]; exact num_dig n
theorem num_step {n d i m : Nat} {o : List UInt8} (hi : i < d) (h : numL m (d - i) ++ o = numL n d) : numL (m / 10) (d - (i + 1)) ++ (UInt8.ofNat (48 + m % 10) :: o) = numL n d := by
  rw [← h, show d - i = (d - (i + 1)) + 1 by omega, numL]; simp

theorem one_conv (w : World) (z : Int) (b : UInt8) (hz : z = (b.toNat : Int)) :
    (convert 35 9 (.slice (some ⟨w.heap.size, 0, none⟩) 1 1)).run Tryd.prog (w.alloc (.cells #[.int .u8 z] 5)) = .ok (.string ⟨#[b]⟩) (w.alloc (.cells #[.int .u8 z] 5)) := by
  have hB : BS (w.alloc (.cells #[.int .u8 z] 5)) (w.heap.size + 1) (some ⟨w.heap.size, 0, none⟩) [b] := BS.of_cells (by simp) fun k hk => by
    have : k = 0 := by simp at hk; omega
    subst this
    rw [add_plain, Nat.zero_add]
    have := blk_cell (heap_new1 w (.cells #[.int .u8 z] 5)) 0
    rw [this, hz]; rfl
  exact conv_bs (P := Tryd.prog) _ 35 9 5 Tryd.underlying35 Tryd.underlying5 Tryd.underlying9 hB 1

set_option maxHeartbeats 1000000 in
theorem number_is (n d : Nat) (hn : n ≤ 1000000000) (hd : d ≤ 20) (t : ByteArray) (ht : t.data.toList = numL n d) (w : World) :
    Calls Tryd.prog 4 #[.int .i64 (n : Int), .int .i64 (d : Int)] w fun e w' => e = .returned (.string t) ∧ Below w.heap.size w w' := by
  have HT := Lib.hid ht; clear ht
  go_enter Tryd.func4, Tryd.ntmps4
  go_wp2
  go_loopg [0, 5, 6] d (fun g s0 s5 s6 wr => ∃ (i m : Nat) (o : ByteArray), s0 = .int .i64 m ∧ s5 = .string o ∧ s6 = .int .i64 i ∧ i ≤ d ∧ m ≤ 1000000000 ∧ o.size ≤ i ∧ Hid (g = d - i) ∧ Hid (numL m (d - i) ++ o.data.toList = numL n d) ∧ Hid (Below w.heap.size w wr))
  case atStart => exact ⟨0, n, ⟨#[]⟩, rfl, rfl, rfl, by omega, hn, by decide, rfl, by show _ = _; simp, Below.refl _ _⟩
  case round =>
    obtain ⟨i, m, o, rfl, rfl, rfl, hi, hm, ho, hg, hr, hb⟩ := hrel
    by_cases hlt : i < d
    · obtain ⟨b, hbb⟩ : ∃ b : UInt8, Hid (UInt8.ofNat (48 + m % 10) = b) := ⟨UInt8.ofNat (48 + m % 10), rfl⟩
      have hcv := one_conv wr (48 + (m : Int) % 10) b (by rw [← hbb.out, num_byte]; omega)
      have hs := num_step hlt hr.out
      rw [hbb.out] at hs
      have HS := Lib.hid hs; clear hs
      go_wp2
      go_roundg (d - (i + 1))
      case measure => have := hg.out; omega
      case rel => exact ⟨i + 1, m / 10, ⟨#[b]⟩ ++ o, by go_num, rfl, by go_num, by omega, by omega, by rw [app_size]; show 1 + o.size ≤ _; omega, rfl, by show _ = _; rw [app_list]; exact HS.out, hb.out.alloc hb.out.size _⟩
    · go_wp2
      go_ret
      refine ⟨ret_str ?_, hb.out⟩
      have := hr.out
      rw [show d - i = 0 by omega] at this
      rw [HT.out, ← this]; rfl
theorem number_at (n d : Int) (N D : Nat) (h1 : n = (N : Int)) (h2 : d = (D : Int)) (hn : N ≤ 1000000000) (hd : D ≤ 20) (t : ByteArray) (ht : t.data.toList = numL N D) (w : World) :
    Calls Tryd.prog 4 #[.int .i64 n, .int .i64 d] w fun e w' => e = .returned (.string t) ∧ Below w.heap.size w w' := by
  subst h1 h2; exact number_is N D hn hd t ht w

end Go.Proofs.YtgchhogdbigafaaDoor
