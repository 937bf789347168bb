/- The walk of the law QuotesBack; no statement of the seat is proved here. -/
import Derived.Test.YtpchipmpgoflfaaDoorQuL
import Derived.Test.YtpchipmpgoflfaaDoorQuT
import Derived.Test.YtpchipmpgoflfaaDoorQuV
import Derived.Test.YtpchipmpgoflfaaDoorQuG
import Derived.Test.YtpchipmpgoflfaaDoorLat
namespace Go.Proofs.YtpchipmpgoflfaaDoor
open Go.RowKit

theorem read_spare (a : List UInt8) (i : Nat) (hi : i < (writeQ a).length) : readQ ((writeQ a).take i ++ (writeQ a).drop (i + 1)) ≠ (a, 0, 0) := by
  intro h
  have := read_min h
  simp at this
  omega
theorem is_f (s : ByteArray) (want : ByteArray) (h : readQ s.data.toList ≠ (want.data.toList, 0, 0)) (hs : s.size ≤ 16777216) (w : World) (hG : Glob w) :
    Calls Tryd.prog 13 #[.string s, .string want] w fun e w' => e = .returned (.bool false) ∧ Below w.heap.size w w' := by
  have := is_any s hs want w hG
  rwa [decide_eq_false h] at this
theorem qwrite_b (s : ByteArray) (hs : s.size ≤ 16777216) (t : ByteArray) (h : writeQ s.data.toList = t.data.toList) (w : World) (hG : Glob w) :
    Calls Tryd.prog 11 #[.string s] w fun e w' => e = .returned (.string t) ∧ Below w.heap.size w w' := by
  have := qwrite_at s hs _ h w hG
  rwa [show (⟨t.data.toList.toArray⟩ : ByteArray) = t by simp] at this
theorem is_tG {w0 : World} (hG : Glob w0) (s : ByteArray) (want : ByteArray) (h : readQ s.data.toList = (want.data.toList, 0, 0)) (hs : s.size ≤ 16777216) (w : World) (hb : Below w0.heap.size w0 w) :
    Calls Tryd.prog 13 #[.string s, .string want] w fun e w' => e = .returned (.bool true) ∧ Below w0.heap.size w0 w' :=
  (is_t s want h hs w (hG.keep hb (Nat.le_refl _))).mono fun _ _ ⟨e, h⟩ => ⟨e, hb.trans (h.mono hb.size)⟩
theorem is_fG {w0 : World} (hG : Glob w0) (s : ByteArray) (want : ByteArray) (h : readQ s.data.toList ≠ (want.data.toList, 0, 0)) (hs : s.size ≤ 16777216) (w : World) (hb : Below w0.heap.size w0 w) :
    Calls Tryd.prog 13 #[.string s, .string want] w fun e w' => e = .returned (.bool false) ∧ Below w0.heap.size w0 w' :=
  (is_f s want h hs w (hG.keep hb (Nat.le_refl _))).mono fun _ _ ⟨e, h⟩ => ⟨e, hb.trans (h.mono hb.size)⟩
theorem qwrite_G {w0 : World} (hG : Glob w0) (s : ByteArray) (hs : s.size ≤ 16777216) (t : ByteArray) (h : writeQ s.data.toList = t.data.toList) (w : World) (hb : Below w0.heap.size w0 w) :
    Calls Tryd.prog 11 #[.string s] w fun e w' => e = .returned (.string t) ∧ Below w0.heap.size w0 w' :=
  (qwrite_b s hs t h w (hG.keep hb (Nat.le_refl _))).mono fun _ _ ⟨e, h⟩ => ⟨e, hb.trans (h.mono hb.size)⟩
theorem ext_list (s : ByteArray) (i j : Nat) : (s.extract i j).data.toList = (s.data.toList.drop i).take (j - i) := by
  rw [ByteArray.data_extract, Array.toList_extract]
theorem list_len (s : ByteArray) : s.data.toList.length = s.size := rfl
theorem join_ext {a b s t : ByteArray} (hs : writeQ a.data.toList = s.data.toList) (ht : writeQ b.data.toList = t.data.toList) : writeQ (a ++ b).data.toList = (s.extract 0 (s.size - 1) ++ t.extract 1 t.size).data.toList := by
  have e1 : (a ++ b).data.toList = a.data.toList ++ b.data.toList := by simp
  have e2 : ∀ x y : ByteArray, (x ++ y).data.toList = x.data.toList ++ y.data.toList := fun x y => by simp
  rw [e1, write_join, hs, ht, e2, ext_list, ext_list, list_len, List.drop_zero, Nat.sub_zero]
  congr 1
  exact (List.take_of_length_le (by rw [List.length_drop, list_len]; exact Nat.le_refl _)).symm
theorem spare_ext {a s : ByteArray} (hs : writeQ a.data.toList = s.data.toList) (i : Nat) (hi : i < s.size) : readQ (s.extract 0 i ++ s.extract (i + 1) s.size).data.toList ≠ (a.data.toList, 0, 0) := by
  have e2 : ∀ x y : ByteArray, (x ++ y).data.toList = x.data.toList ++ y.data.toList := fun x y => by simp
  have h := read_spare a.data.toList i (by rw [hs, list_len]; exact hi)
  rw [e2, ext_list, ext_list, ← hs, List.drop_zero, Nat.sub_zero]
  rw [List.take_of_length_le (l := (writeQ a.data.toList).drop (i + 1)) (by rw [List.length_drop, hs, list_len]; exact Nat.le_refl _)]
  exact h
theorem writeQ_le (a : List UInt8) : (writeQ a).length ≤ 6 * a.length + 2 ∧ 2 ≤ (writeQ a).length := by
  have : (a.flatMap wrB).length ≤ 6 * a.length := by
    induction a with
    | nil => simp
    | cons c a ih =>
      have := wrB_len c
      rw [List.flatMap_cons, List.length_append, List.length_cons]
      omega
  simp only [writeQ, List.length_append, List.length_cons, List.length_nil]
  omega

set_option maxRecDepth 100000 in
set_option maxHeartbeats 2000000 in
theorem backlaw_walk (a b : ByteArray) (w : World) (hG : Glob w) :
    Calls Tryd.prog 5 #[.string a, .string b] w fun e w' => e = .returned (.bool true) ∧ Below w.heap.size w w' := by
  have HG := Lib.hid hG; clear hG
  by_cases hbig : 300 < a.size
  · go_enter Tryd.func5, Tryd.ntmps5
    go_wp2_with (go_at_call 8; refine (lives_any _ HG.out).mono ?_; rintro e w1 ⟨rfl, hb1⟩)
    go_ret
    exact ⟨rfl, hb1⟩
  by_cases hbig2 : 300 < b.size
  · go_enter Tryd.func5, Tryd.ntmps5
    go_wp2_with (go_at_call 8; refine (lives_any _ HG.out).mono ?_; rintro e w1 ⟨rfl, hb1⟩)
    go_ret
    exact ⟨rfl, hb1⟩
  obtain ⟨s, hs⟩ : ∃ s : ByteArray, Hid (writeQ a.data.toList = s.data.toList) := ⟨⟨(writeQ a.data.toList).toArray⟩, rfl⟩
  obtain ⟨t, ht⟩ : ∃ t : ByteArray, Hid (writeQ b.data.toList = t.data.toList) := ⟨⟨(writeQ b.data.toList).toArray⟩, rfl⟩
  have hab : (a ++ b).size ≤ 16777216 := by rw [app_size]; omega
  have hsz : 2 ≤ s.size ∧ s.size ≤ 1802 := by
    have h1 := writeQ_le a.data.toList
    rw [hs.out] at h1
    simp at h1
    have : s.data.size = s.size := rfl
    have : a.data.size = a.size := rfl
    omega
  have htz : 2 ≤ t.size ∧ t.size ≤ 1802 := by
    have h1 := writeQ_le b.data.toList
    rw [ht.out] at h1
    simp at h1
    have : t.data.size = t.size := rfl
    have : b.data.size = b.size := rfl
    omega
  obtain ⟨hs2, hs3⟩ := hsz
  obtain ⟨ht2, ht3⟩ := htz
  have hja : Hid (writeQ (a ++ b).data.toList = (s.extract 0 (s.size - 1) ++ t.extract 1 t.size).data.toList) := by
    exact join_ext hs.out ht.out
  go_enter Tryd.func5, Tryd.ntmps5
  go_wp2_with fail
  refine (qwrite_b a (by omega) s hs.out _ HG.out).mono ?_
  rintro e w1 ⟨rfl, hb1⟩
  go_wp2_with fail
  refine (qwrite_b b (by omega) t ht.out _ (HG.out.keep hb1 (Nat.le_refl _))).mono ?_
  rintro e w2 ⟨rfl, hb2⟩
  have hb12 := hb1.trans (hb2.mono hb1.size)
  clear hb2
  have hsb : Hid (readQ s.data.toList = (a.data.toList, 0, 0)) := by show _ = _; rw [← hs.out]; exact read_write _
  have htb : Hid (readQ t.data.toList = (b.data.toList, 0, 0)) := by show _ = _; rw [← ht.out]; exact read_write _
  have heq : (s.toList == t.toList) = (a.toList == b.toList) := by
    rw [Bool.eq_iff_iff, beq_iff_eq, beq_iff_eq, ByteArray.toList_eq, ByteArray.toList_eq, ByteArray.toList_eq, ByteArray.toList_eq, ← hs.out, ← ht.out]
    exact ⟨fun h => write_inj h, fun h => by rw [h]⟩
  go_wp2_with fail
  have d1 : decide ((s.size : Int) < 2) = false := by simp; omega
  have d2 : decide ((t.size : Int) < 2) = false := by simp; omega
  have hB0 : Below w.heap.size w w2 := hb12
  have C1 : Hid (∀ n : Later w, Calls Tryd.prog 13 #[.string s, .string a] n.at_ fun e w'' => e = .returned (.bool true) ∧ ∃ m : Later w, w'' = m.at_) := fun n => calls_later (is_tG HG.out s a hsb.out (by omega) _ n.below)
  have C2 : Hid (∀ n : Later w, Calls Tryd.prog 13 #[.string t, .string b] n.at_ fun e w'' => e = .returned (.bool true) ∧ ∃ m : Later w, w'' = m.at_) := fun n => calls_later (is_tG HG.out t b htb.out (by omega) _ n.below)
  have C3 : Hid (∀ n : Later w, Calls Tryd.prog 11 #[.string (a ++ b)] n.at_ fun e w'' => e = .returned (.string (s.extract 0 (s.size - 1) ++ t.extract 1 t.size)) ∧ ∃ m : Later w, w'' = m.at_) := fun n => calls_later (qwrite_G HG.out (a ++ b) hab _ hja.out _ n.below)
  refine wp_region_later w (by kernel_rfl) (by kernel_rfl) hB0 ?_
  repeat (go_big_quiet_step (first
    | (go_at_call 13; with_reducible exact C1.out _)
    | (go_at_call 13; with_reducible exact C2.out _)
    | (go_at_call 11; with_reducible exact C3.out _)))
  refine wpQuiet_nil ?_
  rintro _ ⟨⟨w3, hb3⟩, rfl⟩
  clear C1 C2 C3 hb12 hb1
  go_wp2_with fail
  clear heq
  go_loopg [7] s.size (fun g s7 wr => ∃ k : Nat, s7 = .int .i64 k ∧ k ≤ s.size ∧ Hid (g = s.size - k) ∧ Below w.heap.size w wr)
  case atStart => exact ⟨0, rfl, by omega, rfl, hb3⟩
  case round =>
    obtain ⟨k, rfl, hk, hg, hbw⟩ := hrel
    by_cases hlt : k < s.size
    · have C1 : Hid (∀ n : Later w, Calls Tryd.prog 13 #[.string (s.extract 0 k ++ s.extract (k + 1) s.size), .string a] n.at_ fun e w'' => e = .returned (.bool false) ∧ ∃ m : Later w, w'' = m.at_) := fun n => calls_later (is_fG HG.out _ a (spare_ext hs.out k hlt) (by rw [app_size, ByteArray.size_extract, ByteArray.size_extract]; omega) _ n.below)
      have hw1 : IntKind.i64.wrap ((k : Int) + 1) = (k : Int) + 1 := IntWalk.i64_in _ (by omega)
      have hn1 : ((k : Int) + 1).toNat = k + 1 := by omega
      have h01 : (0 : Int) ≤ (k : Int) + 1 := by omega
      have h02 : (k : Int) + 1 ≤ s.size := by omega
      go_wp2
      refine wp_region_later w (by kernel_rfl) (by kernel_rfl) hbw ?_
      repeat (go_big_quiet_step ((go_at_call 13; with_reducible exact C1.out _)))
      refine wpQuiet_nil ?_
      rintro _ ⟨⟨w4, hb4⟩, rfl⟩
      clear C1 hw1 hn1 h01 h02
      go_wp2
      go_roundg (s.size - (k + 1))
      case measure => have := hg.out; omega
      case rel => exact ⟨k + 1, by go_num, by omega, rfl, hb4⟩
    · go_wp2_with (go_at_call 8; refine (lives_any _ (HG.out.keep hbw (Nat.le_refl _))).mono ?_; rintro e w5 ⟨rfl, hb5⟩)
      go_ret
      exact ⟨rfl, hbw.trans (hb5.mono hbw.size)⟩

end Go.Proofs.YtpchipmpgoflfaaDoor
