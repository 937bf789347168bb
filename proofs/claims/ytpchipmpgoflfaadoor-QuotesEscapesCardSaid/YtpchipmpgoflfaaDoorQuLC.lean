/- The walk of the law QuotesCut; no statement of the seat is proved here. -/
import Derived.Test.YtpchipmpgoflfaaDoorQuL
import Derived.Test.YtpchipmpgoflfaaDoorQuZ
import Derived.Test.YtpchipmpgoflfaaDoorQuG
import Derived.Test.YtpchipmpgoflfaaDoorLat
namespace Go.Proofs.YtpchipmpgoflfaaDoor
open Go.RowKit

theorem ext_take (s : ByteArray) (k : Nat) : (s.extract 0 k).data.toList = s.data.toList.take k := by
  rw [ByteArray.data_extract, Array.toList_extract]
  simp
theorem fault_at (s : ByteArray) (c a : Int) (h : readQ s.data.toList = ([], c, a)) (hs : s.size ≤ 16777216) (w : World) (hG : Glob w) {w0 : World} (hb : Below w0.heap.size w0 w) :
    Calls Tryd.prog 16 #[.string s, .int .i64 c, .int .i64 a] w fun e w' => e = .returned (.bool true) ∧ Below w0.heap.size w0 w' :=
  (fault_t s c a h hs w hG).mono fun _ _ ⟨e, h⟩ => ⟨e, hb.trans (h.mono hb.size)⟩
theorem app_list (a b : ByteArray) : (a ++ b).data.toList = a.data.toList ++ b.data.toList := by simp
theorem len_list (s : ByteArray) : s.data.toList.length = s.size := rfl

theorem app_sz (a b : ByteArray) : (a ++ b).size = a.size + b.size := by simp

set_option maxRecDepth 100000 in
set_option maxHeartbeats 2000000 in
theorem cutlaw_bad (s more : ByteArray) (h1 : s.size ≤ 300) (h2 : more.size ≤ 300) (c fa : Int) (hR : Hid (readQ s.data.toList = ([], c, fa))) (hc : c = 3 ∨ c = 6) (hf0 : 0 ≤ fa) (hf1 : fa ≤ s.size) (w : World) (hG : Glob w) :
    Calls Tryd.prog 7 #[.string s, .string more] w fun e w' => e = .returned (.bool true) ∧ Below w.heap.size w w' := by
  have HG := Lib.hid hG; clear hG
  rcases hc with rfl | rfl
  all_goals
    by_cases hsh : fa + 12 < s.size
    · have hM := Lib.hid (read_keeps (m := more.data.toList) hR.out (by omega) hsh hf0)
      go_enter Tryd.func7, Tryd.ntmps7
      go_wp2_with fail
      refine (qread_at s (by omega) _ _ _ hR.out _ HG.out).mono ?_
      rintro e w1 ⟨rfl, hb1⟩
      go_wp2_with fail
      have hb1' : ∀ o, Below w.heap.size w (w1.alloc o) := fun o => hb1.alloc hb1.size o
      refine (fault_at (s ++ more) _ _ (by rw [app_list]; exact hM.out) (by rw [app_sz]; omega) _ (HG.out.keep (hb1' _) (Nat.le_refl _)) (hb1' _)).mono ?_
      rintro e w2 ⟨rfl, hb2⟩
      go_wp2_with fail
      refine (lives_any _ (HG.out.keep hb2 (Nat.le_refl _))).mono ?_
      rintro e w3 ⟨rfl, hb3⟩
      go_wp2
      go_ret
      exact ⟨rfl, hb2.trans (hb3.mono hb2.size)⟩
    · go_enter Tryd.func7, Tryd.ntmps7
      go_wp2_with fail
      refine (qread_at s (by omega) _ _ _ hR.out _ HG.out).mono ?_
      rintro e w1 ⟨rfl, hb1⟩
      go_wp2_with fail
      have hb1' : ∀ o, Below w.heap.size w (w1.alloc o) := fun o => hb1.alloc hb1.size o
      refine (lives_any _ (HG.out.keep (hb1' _) (Nat.le_refl _))).mono ?_
      rintro e w3 ⟨rfl, hb3⟩
      go_wp2
      go_ret
      exact ⟨rfl, (hb1' _).trans (hb3.mono (hb1' _).size)⟩

set_option maxRecDepth 100000 in
set_option maxHeartbeats 2000000 in
theorem cutlaw_good (s more : ByteArray) (h1 : s.size ≤ 300) (h2 : more.size ≤ 300) (t : List UInt8) (hR : Hid (readQ s.data.toList = (t, 0, 0))) (w : World) (hG : Glob w) :
    Calls Tryd.prog 7 #[.string s, .string more] w fun e w' => e = .returned (.bool true) ∧ Below w.heap.size w w' := by
  have HG := Lib.hid hG; clear hG
  go_enter Tryd.func7, Tryd.ntmps7
  go_wp2_with fail
  refine (qread_at s (by omega) _ _ _ hR.out _ HG.out).mono ?_
  rintro e w1 ⟨rfl, hb1⟩
  go_wp2_with fail
  have hb1' := hb1.alloc hb1.size (.cells #[.int .i64 0, .int .i64 0] 26)
  go_loopg [7] s.size (fun g s7 wr => ∃ k : Nat, s7 = .int .i64 k ∧ k ≤ s.size ∧ Hid (g = s.size - k) ∧ Below w.heap.size w wr)
  case atStart => exact ⟨0, rfl, by omega, rfl, hb1'⟩
  case round =>
    obtain ⟨k, rfl, hk, hg, hbw⟩ := hrel
    by_cases hlt : k < s.size
    · obtain ⟨u, c, fa, hu⟩ : ∃ u c fa, Hid (readQ (s.extract 0 k).data.toList = (u, c, fa)) := ⟨_, _, _, rfl⟩
      have hcut := read_cut (p := k) (by simpa using hlt) hR.out
      rw [← ext_take, hu.out] at hcut
      obtain ⟨hu0, hcut⟩ := hcut
      dsimp only at hu0 hcut
      subst hu0
      rcases hcut with ⟨rfl, rfl⟩ | ⟨rfl, hf1, hf2⟩
      all_goals
        go_wp2_with fail
        refine (qread_at (s.extract 0 k) (by rw [ByteArray.size_extract]; omega) _ _ _ hu.out _ (HG.out.keep hbw (Nat.le_refl _))).mono ?_
        rintro e w2 ⟨rfl, hb2⟩
        have hb2' := hbw.trans (hb2.mono hbw.size)
        clear hb2
        go_wp2
        go_roundg (s.size - (k + 1))
        case measure => have := hg.out; omega
        case rel => exact ⟨k + 1, by go_num, by omega, rfl, hb2'.alloc hb2'.size _⟩
    · by_cases hm : more.size = 0
      · have hem : more.toList.isEmpty = true := by rw [str_empty]; simpa using hm
        clear hm
        go_wp2_with fail
        refine (lives_any _ (HG.out.keep hbw (Nat.le_refl _))).mono ?_
        rintro e w3 ⟨rfl, hb3⟩
        go_wp2
        go_ret
        exact ⟨rfl, hbw.trans (hb3.mono hbw.size)⟩
      · have hem : more.toList.isEmpty = false := by rw [str_empty]; simpa using hm
        have hne : more.data.toList ≠ [] := fun h => hm (by rw [← len_list, h]; rfl)
        have hM := Lib.hid (read_more hne hR.out)
        clear hm hne
        go_wp2_with fail
        refine (fault_at (s ++ more) _ _ (by rw [app_list]; exact hM.out) (by rw [app_sz]; omega) _ (HG.out.keep hbw (Nat.le_refl _)) hbw).mono ?_
        rintro e w2 ⟨rfl, hb2⟩
        go_wp2_with fail
        refine (lives_any _ (HG.out.keep hb2 (Nat.le_refl _))).mono ?_
        rintro e w3 ⟨rfl, hb3⟩
        go_wp2
        go_ret
        exact ⟨rfl, hb2.trans (hb3.mono hb2.size)⟩

theorem cutlaw_walk (s more : ByteArray) (w : World) (hG : Glob w) :
    Calls Tryd.prog 7 #[.string s, .string more] w fun e w' => e = .returned (.bool true) ∧ Below w.heap.size w w' := by
  by_cases hbig : 300 < s.size ∨ 300 < more.size
  · have HG := Lib.hid hG; clear hG
    rcases hbig with hbig | hbig
    · go_enter Tryd.func7, Tryd.ntmps7
      go_wp2_with (go_at_call 8; refine (lives_any _ HG.out).mono ?_; rintro e w1 ⟨rfl, hb1⟩)
      go_ret
      exact ⟨rfl, hb1⟩
    · by_cases hbig2 : 300 < s.size
      all_goals
        go_enter Tryd.func7, Tryd.ntmps7
        go_wp2_with (go_at_call 8; refine (lives_any _ HG.out).mono ?_; rintro e w1 ⟨rfl, hb1⟩)
        go_ret
        exact ⟨rfl, hb1⟩
  · obtain ⟨t, c, fa, hR⟩ : ∃ t c fa, Hid (readQ s.data.toList = (t, c, fa)) := ⟨_, _, _, rfl⟩
    rcases read_fault hR.out with ⟨rfl, rfl⟩ | ⟨rfl, hc, h0, h1⟩
    · exact cutlaw_good s more (by omega) (by omega) t hR w hG
    · exact cutlaw_bad s more (by omega) (by omega) c fa hR hc h0 h1 w hG

end Go.Proofs.YtpchipmpgoflfaaDoor
