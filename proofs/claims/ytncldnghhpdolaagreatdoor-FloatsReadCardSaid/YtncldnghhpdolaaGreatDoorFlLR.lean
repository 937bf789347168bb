/- The law FloatsRead walked; no statement of the seat is proved here. -/
import Derived.Test.YtncldnghhpdolaaGreatDoorFlG
namespace Go.Proofs.YtncldnghhpdolaaGreatDoor
open Go.RowKit

set_option maxRecDepth 100000 in
set_option maxHeartbeats 4000000 in
theorem readlaw_walk (s : ByteArray) (w : World) (hG : Gl w) :
    Calls Tryz.prog 5 #[.string s] w fun e w' => e = .returned (.bool true) ∧ Below w.heap.size w w' := by
  have HL := Lib.hid (fun w' (hb : Below w.heap.size w w') => lives_any w' (hG.later hb))
  have HG := Lib.hid hG
  have hb := Below.refl w.heap.size w
  by_cases h5 : 1000 < s.size
  · have b1 : decide ((1000 : Int) < (s.size : Int)) = true := decide_eq_true (by omega)
    clear hG h5
    go_enter Tryz.func5, Tryz.ntmps5
    go_wp2_with (go_at_call 8; (with_reducible refine (HL.out _ hb).mono ?_); rintro e w1 ⟨rfl, hb1⟩)
    go_ret
    exact ⟨rfl, hb1⟩
  · have b1 : decide ((1000 : Int) < (s.size : Int)) = false := decide_eq_false (by omega)
    obtain ⟨r, c, hr⟩ := fread_ex s
    obtain ⟨x, hx⟩ : ∃ x, isR s.data.toList = x := ⟨_, rfl⟩
    obtain ⟨y, hy⟩ : ∃ x, isR r.data.toList = x := ⟨_, rfl⟩
    have hrs : r.size ≤ 549755813888 := by
      have h1 := flt_len s.data.toList
      rw [hr] at h1
      simp only [size_list] at h1
      omega
    have HI := Lib.hid (fun w hG => fread_is s r c (by omega) ((flt_eq _).trans hr) w hG)
    have HR := Lib.hid (rread06_is s r c (by omega) hr)
    have P1 := Lib.hid (fun w hT => fis_is s x (by omega) ((is_eq _).trans hx) w hT)
    have P2 := Lib.hid (fun w hT => fis_is r y hrs ((is_eq _).trans hy) w hT)
    have Q1 := Lib.hid (ris06_is s x (by omega) hx)
    have Q2 := Lib.hid (ris06_is r y hrs hy)
    have he : (r.toList == r.toList) = true := beq_self_eq_true _
    clear hG h5 hr hx hy
    go_enter Tryz.func5, Tryz.ntmps5
    go_wp2_with (first
      | (go_at_call 12; (with_reducible refine (HI.out _ (HG.out.later hb)).mono ?_); rintro e w' ⟨rfl, hb'⟩; replace hb := hb.trans (hb'.mono hb.size))
      | (go_at_call 9; (with_reducible refine (HR.out _).mono ?_); rintro e w' ⟨rfl, hb'⟩; replace hb := hb.trans (hb'.mono hb.size))
      | (go_at_call 13; (first | (with_reducible refine (P1.out _ (HG.out.later hb).tab).mono ?_) | (with_reducible refine (P2.out _ (HG.out.later hb).tab).mono ?_)); rintro e w' ⟨rfl, hb'⟩; replace hb := hb.trans (hb'.mono hb.size))
      | (go_at_call 14; (first | (with_reducible refine (Q1.out _).mono ?_) | (with_reducible refine (Q2.out _).mono ?_)); rintro e w' ⟨rfl, hb'⟩; replace hb := hb.trans (hb'.mono hb.size))
      | (go_at_call 8; (with_reducible refine (HL.out _ hb).mono ?_); rintro e w' ⟨rfl, hb'⟩; replace hb := hb.trans (hb'.mono hb.size)))
    go_ret
    exact ⟨by first | rfl | exact ret_bool (by simp), hb⟩

end Go.Proofs.YtncldnghhpdolaaGreatDoor
