/- The law FloatsLess walked; no statement of the seat is proved here. -/
import Derived.Test.YtncldnghhpdolaaGreatDoorFlH
namespace Go.Proofs.YtncldnghhpdolaaGreatDoor
open Go.RowKit

theorem fread_len {s r : ByteArray} {c : Int} (h : fltR s.data.toList = (r.data.toList, c)) : r.size ≤ 2 * s.size + 31 := by
  have h1 := flt_len s.data.toList
  rw [h] at h1
  simp only [size_list] at h1
  exact h1
set_option maxRecDepth 100000 in
set_option maxHeartbeats 4000000 in
theorem lesslaw_walk (s t : ByteArray) (w : World) (hG : Gl w) :
    Calls Tryz.prog 3 #[.string s, .string t] w fun e w' => e = .returned (.bool true) ∧ Below w.heap.size w w' := by
  have HL := Lib.hid (fun w' (hb : Below w.heap.size w w') => lives_any w' (hG.later hb))
  have HG := Lib.hid hG
  have hb : Hid (Below w.heap.size w w) := Below.refl w.heap.size w
  by_cases h5 : 1000 < s.size
  · have b1 : decide ((1000 : Int) < (s.size : Int)) = true := decide_eq_true (by omega)
    clear hG h5
    go_enter Tryz.func3, Tryz.ntmps3
    go_wp2_with (go_at_call 8; (with_reducible refine (HL.out _ hb.out).mono ?_); rintro e w1 ⟨rfl, hb1⟩)
    go_ret
    exact ⟨rfl, hb1⟩
  · have b1 : decide ((1000 : Int) < (s.size : Int)) = false := decide_eq_false (by omega)
    by_cases h6 : 1000 < t.size
    · have b2 : decide ((1000 : Int) < (t.size : Int)) = true := decide_eq_true (by omega)
      clear hG h5 h6
      go_enter Tryz.func3, Tryz.ntmps3
      go_wp2_with (go_at_call 8; (with_reducible refine (HL.out _ hb.out).mono ?_); rintro e w1 ⟨rfl, hb1⟩)
      go_ret
      exact ⟨rfl, hb1⟩
    · have b2 : decide ((1000 : Int) < (t.size : Int)) = false := decide_eq_false (by omega)
      obtain ⟨r, c, hr⟩ := fread_ex s
      obtain ⟨q, d, hq⟩ := fread_ex t
      have hrs := fread_len hr
      have hqs := fread_len hq
      obtain ⟨x, hx⟩ : ∃ x, lessR s.data.toList t.data.toList = x := ⟨_, rfl⟩
      obtain ⟨y, hy⟩ : ∃ x, lessR r.data.toList q.data.toList = x := ⟨_, rfl⟩
      obtain ⟨z, hz⟩ : ∃ x, lessR q.data.toList r.data.toList = x := ⟨_, rfl⟩
      have R1 := Lib.hid (rread06_is s r c (by omega) hr)
      have R2 := Lib.hid (rread06_is t q d (by omega) hq)
      have P1 := Lib.hid (fun w hT => fless_is s t x (by omega) (by omega) ((less_eq _ _).trans hx) w hT)
      have P2 := Lib.hid (fun w hT => fless_is r q y (by omega) (by omega) ((less_eq _ _).trans hy) w hT)
      have P3 := Lib.hid (fun w hT => fless_is q r z (by omega) (by omega) ((less_eq _ _).trans hz) w hT)
      have Q1 := Lib.hid (rless06_is s t (by omega) (by omega) x hx)
      have Q2 := Lib.hid (rless06_is r q (by omega) (by omega) y hy)
      have Q3 := Lib.hid (rless06_is q r (by omega) (by omega) z hz)
      clear hG h5 h6 hr hq hx hy hz hrs hqs
      go_enter Tryz.func3, Tryz.ntmps3
      go_wp2_with (first
        | (go_at_call 9; (first | (with_reducible refine (R1.out _).mono ?_) | (with_reducible refine (R2.out _).mono ?_)); rintro e w' ⟨rfl, hb'⟩; replace hb := Lib.hid (hb.out.trans (hb'.mono hb.out.size)); clear hb')
        | (go_at_call 10; (first | (with_reducible refine (P1.out _ (HG.out.later hb.out).tab).mono ?_) | (with_reducible refine (P2.out _ (HG.out.later hb.out).tab).mono ?_) | (with_reducible refine (P3.out _ (HG.out.later hb.out).tab).mono ?_)); rintro e w' ⟨rfl, hb'⟩; replace hb := Lib.hid (hb.out.trans (hb'.mono hb.out.size)); clear hb')
        | (go_at_call 11; (first | (with_reducible refine (Q1.out _).mono ?_) | (with_reducible refine (Q2.out _).mono ?_) | (with_reducible refine (Q3.out _).mono ?_)); rintro e w' ⟨rfl, hb'⟩; replace hb := Lib.hid (hb.out.trans (hb'.mono hb.out.size)); clear hb')
        | (go_at_call 8; (with_reducible refine (HL.out _ hb.out).mono ?_); rintro e w' ⟨rfl, hb'⟩; replace hb := Lib.hid (hb.out.trans (hb'.mono hb.out.size)); clear hb'))
      go_ret
      exact ⟨by first | rfl | exact ret_bool (by simp), hb.out⟩

end Go.Proofs.YtncldnghhpdolaaGreatDoor
