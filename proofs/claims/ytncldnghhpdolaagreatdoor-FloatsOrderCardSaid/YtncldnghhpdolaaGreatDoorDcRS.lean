/- Walks over the reference of chapter 02: Normal, Parts; no statement of the seat is proved here. -/
import Derived.Test.YtncldnghhpdolaaGreatDoorDcRR
import Derived.Test.YtncldnghhpdolaaGreatDoorDcF
import Derived.Test.YtncldnghhpdolaaGreatDoorDcO
import Derived.Test.YtncldnghhpdolaaGreatDoorDcG
namespace Go.Proofs.YtncldnghhpdolaaGreatDoor
open Go.RowKit

theorem norm_read (l : List UInt8) : normL l = decide (readD l = (l, 0)) := by
  unfold normL readD
  cases okW l
  · simp
  · cases goodL l
    · simp
    · simp
theorem read_code (l : List UInt8) : ((readD l).2 = 0) ∨ ((readD l).1 = [] ∧ (readD l).2 ≠ 0) := by
  unfold readD
  split
  · split
    · exact .inl rfl
    · exact .inr ⟨rfl, by decide⟩
  · exact .inr ⟨rfl, by decide⟩
set_option maxHeartbeats 1000000 in
theorem rnormal_is (s : ByteArray) (hs : s.size ≤ 549755813888) (b : Bool) (hb : normL s.data.toList = b) (w : World) :
    Calls Tryz.prog 35 #[.string s] w fun x w' => x = .returned (.bool b) ∧ Below w.heap.size w w' := by
  obtain ⟨r, hr⟩ := str_ex (readD s.data.toList).1
  obtain ⟨c, hc⟩ : ∃ c, (readD s.data.toList).2 = c := ⟨_, rfl⟩
  have he : readD s.data.toList = (r.data.toList, c) := by rw [hr, ← hc]
  have HR := Lib.hid (fun w => rread_is s r c hs he w)
  rw [norm_read, he] at hb
  by_cases h0 : c = 0
  · by_cases h1 : r.data.toList = s.data.toList
    · obtain rfl := str_of h1
      have hbt : b = true := by rw [← hb, h0]; simp
      have b0 : (c == 0) = true := by simp [h0]
      subst hbt
      clear hb he hr hc h0 h1
      go_enter Tryz.func35, Tryz.ntmps35
      go_wp2_with (go_at_call 22; (with_reducible refine (HR.out _).mono ?_); rintro x w0 ⟨rfl, hb0⟩)
      go_ret
      exact ⟨rfl, hb0⟩
    · have hbf : b = false := by rw [← hb]; exact decide_eq_false (fun q => h1 (Prod.mk.inj q).1)
      have b0 : (c == 0) = true := by simp [h0]
      have b1 := beq_str h1
      subst hbf
      clear hb he hr hc h0 h1
      go_enter Tryz.func35, Tryz.ntmps35
      go_wp2_with (go_at_call 22; (with_reducible refine (HR.out _).mono ?_); rintro x w0 ⟨rfl, hb0⟩)
      go_ret
      exact ⟨rfl, hb0⟩
  · have hbf : b = false := by rw [← hb]; exact decide_eq_false (fun q => h0 (Prod.mk.inj q).2)
    have b0 : (c == 0) = false := by simp [h0]
    subst hbf
    clear hb he hr hc h0
    go_enter Tryz.func35, Tryz.ntmps35
    go_wp2_with (go_at_call 22; (with_reducible refine (HR.out _).mono ?_); rintro x w0 ⟨rfl, hb0⟩)
    go_ret
    exact ⟨rfl, hb0⟩

theorem zero_text : Dm.zero.text = [48] := rfl
theorem text_zero {d : Dm} (h : Norm d) (ht : d.text = [48]) : d = .zero := by
  have hz : Norm .zero := ⟨by decide, by decide, by decide, .inl rfl, .inl rfl⟩
  have h1 := text_parse h
  rw [ht, ← zero_text, text_parse hz] at h1
  exact (Option.some.inj h1).symm

set_option maxRecDepth 100000 in
set_option maxHeartbeats 2000000 in
theorem rparts_is (s ds : ByteArray) (m : Bool) (e : Int) (b : Bool) (hs : s.size ≤ 549755813888) (hp : Told s.data.toList m ds e b) (w : World) :
    Calls Tryz.prog 56 #[.string s] w fun x w' => x = .returned (.tuple #[.bool m, .string ds, .int .i64 e, .bool b]) ∧ Below w.heap.size w w' := by
  unfold Told at hp
  cases b
  · rw [if_neg (by simp)] at hp
    obtain ⟨hp, rfl, rfl, rfl⟩ := hp
    have hn : normL s.data.toList = false := by
      cases q : normL s.data.toList
      · rfl
      · rw [parseD, q] at hp; cases hp
    have HN := Lib.hid (fun w => rnormal_is s hs false hn w)
    clear hp hn
    go_enter Tryz.func56, Tryz.ntmps56
    go_wp2_with (go_at_call 35; (with_reducible refine (HN.out _).mono ?_); rintro x w0 ⟨rfl, hb0⟩)
    exact bodyPost_ret (v := .tuple #[.bool false, .string ⟨#[]⟩, .int .i64 0, .bool false]) (by simp [results, Tryz.results56, go_sem]) rfl ⟨rfl, hb0⟩
  · rw [if_pos rfl] at hp
    obtain ⟨hd, ht⟩ := parse_some hp
    have hn : normL s.data.toList = true := by rw [ht]; exact text_norm hd
    have HN := Lib.hid (fun w => rnormal_is s hs true hn w)
    by_cases h0 : s.data.toList = [48]
    · have hz := text_zero hd (ht.symm.trans h0)
      injection hz with e1 e2 e3
      obtain rfl := str_is e2
      obtain rfl := str_is h0
      subst e1 e3
      clear hp hd ht hn h0 e2
      go_enter Tryz.func56, Tryz.ntmps56
      go_wp2_with (go_at_call 35; (with_reducible refine (HN.out _).mono ?_); rintro x w0 ⟨rfl, hb0⟩)
      exact bodyPost_ret (v := .tuple #[.bool false, .string ⟨#[48]⟩, .int .i64 0, .bool true]) (by simp [results, Tryz.results56, go_sem]) rfl ⟨rfl, hb0⟩
    · have hz : (⟨m, ds.data.toList, e⟩ : Dm) ≠ .zero := fun q => h0 (by rw [ht, q]; rfl)
      have hok : okW s.data.toList = true := by rw [ht]; exact text_ok hd
      have hg : goodL s.data.toList = true := by rw [ht]; exact text_good hd
      have hx : expW (sW s.data.toList) = e := by rw [ht]; exact text_exp hd hz
      have hsp := text_parts hd hz
      rw [← ht] at hsp
      have hw : wholeL s.data.toList = ds.data.toList := congrArg Wr.whole hsp
      have hm : hdB isMin s.data.toList = m := congrArg Wr.minus hsp
      obtain ⟨q0, q1, q2, q3, q4, q5, q6, hP⟩ := Pl.ex s
      have hib : inB (expW (sW s.data.toList)) = true := by unfold goodL at hg; rw [Bool.and_eq_true] at hg; exact hg.1
      have HW := Lib.hid (fun w => power_of hP hs hok true hib w)
      rw [if_pos rfl, hx] at HW
      have HS : Hid (∀ w, Calls Tryz.prog 49 #[.string s] w fun e w' => e = .returned (.tuple #[.agg #[.int .i64 (q0 : Int), .int .i64 (q1 : Int), .int .i64 (q2 : Int), .int .i64 (q3 : Int), .int .i64 (q5 : Int), .int .i64 (q6 : Int)], .bool true]) ∧ Below w.heap.size w w') := fun w =>
        (is_is s q0 q1 q2 q3 q4 q5 q6 hs hP w).mono fun e w' ⟨x0, x1, x2, x3, x4, x5, h1, h2, h3⟩ => by
          obtain ⟨rfl, rfl, rfl, rfl, rfl, rfl⟩ := h2 hok
          exact ⟨by rw [h1, hok], h3⟩
      have z1 : q0 ≤ q1 := by rw [hP.e1]; omega
      have z4 : q1 ≤ s.size := by have := hP.e2; have := hP.e3; have := hP.e4; have := hP.e5; have := hP.e6; have := hP.le; omega
      have hne := hd.ne
      have hs0 : 0 < s.size := by
        have e1 := hP.e1
        rw [hw] at e1
        have := List.length_pos_iff.2 hne
        simp only at this; omega
      have g0 : (((s[0]'hs0).toNat : Int) == 45) = m := by
        have e45 : (((s[0]'hs0).toNat : Int) == 45) = (s[0]'hs0 == 45) := u8_beq _ 45
        rw [e45, ← hm]
        cases q : hdB isMin s.data.toList
        · rcases hd_not (q := 0) (s := s) rfl q with h | ⟨h, hh⟩
          · omega
          · exact hh
        · obtain ⟨h, hh⟩ := hd_yes (q := 0) (s := s) rfl q
          exact hh
      have HD : Hid (s.extract q0 q1 = ds) := str_of (by rw [hP.whole, hw])
      have g1 : (s.toList == [48]) = false := by rw [ByteArray.toList_eq]; simpa using h0
      have g2 : ¬ s.toList = [48] := by rw [ByteArray.toList_eq]; exact h0
      clear hp hd ht hn h0 hz hok hg hx hsp hw hm hP hib hne
      go_enter Tryz.func56, Tryz.ntmps56
      go_upto_region 7 with (first
        | (go_at_call 35; (with_reducible refine (HN.out _).mono ?_); rintro x w0 ⟨rfl, hb0⟩)
        | (go_at_call 49; (with_reducible refine (HS.out _).mono ?_); rintro x w1 ⟨rfl, hb1⟩; have hz1 := hb1.size)
        | (go_at_call 50; (with_reducible refine (HW.out _).mono ?_); rintro x w2 ⟨rfl, hb2⟩; obtain ⟨k0, k1, k2, k3⟩ := keep6 hb2; have HB : Hid (Below w.heap.size w w2) := ((hb0.trans (hb1.mono hb0.size)).alloc (by have := hb0.size; omega) _).trans (hb2.mono (by have := hb0.size; simp; omega))))
      go_quiet (fail)
      go_wp2
      rw [HD.out]
      exact bodyPost_ret (v := .tuple #[.bool m, .string ds, .int .i64 e, .bool true]) (by simp [results, Tryz.results56, go_sem]) rfl ⟨rfl, below_drewN HB.out _⟩

end Go.Proofs.YtncldnghhpdolaaGreatDoor
