/- floats.Read; no statement of the seat is proved here. -/
import Derived.Test.YtncldnghhpdolaaGreatDoorFlA
namespace Go.Proofs.YtncldnghhpdolaaGreatDoor
open Go.RowKit

theorem cut_le (p : UInt8 → Bool) (l : List UInt8) : (cutL p l).1.length ≤ l.length ∧ (cutL p l).2.1.length ≤ l.length := by
  unfold cutL
  split
  · exact ⟨tw_le _ _, by rw [List.length_tail]; have := dw_le (fun c => !p c) l; show _ - 1 ≤ _; omega⟩
  · exact ⟨Nat.le_refl _, by simp⟩
theorem sg_len (l : List UInt8) : sgN l + (l.dropWhile isSig).length = l.length := by
  unfold sgN
  rw [← List.length_append, List.takeWhile_append_dropWhile]
theorem tp_is (s t : ByteArray) (ht : t.data.toList = trimP s.data.toList) (w : World) :
    Calls Tryz.prog 34 #[.string s, .string ⟨#[43]⟩] w fun e w' => e = .returned (.string t) ∧ w' = w := by
  refine (Tryz.strings_TrimPrefix s ⟨#[43]⟩ w).mono ?_
  rintro e w' ⟨rfl, rfl⟩
  refine ⟨?_, rfl⟩
  have : (⟨(Lib.trimPrefix s.data.toList [43]).toArray⟩ : ByteArray) = t := by
    apply str_eq
    rw [ht]
    show Lib.trimPrefix s.data.toList [43] = trimP s.data.toList
    unfold Lib.trimPrefix trimP
    cases s.data.toList with
    | nil => rfl
    | cons c r =>
      by_cases h : c = 43
      · subst h; simp [Lib.hasPrefix]
      · simp [Lib.hasPrefix, h, Ne.symm h]
  rw [← this]

set_option maxRecDepth 100000 in
set_option maxHeartbeats 4000000 in
theorem fread_is (s r : ByteArray) (c : Int) (hs : s.size ≤ 40000) (hr : fltP s.data.toList = (r.data.toList, c)) (w : World) (hG : Gl w) :
    Calls Tryz.prog 12 #[.string s] w fun e w' => e = .returned (.tuple #[.string r, .int .i64 c]) ∧ Below w.heap.size w w' := by
  obtain ⟨T, hT⟩ := str_ex (s.data.toList.dropWhile isSig)
  obtain ⟨X, hX⟩ := str_ex (specL s.data.toList)
  have HT := Lib.hid (tl_is s T hT)
  have HX := Lib.hid (special_is s X (by omega) hX)
  have HG := Lib.hid hG
  have hl : s.data.toList.length = s.size := rfl
  have hTl : sgN s.data.toList + T.size = s.size := by have := sg_len s.data.toList; rw [← hT] at this; exact this
  have hb := Below.refl w.heap.size w
  obtain ⟨q, hq⟩ : ∃ q : Bool, decide ((s.size : Int) - (T.size : Int) < 2) = q := ⟨_, rfl⟩
  have hq2 : q = decide (sgN s.data.toList < 2) := by rw [← hq]; exact decide_eq_decide.2 (by omega)
  have z1 : IntKind.i64.wrap ((s.size : Int) - (T.size : Int)) = (s.size : Int) - (T.size : Int) := IntWalk.i64_in _ (by omega)
  unfold fltP at hr
  rw [← hX] at hr
  by_cases h1 : X.data.toList ≠ [] ∧ sgN s.data.toList < 2
  · rw [if_pos h1] at hr
    injection hr with hr hc
    obtain rfl : X = r := str_eq hr
    subst hc
    have e0 := full_of h1.1
    obtain rfl : q = true := by rw [hq2]; exact decide_eq_true h1.2
    clear hr h1 hq2 hTl hT hX hG hl
    go_enter Tryz.func12, Tryz.ntmps12
    go_wp2_with (first
      | (go_at_call 27; refine (HT.out _).mono ?_; rintro e w' ⟨rfl, hb'⟩; replace hb := hb.trans (hb'.mono hb.size))
      | (go_at_call 28; refine (HX.out _).mono ?_; rintro e w' ⟨rfl, hb'⟩; replace hb := hb.trans (hb'.mono hb.size)))
    go_ret2
    exact ⟨rfl, hb⟩
  · rw [if_neg h1] at hr
    obtain ⟨A1, hA1⟩ := str_ex (cutL isExp s.data.toList).1
    obtain ⟨A2, hA2⟩ := str_ex (cutL isExp s.data.toList).2.1
    obtain ⟨ra, hra⟩ : ∃ ra, (cutL isExp s.data.toList).2.2 = ra := ⟨_, rfl⟩
    have hcA : cutL isExp s.data.toList = (A1.data.toList, A2.data.toList, ra) := by rw [hA1, hA2, ← hra]
    have lA1 : A1.size ≤ s.size := by have := (cut_le isExp s.data.toList).1; rw [← hA1] at this; exact this
    have lA2 : A2.size ≤ s.size := by have := (cut_le isExp s.data.toList).2; rw [← hA2] at this; exact this
    obtain ⟨B1, hB1⟩ := str_ex (cutL isDot A1.data.toList).1
    obtain ⟨B2, hB2⟩ := str_ex (cutL isDot A1.data.toList).2.1
    obtain ⟨pt, hpt⟩ : ∃ pt, (cutL isDot A1.data.toList).2.2 = pt := ⟨_, rfl⟩
    have hcB : cutL isDot A1.data.toList = (B1.data.toList, B2.data.toList, pt) := by rw [hB1, hB2, ← hpt]
    have lB1 : B1.size ≤ A1.size := by have := (cut_le isDot A1.data.toList).1; rw [← hB1] at this; exact this
    have lB2 : B2.size ≤ A1.size := by have := (cut_le isDot A1.data.toList).2; rw [← hB2] at this; exact this
    have C1 := Lib.hid (cut_is s ⟨#[101, 69]⟩ A1 A2 ra isExp (by omega) exp_set hcA (ixa_is s ⟨#[101, 69]⟩ (by omega) (by decide) (by decide) (ascii_of_all (by decide))))
    have C2 := Lib.hid (cut_is A1 ⟨#[46]⟩ B1 B2 pt isDot (by omega) dot_set hcB (fun w => (Tryz.strings_IndexAny_one A1 ⟨#[46]⟩ w rfl (ascii_of_all (by decide))).mono fun e w' h => ⟨h.1, h.2 ▸ Below.refl _ _⟩))
    obtain ⟨b1, hb1⟩ : ∃ b, decide ((readI B1.data.toList).2 ≠ 3) = b := ⟨_, rfl⟩
    obtain ⟨b2, hb2⟩ : ∃ b, digF B2.data.toList = b := ⟨_, rfl⟩
    obtain ⟨b3, hb3⟩ : ∃ b, powF A2.data.toList = b := ⟨_, rfl⟩
    have HW := Lib.hid (fun w hG => whole_is B1 b1 (by omega) hb1 w hG)
    have HD := Lib.hid (digits_is B2 b2 (by omega) hb2)
    have HP := Lib.hid (fpower_is A2 b3 (by omega) hb3)
    have hacc : accP s.data.toList = all4 (pt || ra) b1 (!pt || b2) (!ra || b3) := by
      unfold accP all4
      rw [hcA]
      simp only
      rw [hcB]
      simp only
      rw [hb1, hb2, hb3]
    obtain ⟨v, hv⟩ : ∃ v, all4 (pt || ra) b1 (!pt || b2) (!ra || b3) = v := ⟨_, rfl⟩
    rw [hacc, hv] at hr
    have hv := Lib.hid hv
    have hx : (X.toList.isEmpty = true ∧ X.toList = []) ∨ ((X.toList.isEmpty = false ∧ ¬ X.toList = []) ∧ q = false) := by
      by_cases h : X.data.toList = []
      · left; rw [ByteArray.toList_eq, h]; exact ⟨rfl, rfl⟩
      · right; exact ⟨full_of h, by rw [hq2]; exact decide_eq_false fun e => h1 ⟨h, e⟩⟩
    clear h1 hq2 hTl hT hX hG hl hacc hA1 hA2 hra hcA hB1 hB2 hpt hcB hb1 hb2 hb3
    cases v
    · rw [if_neg (by decide)] at hr
      injection hr with hr hc
      obtain rfl : ⟨#[]⟩ = r := str_eq hr
      subst hc
      clear hr
      rcases hx with ⟨e0, e1⟩ | ⟨⟨e0, e1⟩, rfl⟩ <;> cases pt <;> cases ra
      all_goals
        go_enter Tryz.func12, Tryz.ntmps12
        go_wp2_with (first
          | (go_at_call 27; refine (HT.out _).mono ?_; rintro e w' ⟨rfl, hb'⟩; replace hb := hb.trans (hb'.mono hb.size))
          | (go_at_call 28; refine (HX.out _).mono ?_; rintro e w' ⟨rfl, hb'⟩; replace hb := hb.trans (hb'.mono hb.size))
          | (go_at_call 29; (first | (with_reducible refine (C1.out _).mono ?_) | (with_reducible refine (C2.out _).mono ?_)); rintro e w' ⟨rfl, hb'⟩; replace hb := hb.trans (hb'.mono hb.size))
          | (go_at_call 30; refine (HW.out _ (HG.out.later hb)).mono ?_; rintro e w' ⟨rfl, hb'⟩; replace hb := hb.trans (hb'.mono hb.size))
          | (go_at_call 31; refine (HD.out _).mono ?_; rintro e w' ⟨rfl, hb'⟩; replace hb := hb.trans (hb'.mono hb.size))
          | (go_at_call 32; refine (HP.out _).mono ?_; rintro e w' ⟨rfl, hb'⟩; replace hb := hb.trans (hb'.mono hb.size))
          | (go_at_call 24; refine (right4 _ _ _ _ _ hv.out _ _ _ (blk_cell (heap_new1 _ _) 0) (blk_cell (heap_new1 _ _) 1) (blk_cell (heap_new1 _ _) 2) (blk_cell (heap_new1 _ _) 3)).mono ?_; rintro e w' ⟨rfl, hw'⟩; rw [hw']))
        go_ret2
        exact ⟨rfl, hb.alloc hb.size _⟩
    · rw [if_pos rfl] at hr
      obtain ⟨L, hL⟩ := str_ex (lowless s.data.toList)
      obtain ⟨E, hE⟩ := str_ex (trimP L.data.toList)
      have lL : L.size ≤ s.size := by have := lowQ_le s.data.toList; rw [← hL] at this; exact this
      have lE : E.size ≤ L.size := by
        have h2 : (trimP L.data.toList).length ≤ L.data.toList.length := by
          unfold trimP
          split
          · rw [List.length_tail]; omega
          · exact Nat.le_refl _
        rw [← hE] at h2; exact h2
      have HL := Lib.hid (fun w hG => rep_is s L (by omega) hL w hG)
      have HE := Lib.hid (tp_is L E hE)
      rw [← hL, ← hE] at hr
      have HR := Lib.hid (fun w hT => iread_is E r c (by omega) hr w hT)
      clear hr hL hE
      rcases hx with ⟨e0, e1⟩ | ⟨⟨e0, e1⟩, rfl⟩ <;> cases pt <;> cases ra
      all_goals
        go_enter Tryz.func12, Tryz.ntmps12
        go_wp2_with (first
          | (go_at_call 27; refine (HT.out _).mono ?_; rintro e w' ⟨rfl, hb'⟩; replace hb := hb.trans (hb'.mono hb.size))
          | (go_at_call 28; refine (HX.out _).mono ?_; rintro e w' ⟨rfl, hb'⟩; replace hb := hb.trans (hb'.mono hb.size))
          | (go_at_call 29; (first | (with_reducible refine (C1.out _).mono ?_) | (with_reducible refine (C2.out _).mono ?_)); rintro e w' ⟨rfl, hb'⟩; replace hb := hb.trans (hb'.mono hb.size))
          | (go_at_call 30; refine (HW.out _ (HG.out.later hb)).mono ?_; rintro e w' ⟨rfl, hb'⟩; replace hb := hb.trans (hb'.mono hb.size))
          | (go_at_call 31; refine (HD.out _).mono ?_; rintro e w' ⟨rfl, hb'⟩; replace hb := hb.trans (hb'.mono hb.size))
          | (go_at_call 32; refine (HP.out _).mono ?_; rintro e w' ⟨rfl, hb'⟩; replace hb := hb.trans (hb'.mono hb.size))
          | (go_at_call 24; refine (right4 _ _ _ _ _ hv.out _ _ _ (blk_cell (heap_new1 _ _) 0) (blk_cell (heap_new1 _ _) 1) (blk_cell (heap_new1 _ _) 2) (blk_cell (heap_new1 _ _) 3)).mono ?_; rintro e w' ⟨rfl, hw'⟩; rw [hw']; have hb0 := fun o => hb.alloc hb.size o; clear hb)
          | (go_at_call 33; refine (HL.out _ (HG.out.later (hb0 _))).mono ?_; rintro e w' ⟨rfl, hb'⟩; have hb := (hb0 _).trans (hb'.mono (hb0 _).size); clear hb0)
          | (go_at_call 34; refine (HE.out _).mono ?_; rintro e w' ⟨rfl, hw'⟩; rw [hw'])
          | (go_at_call 15; refine (HR.out _ ((HG.out.later hb).tab)).mono ?_; rintro e w' ⟨rfl, hb'⟩; replace hb := hb.trans (hb'.mono hb.size)))
        go_ret2
        exact ⟨rfl, hb⟩

end Go.Proofs.YtncldnghhpdolaaGreatDoor
