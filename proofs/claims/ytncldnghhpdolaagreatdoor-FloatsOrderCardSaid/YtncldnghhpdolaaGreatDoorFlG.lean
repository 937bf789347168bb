/- inarchref06.Is; is, fails and lives of the laws of chapter 06; no statement of the seat is proved here. -/
import Derived.Test.YtncldnghhpdolaaGreatDoorFlB
import Derived.Test.YtncldnghhpdolaaGreatDoorFlC
import Derived.Test.YtncldnghhpdolaaGreatDoorFlF
namespace Go.Proofs.YtncldnghhpdolaaGreatDoor
open Go.RowKit

/-- A normal form? -/
def isR (l : List UInt8) : Bool := decide (l = infL) || (decide (l = 45 :: infL) || (decide (l = nanL) || normL l))
theorem parse_norm (l : List UInt8) : (parseD l).isSome = normL l := by unfold parseD; cases normL l <;> rfl
theorem is_eq (l : List UInt8) : decide (0 ≤ rankL l) = isR l := by
  unfold rankL isR
  rw [parse_norm]
  by_cases h1 : l = nanL
  · rw [if_pos h1, decide_eq_true h1]; simp
  · rw [if_neg h1, decide_eq_false h1]
    by_cases h2 : l = infL
    · rw [if_pos h2, decide_eq_true h2]; simp
    · rw [if_neg h2, decide_eq_false h2]
      cases normL l
      · by_cases h3 : l = 45 :: infL
        · rw [if_neg (by decide), if_pos h3, decide_eq_true h3]; rfl
        · rw [if_neg (by decide), if_neg h3, decide_eq_false h3]; rfl
      · rw [if_pos rfl]; simp
set_option maxHeartbeats 2000000 in
theorem ris06_is (s : ByteArray) (b : Bool) (hs : s.size ≤ 549755813888) (hb : isR s.data.toList = b) (w : World) :
    Calls Tryz.prog 14 #[.string s] w fun e w' => e = .returned (.bool b) ∧ Below w.heap.size w w' := by
  unfold isR at hb
  by_cases h1 : s.data.toList = infL
  · have c1 : (s.toList == [105, 110, 102]) = true := beq_lit h1
    rw [decide_eq_true h1] at hb
    subst hb
    clear h1
    go_enter Tryz.func14, Tryz.ntmps14
    go_wp2
    go_ret
    exact ⟨rfl, Below.refl _ _⟩
  · have c1 : (s.toList == [105, 110, 102]) = false := beq_litF h1
    rw [decide_eq_false h1, Bool.false_or] at hb
    clear h1
    by_cases h2 : s.data.toList = 45 :: infL
    · have c2 : (s.toList == [45, 105, 110, 102]) = true := beq_lit h2
      rw [decide_eq_true h2] at hb
      subst hb
      clear h2
      go_enter Tryz.func14, Tryz.ntmps14
      go_wp2
      go_ret
      exact ⟨rfl, Below.refl _ _⟩
    · have c2 : (s.toList == [45, 105, 110, 102]) = false := beq_litF h2
      rw [decide_eq_false h2, Bool.false_or] at hb
      clear h2
      by_cases h3 : s.data.toList = nanL
      · have c3 : (s.toList == [110, 97, 110]) = true := beq_lit h3
        rw [decide_eq_true h3] at hb
        subst hb
        clear h3
        go_enter Tryz.func14, Tryz.ntmps14
        go_wp2
        go_ret
        exact ⟨rfl, Below.refl _ _⟩
      · have c3 : (s.toList == [110, 97, 110]) = false := beq_litF h3
        rw [decide_eq_false h3, Bool.false_or] at hb
        have HN := Lib.hid (rnormal_is s hs b hb)
        clear h3 hb
        go_enter Tryz.func14, Tryz.ntmps14
        go_wp2_with (go_at_call 35; refine (HN.out _).mono ?_; rintro e w' ⟨rfl, hb⟩)
        go_ret
        exact ⟨rfl, hb⟩

theorem fread_ex (s : ByteArray) : ∃ (r : ByteArray) (c : Int), fltR s.data.toList = (r.data.toList, c) := by
  obtain ⟨r, hr⟩ := str_ex (fltR s.data.toList).1
  exact ⟨r, (fltR s.data.toList).2, by rw [hr]⟩
theorem is06_is (s want : ByteArray) (hs : s.size ≤ 40000) (b : Bool) (hb : decide (fltR s.data.toList = (want.data.toList, 0)) = b) (w : World) (hG : Gl w) :
    Calls Tryz.prog 20 #[.string s, .string want] w fun e w' => e = .returned (.bool b) ∧ Below w.heap.size w w' := by
  obtain ⟨r, c, hr⟩ := fread_ex s
  have HC := Lib.hid (fread_is s r c hs ((flt_eq _).trans hr) w hG)
  rw [hr] at hb
  clear hG
  by_cases h0 : r.data.toList = want.data.toList
  · have he : (r.toList == want.toList) = true := beq_strT h0
    have hc : (c == 0) = b := by
      rw [← hb, Bool.eq_iff_iff, beq_iff_eq, decide_eq_true_iff]
      exact ⟨fun e => by rw [e, h0], fun e => congrArg Prod.snd e⟩
    clear hb hr h0
    go_enter Tryz.func20, Tryz.ntmps20
    go_wp2_with (go_at_call 12; refine HC.out.mono ?_; rintro e w1 ⟨rfl, hb1⟩)
    go_ret
    exact ⟨by first | rfl | exact ret_bool hc, hb1⟩
  · have he : (r.toList == want.toList) = false := beq_str h0
    have hf : b = false := by rw [← hb]; exact decide_eq_false fun e => h0 (congrArg Prod.fst e)
    subst hf
    clear hb hr h0
    go_enter Tryz.func20, Tryz.ntmps20
    go_wp2_with (go_at_call 12; refine HC.out.mono ?_; rintro e w1 ⟨rfl, hb1⟩)
    go_ret
    exact ⟨rfl, hb1⟩
theorem fails06_is (s : ByteArray) (k : Int) (hs : s.size ≤ 40000) (b : Bool) (hb : decide (fltR s.data.toList = ([], k)) = b) (w : World) (hG : Gl w) :
    Calls Tryz.prog 19 #[.string s, .int .i64 k] w fun e w' => e = .returned (.bool b) ∧ Below w.heap.size w w' := by
  obtain ⟨r, c, hr⟩ := fread_ex s
  have HC := Lib.hid (fread_is s r c hs ((flt_eq _).trans hr) w hG)
  rw [hr] at hb
  clear hG
  by_cases h0 : r.data.toList = []
  · have he : r.toList.isEmpty = true := by rw [ByteArray.toList_eq, h0]; rfl
    have hc : (c == k) = b := by
      rw [← hb, Bool.eq_iff_iff, beq_iff_eq, decide_eq_true_iff]
      exact ⟨fun e => by rw [e, h0], fun e => congrArg Prod.snd e⟩
    clear hb hr h0
    go_enter Tryz.func19, Tryz.ntmps19
    go_wp2_with (go_at_call 12; refine HC.out.mono ?_; rintro e w1 ⟨rfl, hb1⟩)
    go_ret
    exact ⟨by first | rfl | exact ret_bool hc, hb1⟩
  · have he : r.toList.isEmpty = false := (full_of h0).1
    have hf : b = false := by rw [← hb]; exact decide_eq_false fun e => h0 (congrArg Prod.fst e)
    subst hf
    clear hb hr h0
    go_enter Tryz.func19, Tryz.ntmps19
    go_wp2_with (go_at_call 12; refine HC.out.mono ?_; rintro e w1 ⟨rfl, hb1⟩)
    go_ret
    exact ⟨rfl, hb1⟩

theorem readD_len (l : List UInt8) : (readD l).1.length ≤ 2 * l.length + 31 := by
  unfold readD
  split
  · split
    · rename_i hg
      have h1 := text_len (norm_dW hg)
      have h2 : (dW (sW l)).digits.length ≤ 2 * l.length + 1 := by
        unfold dW normalD
        split
        · simp [Dm.zero]
        · have h3 := rstrip_len (lstrip ((sW l).whole ++ (sW l).part))
          have h4 := lstrip_len ((sW l).whole ++ (sW l).part)
          have h5 : ((sW l).whole ++ (sW l).part).length = (wholeL l).length + (partL l).length := List.length_append
          have h6 := whole_le l
          have h7 := part_le l
          simp only; omega
      simp only; omega
    · simp
  · simp
theorem flt_len (l : List UInt8) : (fltR l).1.length ≤ 2 * l.length + 31 := by
  rw [← flt_eq]
  unfold fltP
  split
  · unfold specL
    split
    · split <;> simp [infL]
    · split <;> simp [nanL]
  · split
    · have h1 := readD_len (trimP (lowless l))
      have h2 : (trimP (lowless l)).length ≤ (lowless l).length := by
        unfold trimP
        split
        · rw [List.length_tail]; omega
        · exact Nat.le_refl _
      have h3 := lowQ_le l
      omega
    · simp
theorem readD_eq {l t : List UInt8} {d : Dm} (h1 : okW l = true) (h2 : goodL l = true) (h3 : dW (sW l) = d) (h4 : d.text = t) : readD l = (t, 0) := by
  rw [readD, h1, h2, h3, h4]; rfl
theorem dec_lit (l : List UInt8) (h1 : l ≠ []) (h2 : ∀ c ∈ l, dgB c = true) (h3 : l.head? ≠ some 48) {n : Nat} (hn : natV 0 l = n) : Lib.decDigits n = l := by rw [← hn]; exact dec_natV _ l rfl h1 h2 h3
theorem itoa_lit (n : Nat) : Lib.itoa (n : Int) = Lib.decDigits n := by rw [itoa_pos (by omega)]; rfl
theorem itoa_litN (n : Nat) (h : 0 < n) : Lib.itoa (-(n : Int)) = 45 :: Lib.decDigits n := by rw [itoa_neg (by omega)]; congr 2; omega
theorem dec2 : Lib.decDigits 2 = [50] := dec_lit _ (by decide) (by decide) (by decide) (by decide)
theorem dec22 : Lib.decDigits 22 = [50, 50] := dec_lit _ (by decide) (by decide) (by decide) (by decide)
theorem dec37 : Lib.decDigits 37 = [51, 55] := dec_lit _ (by decide) (by decide) (by decide) (by decide)
theorem fx1 : fltR [45, 51, 46, 49, 95, 52] = ([45, 51, 49, 52, 101, 45, 50], 0) := by
  have : fltR [45, 51, 46, 49, 95, 52] = readD [45, 51, 46, 49, 52] := by kernel_rfl
  rw [this]
  refine readD_eq (d := ⟨true, [51, 49, 52], -2⟩) (by decide +kernel) (by decide +kernel) (by decide +kernel) ?_
  show [45] ++ ([51, 49, 52] ++ 101 :: Lib.itoa (-((2 : Nat) : Int))) = _
  rw [itoa_litN 2 (by decide), dec2]; rfl
theorem fx2 : fltR [53, 101, 43, 50, 50] = ([53, 101, 50, 50], 0) := by
  have : fltR [53, 101, 43, 50, 50] = readD [53, 101, 43, 50, 50] := by kernel_rfl
  rw [this]
  refine readD_eq (d := ⟨false, [53], 22⟩) (by decide +kernel) (by decide +kernel) (by decide +kernel) ?_
  show [53] ++ 101 :: Lib.itoa ((22 : Nat) : Int) = _
  rw [itoa_lit, dec22]; rfl
theorem fx3 : fltR [54, 46, 54, 50, 54, 101, 45, 51, 52] = ([54, 54, 50, 54, 101, 45, 51, 55], 0) := by
  have : fltR [54, 46, 54, 50, 54, 101, 45, 51, 52] = readD [54, 46, 54, 50, 54, 101, 45, 51, 52] := by kernel_rfl
  rw [this]
  refine readD_eq (d := ⟨false, [54, 54, 50, 54], -37⟩) (by decide +kernel) (by decide +kernel) (by decide +kernel) ?_
  show [54, 54, 50, 54] ++ 101 :: Lib.itoa (-((37 : Nat) : Int)) = _
  rw [itoa_litN 37 (by decide), dec37]; rfl
theorem fx4 : fltR [45, 110, 97, 110] = ([110, 97, 110], 0) := by kernel_rfl
theorem fx5 : fltR [49] = ([], 3) := by kernel_rfl
theorem fx6 : fltR [49, 46] = ([], 3) := by kernel_rfl
theorem fx7 : fltR [46, 53] = ([], 3) := by kernel_rfl
theorem fx8 : fltR [49, 46, 95, 53] = ([], 3) := by kernel_rfl
theorem fx9 : fltR [48, 51, 46, 49, 52] = ([], 3) := by kernel_rfl
theorem fx10 : fltR [73, 110, 102] = ([], 3) := by kernel_rfl
theorem fx11 : fltR [49, 101, 49, 48, 48, 48, 48, 48, 48, 48, 48, 49] = ([], 7) := by
  have : fltR [49, 101, 49, 48, 48, 48, 48, 48, 48, 48, 48, 49] = readD [49, 101, 49, 48, 48, 48, 48, 48, 48, 48, 48, 49] := by kernel_rfl
  rw [this, readD, show okW [49, 101, 49, 48, 48, 48, 48, 48, 48, 48, 48, 49] = true by decide +kernel, show goodL [49, 101, 49, 48, 48, 48, 48, 48, 48, 48, 48, 49] = false by decide +kernel]; rfl
theorem fx12 : lessP infL nanL = true := by
  have h1 : rankL infL = 2 := by unfold rankL; rw [if_neg (by decide), if_pos rfl]
  have h2 : rankL nanL = 3 := by unfold rankL; rw [if_pos rfl]
  unfold lessP
  rw [h1, h2]; rfl
theorem is_yes6 (s want : ByteArray) (hs : s.size ≤ 40000) (h : fltR s.data.toList = (want.data.toList, 0)) (w : World) (hG : Gl w) :
    Calls Tryz.prog 20 #[.string s, .string want] w fun e w' => e = .returned (.bool true) ∧ Below w.heap.size w w' := is06_is s want hs true (decide_eq_true h) w hG
theorem fails_yes6 (s : ByteArray) (k : Int) (hs : s.size ≤ 40000) (h : fltR s.data.toList = ([], k)) (w : World) (hG : Gl w) :
    Calls Tryz.prog 19 #[.string s, .int .i64 k] w fun e w' => e = .returned (.bool true) ∧ Below w.heap.size w w' := fails06_is s k hs true (decide_eq_true h) w hG
theorem less_ex (w : World) (hG : Gl w) : Calls Tryz.prog 10 #[.string ⟨#[105, 110, 102]⟩, .string ⟨#[110, 97, 110]⟩] w fun e w' => e = .returned (.bool true) ∧ Below w.heap.size w w' :=
  fless_is ⟨#[105, 110, 102]⟩ ⟨#[110, 97, 110]⟩ true (by decide) (by decide) fx12 w hG.tab

set_option maxRecDepth 100000 in
set_option maxHeartbeats 4000000 in
theorem lives_any (w : World) (hG : Gl w) : Calls Tryz.prog 8 #[] w fun e w' => e = .returned (.bool true) ∧ Below w.heap.size w w' := by
  have HG := Lib.hid hG
  have HB : Hid (Below w.heap.size w w) := Below.refl _ _
  clear hG
  go_enter Tryz.func8, Tryz.ntmps8
  go_wp2_with (first
    | (go_at_call 20; (first
        | (with_reducible refine (is_yes6 ⟨#[45, 51, 46, 49, 95, 52]⟩ ⟨#[45, 51, 49, 52, 101, 45, 50]⟩ (by decide) fx1 _ (HG.out.later HB.out)).mono ?_)
        | (with_reducible refine (is_yes6 ⟨#[53, 101, 43, 50, 50]⟩ ⟨#[53, 101, 50, 50]⟩ (by decide) fx2 _ (HG.out.later HB.out)).mono ?_)
        | (with_reducible refine (is_yes6 ⟨#[54, 46, 54, 50, 54, 101, 45, 51, 52]⟩ ⟨#[54, 54, 50, 54, 101, 45, 51, 55]⟩ (by decide) fx3 _ (HG.out.later HB.out)).mono ?_)
        | (with_reducible refine (is_yes6 ⟨#[45, 110, 97, 110]⟩ ⟨#[110, 97, 110]⟩ (by decide) fx4 _ (HG.out.later HB.out)).mono ?_)); rintro x w' ⟨rfl, hb'⟩; replace HB := Lib.hid (HB.out.trans (hb'.mono HB.out.size)); clear hb')
    | (go_at_call 19; (first
        | (with_reducible refine (fails_yes6 ⟨#[49]⟩ 3 (by decide) fx5 _ (HG.out.later HB.out)).mono ?_)
        | (with_reducible refine (fails_yes6 ⟨#[49, 46]⟩ 3 (by decide) fx6 _ (HG.out.later HB.out)).mono ?_)
        | (with_reducible refine (fails_yes6 ⟨#[46, 53]⟩ 3 (by decide) fx7 _ (HG.out.later HB.out)).mono ?_)
        | (with_reducible refine (fails_yes6 ⟨#[49, 46, 95, 53]⟩ 3 (by decide) fx8 _ (HG.out.later HB.out)).mono ?_)
        | (with_reducible refine (fails_yes6 ⟨#[48, 51, 46, 49, 52]⟩ 3 (by decide) fx9 _ (HG.out.later HB.out)).mono ?_)
        | (with_reducible refine (fails_yes6 ⟨#[73, 110, 102]⟩ 3 (by decide) fx10 _ (HG.out.later HB.out)).mono ?_)
        | (with_reducible refine (fails_yes6 ⟨#[49, 101, 49, 48, 48, 48, 48, 48, 48, 48, 48, 49]⟩ 7 (by decide) fx11 _ (HG.out.later HB.out)).mono ?_)); rintro x w' ⟨rfl, hb'⟩; replace HB := Lib.hid (HB.out.trans (hb'.mono HB.out.size)); clear hb')
    | (go_at_call 10; (with_reducible refine (less_ex _ (HG.out.later HB.out)).mono ?_); rintro x w' ⟨rfl, hb'⟩; replace HB := Lib.hid (HB.out.trans (hb'.mono HB.out.size)); clear hb'))
  go_ret
  exact ⟨rfl, HB.out⟩

end Go.Proofs.YtncldnghhpdolaaGreatDoor
