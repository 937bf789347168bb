/- Walks over the reference of chapter 02: numeral, run, and the places of a text's parts; no statement of the seat is proved here. -/
import Derived.Test.YtncldnghhpdolaaGreatDoorDcD
namespace Go.Proofs.YtncldnghhpdolaaGreatDoor
open Go.RowKit

theorem numeral_is (x : UInt8) (b : Bool) (hb : dgB x = b) (w : World) :
    Calls Tryz.prog 113 #[.int .u8 (x.toNat : Int)] w fun e w' => e = .returned (.bool b) ∧ w = w' := by
  subst hb
  have hx := x.toNat_lt
  by_cases h1 : 48 ≤ x.toNat
  · by_cases h2 : x.toNat ≤ 57
    · have : dgB x = true := dgB_t.2 ⟨h1, h2⟩
      rw [this]
      go_enter Tryz.func113, Tryz.ntmps113
      go_wp2
      go_ret
      exact ⟨ret_bool (decide_eq_true (by omega)), rfl⟩
    · have : dgB x = false := by unfold dgB; exact decide_eq_false (fun q => h2 q.2)
      rw [this]
      go_enter Tryz.func113, Tryz.ntmps113
      go_wp2
      go_ret
      exact ⟨ret_bool (decide_eq_false (by omega)), rfl⟩
  · have : dgB x = false := by unfold dgB; exact decide_eq_false (fun q => h1 q.1)
    rw [this]
    go_enter Tryz.func113, Tryz.ntmps113
    go_wp2
    go_ret
    exact ⟨rfl, rfl⟩

/-- How many numerals stand at a place. -/
def runN (l : List UInt8) (k : Nat) : Nat := ((l.drop k).takeWhile dgB).length
theorem runN_yes {l : List UInt8} {k : Nat} (hk : k < l.length) (hd : dgB l[k] = true) : runN l k = 1 + runN l (k + 1) := by
  unfold runN; rw [List.drop_eq_getElem_cons hk, List.takeWhile_cons_of_pos hd, List.length_cons, Nat.add_comm]
theorem runN_no {l : List UInt8} {k : Nat} (hk : k < l.length) (hd : dgB l[k] = false) : runN l k = 0 := by
  unfold runN; rw [List.drop_eq_getElem_cons hk, List.takeWhile_cons_of_neg (by simp [hd])]; rfl
theorem runN_end {l : List UInt8} {k : Nat} (hk : l.length ≤ k) : runN l k = 0 := by unfold runN; rw [List.drop_eq_nil_of_le hk]; rfl

set_option maxHeartbeats 1000000 in
theorem run_is (s : ByteArray) (i n : Nat) (hs : s.size ≤ 549755813888) (hi : i ≤ s.size) (hn : i + runN s.data.toList i = n) (w : World) :
    Calls Tryz.prog 79 #[.string s, .int .i64 (i : Int)] w fun e w' => e = .returned (.int .i64 (n : Int)) ∧ w = w' := by
  have HN := Lib.hid hn; clear hn
  go_enter Tryz.func79, Tryz.ntmps79
  go_wp2
  go_loop [1] (fun v => ∃ k : Nat, k ≤ s.size ∧ v = .int .i64 k ∧ Hid (k + runN s.data.toList k = n)) (fun v => s.size - (intOf v).toNat)
  case atStart => exact ⟨i, hi, rfl, HN⟩
  case round =>
    obtain ⟨k, hk, rfl, hr⟩ := hrel
    by_cases h1 : k < s.size
    · obtain ⟨b, hb⟩ : ∃ b, dgB s[k] = b := ⟨_, rfl⟩
      have HC := Lib.hid (fun w => numeral_is s[k] b hb w)
      cases b
      · have HE : Hid (k = n) := by
          show _ = _
          rw [← hr.out, runN_no (show k < s.data.toList.length from h1) hb]; rfl
        clear hb hr
        go_wp2_with (go_at_call 113; (with_reducible refine (HC.out _).mono ?_); rintro e w' ⟨rfl, rfl⟩)
        go_ret
        exact ⟨ret_nat HE.out, rfl⟩
      · have HE : Hid (k + 1 + runN s.data.toList (k + 1) = n) := by
          show _ = _
          rw [← hr.out, runN_yes (show k < s.data.toList.length from h1) hb]; omega
        clear hb hr
        go_wp2_with (go_at_call 113; (with_reducible refine (HC.out _).mono ?_); rintro e w' ⟨rfl, rfl⟩)
        go_round
        case rel => exact ⟨k + 1, by omega, by go_num, HE⟩
        case measure => simp [intOf]; omega
    · have HE : Hid (k = n) := by
        show _ = _
        rw [← hr.out, runN_end (by rw [size_list]; omega)]; rfl
      clear hr
      go_wp2
      go_ret
      exact ⟨ret_nat HE.out, rfl⟩

theorem run_at (s : ByteArray) (v : Int) (i n : Nat) (hv : v = (i : Int)) (hs : s.size ≤ 549755813888) (hi : i ≤ s.size) (hn : i + runN s.data.toList i = n) (w : World) :
    Calls Tryz.prog 79 #[.string s, .int .i64 v] w fun e w' => e = .returned (.int .i64 (n : Int)) ∧ w = w' := by
  subst hv; exact run_is s i n hs hi hn w
/-- Where a text's parts stand. -/
structure Pl (s : ByteArray) (q0 q1 q2 q3 q4 q5 q6 : Nat) : Prop where
  d0 : l1 s.data.toList = s.data.toList.drop q0
  d1 : l2 s.data.toList = s.data.toList.drop q1
  d2 : l3 s.data.toList = s.data.toList.drop q2
  d3 : l4 s.data.toList = s.data.toList.drop q3
  d4 : l5 s.data.toList = s.data.toList.drop q4
  d5 : l6 s.data.toList = s.data.toList.drop q5
  d6 : l7 s.data.toList = s.data.toList.drop q6
  e0 : q0 = one isMin s.data.toList
  e1 : q1 = q0 + (wholeL s.data.toList).length
  e2 : q2 = q1 + one isDot (l2 s.data.toList)
  e3 : q3 = q2 + (partL s.data.toList).length
  e4 : q4 = q3 + one isExp (l4 s.data.toList)
  e5 : q5 = q4 + (signL s.data.toList).length
  e6 : q6 = q5 + (powerL s.data.toList).length
  le : q6 ≤ s.size
theorem dw_len (p : UInt8 → Bool) (l : List UInt8) : (l.takeWhile p).length + (l.dropWhile p).length = l.length := by
  rw [← drop_tw, List.length_drop]
  have := tw_le p l
  omega
theorem Pl.ex (s : ByteArray) : ∃ q0 q1 q2 q3 q4 q5 q6, Pl s q0 q1 q2 q3 q4 q5 q6 := by
  have a0 : l1 s.data.toList = s.data.toList.drop (one isMin s.data.toList) := rfl
  have a1 : l2 s.data.toList = s.data.toList.drop (one isMin s.data.toList + (wholeL s.data.toList).length) := by
    rw [l2, ← drop_tw, ← List.drop_drop]; rfl
  have a2 : l3 s.data.toList = s.data.toList.drop (one isMin s.data.toList + (wholeL s.data.toList).length + one isDot (l2 s.data.toList)) := by
    rw [l3]; conv => lhs; rw [a1]
    rw [List.drop_drop, ← a1]
  have a3 : l4 s.data.toList = s.data.toList.drop (one isMin s.data.toList + (wholeL s.data.toList).length + one isDot (l2 s.data.toList) + (partL s.data.toList).length) := by
    rw [l4, a2, List.drop_drop]
  have a4 : l5 s.data.toList = s.data.toList.drop (one isMin s.data.toList + (wholeL s.data.toList).length + one isDot (l2 s.data.toList) + (partL s.data.toList).length + one isExp (l4 s.data.toList)) := by
    rw [l5]; conv => lhs; rw [a3]
    rw [List.drop_drop, ← a3]
  have a5 : l6 s.data.toList = s.data.toList.drop (one isMin s.data.toList + (wholeL s.data.toList).length + one isDot (l2 s.data.toList) + (partL s.data.toList).length + one isExp (l4 s.data.toList) + (signL s.data.toList).length) := by
    rw [l6, a4, List.drop_drop]
  have a6 : l7 s.data.toList = s.data.toList.drop (one isMin s.data.toList + (wholeL s.data.toList).length + one isDot (l2 s.data.toList) + (partL s.data.toList).length + one isExp (l4 s.data.toList) + (signL s.data.toList).length + (powerL s.data.toList).length) := by
    rw [l7, a5, List.drop_drop]
  refine ⟨_, _, _, _, _, _, _, ⟨a0, a1, a2, a3, a4, a5, a6, rfl, rfl, rfl, rfl, rfl, rfl, rfl, ?_⟩⟩
  have b0 := one_le isMin s.data.toList
  have b1 : (wholeL s.data.toList).length + (l2 s.data.toList).length = (l1 s.data.toList).length := dw_len _ _
  have b2 := one_le isDot (l2 s.data.toList)
  have b3 : (l3 s.data.toList).length = (l2 s.data.toList).length - one isDot (l2 s.data.toList) := by rw [l3, List.length_drop]
  have b4 : (partL s.data.toList).length ≤ (l3 s.data.toList).length := by
    unfold partL; split
    · exact tw_le _ _
    · simp
  have b5 : (l4 s.data.toList).length = (l3 s.data.toList).length - (partL s.data.toList).length := by rw [l4, List.length_drop]
  have b6 := one_le isExp (l4 s.data.toList)
  have b7 : (l5 s.data.toList).length = (l4 s.data.toList).length - one isExp (l4 s.data.toList) := by rw [l5, List.length_drop]
  have b8 : (signL s.data.toList).length ≤ (l5 s.data.toList).length := by
    unfold signL; split
    · rw [List.length_take]; omega
    · simp
  have b9 : (l6 s.data.toList).length = (l5 s.data.toList).length - (signL s.data.toList).length := by rw [l6, List.length_drop]
  have b10 : (powerL s.data.toList).length ≤ (l6 s.data.toList).length := by
    unfold powerL; split
    · exact tw_le _ _
    · simp
  have b11 : (l1 s.data.toList).length = s.size - one isMin s.data.toList := by rw [l1, List.length_drop, size_list]
  rw [size_list] at b0
  omega
/-- A byte at a place, tried. -/
theorem hd_yes {p : UInt8 → Bool} {s : ByteArray} {q : Nat} {r : List UInt8} (hr : r = s.data.toList.drop q) (h : hdB p r = true) : ∃ h : q < s.size, p s[q] = true := by
  rcases Nat.lt_or_ge q s.size with hq | hq
  · refine ⟨hq, ?_⟩
    rw [hr, List.drop_eq_getElem_cons (show q < s.data.toList.length from hq)] at h
    exact h
  · rw [hr, List.drop_eq_nil_of_le (by rw [size_list]; exact hq)] at h; cases h
theorem hd_not {p : UInt8 → Bool} {s : ByteArray} {q : Nat} {r : List UInt8} (hr : r = s.data.toList.drop q) (h : hdB p r = false) : ¬ q < s.size ∨ ∃ h : q < s.size, p s[q] = false := by
  rcases Nat.lt_or_ge q s.size with hq | hq
  · refine .inr ⟨hq, ?_⟩
    rw [hr, List.drop_eq_getElem_cons (show q < s.data.toList.length from hq)] at h
    exact h
  · exact .inl (by omega)
theorem u8_beq (c : UInt8) (n : UInt8) : (((c.toNat : Int)) == ((n.toNat : Nat) : Int)) = (c == n) := by
  rw [Bool.eq_iff_iff, beq_iff_eq, beq_iff_eq, ← UInt8.toNat_inj]; omega

end Go.Proofs.YtncldnghhpdolaaGreatDoor
