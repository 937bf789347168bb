/- floats.rank, Is, Less; no statement of the seat is proved here. -/
import Derived.Test.YtncldnghhpdolaaGreatDoorFlA
namespace Go.Proofs.YtncldnghhpdolaaGreatDoor
open Go.RowKit

def rankL (l : List UInt8) : Int := if l = nanL then 3 else if l = infL then 2 else if (parseD l).isSome then 1 else if l = 45 :: infL then 0 else -1
set_option maxRecDepth 100000 in
set_option maxHeartbeats 2000000 in
theorem rank_is (s : ByteArray) (n : Int) (hs : s.size ≤ 549755813888) (hn : rankL s.data.toList = n) (w : World) (hT : TAB w) :
    Calls Tryz.prog 23 #[.string s] w fun e w' => e = .returned (.int .i64 n) ∧ Below w.heap.size w w' := by
  obtain ⟨m, ds, e, b, ht⟩ := Told.ex s.data.toList
  have HP := Lib.hid (parts_is s ds m e b hs ht)
  have hB : (parseD s.data.toList).isSome = b := by
    unfold Told at ht
    cases b
    · rw [if_neg (by decide)] at ht; rw [ht.1]; rfl
    · rw [if_pos rfl] at ht; rw [ht]; rfl
  unfold rankL at hn
  rw [hB] at hn
  clear ht hB
  by_cases h1 : s.data.toList = nanL
  · rw [if_pos h1] at hn
    subst hn
    have c1 : (s.toList == [110, 97, 110]) = true := beq_lit h1
    clear h1
    go_enter Tryz.func23, Tryz.ntmps23
    go_wp2_with (go_at_call 52; refine (HP.out _ hT).mono ?_; rintro e w' ⟨rfl, hb⟩)
    go_ret
    exact ⟨rfl, hb⟩
  · rw [if_neg h1] at hn
    have c1 : (s.toList == [110, 97, 110]) = false := beq_litF h1
    clear h1
    by_cases h2 : s.data.toList = infL
    · rw [if_pos h2] at hn
      subst hn
      have c2 : (s.toList == [105, 110, 102]) = true := beq_lit h2
      clear h2
      go_enter Tryz.func23, Tryz.ntmps23
      go_wp2_with (go_at_call 52; refine (HP.out _ hT).mono ?_; rintro e w' ⟨rfl, hb⟩)
      go_ret
      exact ⟨rfl, hb⟩
    · rw [if_neg h2] at hn
      have c2 : (s.toList == [105, 110, 102]) = false := beq_litF h2
      clear h2
      cases b
      · rw [if_neg (by decide)] at hn
        by_cases h3 : s.data.toList = 45 :: infL
        · rw [if_pos h3] at hn
          subst hn
          have c3 : (s.toList == [45, 105, 110, 102]) = true := beq_lit h3
          clear h3
          go_enter Tryz.func23, Tryz.ntmps23
          go_wp2_with (go_at_call 52; refine (HP.out _ hT).mono ?_; rintro e w' ⟨rfl, hb⟩)
          go_ret
          exact ⟨rfl, hb⟩
        · rw [if_neg h3] at hn
          subst hn
          have c3 : (s.toList == [45, 105, 110, 102]) = false := beq_litF h3
          clear h3
          go_enter Tryz.func23, Tryz.ntmps23
          go_wp2_with (go_at_call 52; refine (HP.out _ hT).mono ?_; rintro e w' ⟨rfl, hb⟩)
          go_ret
          exact ⟨rfl, hb⟩
      · rw [if_pos rfl] at hn
        subst hn
        go_enter Tryz.func23, Tryz.ntmps23
        go_wp2_with (go_at_call 52; refine (HP.out _ hT).mono ?_; rintro e w' ⟨rfl, hb⟩)
        go_ret
        exact ⟨rfl, hb⟩

theorem fis_is (s : ByteArray) (b : Bool) (hs : s.size ≤ 549755813888) (hb : decide (0 ≤ rankL s.data.toList) = b) (w : World) (hT : TAB w) :
    Calls Tryz.prog 13 #[.string s] w fun e w' => e = .returned (.bool b) ∧ Below w.heap.size w w' := by
  obtain ⟨n, hn⟩ : ∃ n, rankL s.data.toList = n := ⟨_, rfl⟩
  have HR := Lib.hid (rank_is s n hs hn)
  rw [hn] at hb
  clear hn
  go_enter Tryz.func13, Tryz.ntmps13
  go_wp2_with (go_at_call 23; refine (HR.out _ hT).mono ?_; rintro e w' ⟨rfl, hb'⟩)
  go_ret
  exact ⟨by subst hb; rfl, hb'⟩

/-- Does the first one stand ahead? -/
def lessP (a b : List UInt8) : Bool := (decide (0 ≤ rankL a) && decide (0 ≤ rankL b)) && (decide (rankL a < rankL b) || lessT a b)
set_option maxRecDepth 100000 in
set_option maxHeartbeats 2000000 in
theorem fless_is (s t : ByteArray) (b : Bool) (hs : s.size ≤ 549755813888) (ht : t.size ≤ 549755813888) (hb : lessP s.data.toList t.data.toList = b) (w : World) (hT : TAB w) :
    Calls Tryz.prog 10 #[.string s, .string t] w fun e w' => e = .returned (.bool b) ∧ Below w.heap.size w w' := by
  obtain ⟨x, hx⟩ : ∃ n, rankL s.data.toList = n := ⟨_, rfl⟩
  obtain ⟨y, hy⟩ : ∃ n, rankL t.data.toList = n := ⟨_, rfl⟩
  obtain ⟨l, hl⟩ : ∃ n, lessT s.data.toList t.data.toList = n := ⟨_, rfl⟩
  have HX := Lib.hid (rank_is s x hs hx)
  have HY := Lib.hid (rank_is t y ht hy)
  have HL := Lib.hid (less_is s t hs ht l hl)
  have HT := Lib.hid hT
  unfold lessP at hb
  rw [hx, hy, hl] at hb
  have hbw := Below.refl w.heap.size w
  obtain ⟨p, hp⟩ : ∃ p, decide (0 ≤ x) = p := ⟨_, rfl⟩
  obtain ⟨q, hq⟩ : ∃ p, decide (0 ≤ y) = p := ⟨_, rfl⟩
  obtain ⟨r, hr⟩ : ∃ p, decide (x < y) = p := ⟨_, rfl⟩
  rw [hp, hq, hr] at hb
  subst hb
  obtain ⟨v, hv⟩ : ∃ v, (p && q) = v := ⟨_, rfl⟩
  have HV := Lib.hid hv
  clear hT hx hy hl
  rw [hv]
  clear hv
  cases v
  · go_enter Tryz.func10, Tryz.ntmps10
    go_wp2_with (first
      | (go_at_call 23; (first | (with_reducible refine (HX.out _ (HT.out.later hbw)).mono ?_) | (with_reducible refine (HY.out _ (HT.out.later hbw)).mono ?_)); rintro e w' ⟨rfl, hb'⟩; replace hbw := hbw.trans (hb'.mono hbw.size))
      | (go_at_call 24; refine (right2 _ _ _ HV.out _ _ _ (blk_cell (heap_new1 _ _) 0) (blk_cell (heap_new1 _ _) 1)).mono ?_; rintro e w' ⟨rfl, hw'⟩; rw [hw']))
    go_ret
    exact ⟨rfl, hbw.alloc hbw.size _⟩
  · cases r
    · go_enter Tryz.func10, Tryz.ntmps10
      go_wp2_with (first
        | (go_at_call 23; (first | (with_reducible refine (HX.out _ (HT.out.later hbw)).mono ?_) | (with_reducible refine (HY.out _ (HT.out.later hbw)).mono ?_)); rintro e w' ⟨rfl, hb'⟩; replace hbw := hbw.trans (hb'.mono hbw.size))
        | (go_at_call 24; refine (right2 _ _ _ HV.out _ _ _ (blk_cell (heap_new1 _ _) 0) (blk_cell (heap_new1 _ _) 1)).mono ?_; rintro e w' ⟨rfl, hw'⟩; rw [hw']; have hb0 := fun o => hbw.alloc hbw.size o; clear hbw)
        | (go_at_call 25; refine (HL.out _ (HT.out.later (hb0 _))).mono ?_; rintro e w' ⟨rfl, hb'⟩; have hbw := (hb0 _).trans (hb'.mono (hb0 _).size)))
      go_ret
      exact ⟨rfl, hbw⟩
    · go_enter Tryz.func10, Tryz.ntmps10
      go_wp2_with (first
        | (go_at_call 23; (first | (with_reducible refine (HX.out _ (HT.out.later hbw)).mono ?_) | (with_reducible refine (HY.out _ (HT.out.later hbw)).mono ?_)); rintro e w' ⟨rfl, hb'⟩; replace hbw := hbw.trans (hb'.mono hbw.size))
        | (go_at_call 24; refine (right2 _ _ _ HV.out _ _ _ (blk_cell (heap_new1 _ _) 0) (blk_cell (heap_new1 _ _) 1)).mono ?_; rintro e w' ⟨rfl, hw'⟩; rw [hw']))
      go_ret
      exact ⟨rfl, hbw.alloc hbw.size _⟩

end Go.Proofs.YtncldnghhpdolaaGreatDoor
