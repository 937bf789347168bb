/- Walks over chapter 07's reference: Read, Of, Long, whole; no statement of the seat is proved here. -/
import Derived.Test.YtnoghelkcbjfiaaGreatDoorDtX
namespace Go.Proofs.YtnoghelkcbjfiaaGreatDoor
open Go.RowKit

theorem strip_behind (l : List UInt8) (i : Nat) : stripD ((l.drop i).take (pN (partN l i))) = dotP (rstrip ((l.drop (i + 1)).take (partN l i))) := by
  rw [behind_part]
  by_cases h : partN l i = 0
  · rw [if_pos h, h, stripD_nil]; rfl
  · rw [if_neg h, strip_part]

theorem rread_is (s : ByteArray) (hs : s.size ≤ 549755813888) (w : World) :
    Calls Tryz.prog 6 #[.string s] w fun e w' => e = .returned (.tuple #[.string ⟨(readD s.data.toList).1.toArray⟩, .int .i64 (readD s.data.toList).2]) ∧ Below w.heap.size w w' := by
  have hle := long_le s.data.toList
  have hl : s.data.toList.length = s.size := rfl
  rcases spl_cases s.data.toList with ⟨_, _, h⟩ | ⟨_, hC, h⟩ | ⟨hD, _, h⟩ | ⟨hD, hM, hC, h⟩
  · have hV : Hid (formV (spl s.data.toList) = .agg #[.int .i64 0, .int .i64 (-1), .int .i64 (-1), .int .i64 0]) := by show _ = _; rw [h]; rfl
    exact rread_syn s hs hV (.inl rfl) (readD_syn (.inl (by rw [h]; rfl))) w
  · have hk : Hid ((spl s.data.toList).date = true ∨ (spl s.data.toList).time = true) := .inr (by rw [h])
    have hlong : (spl s.data.toList).long = 8 + pN (partN s.data.toList 8) := by rw [h]; simp [Parts.long, Parts.zAt]
    by_cases he : (spl s.data.toList).long = s.size
    · have hV : Hid (formV (spl s.data.toList) = .agg #[.int .i64 2, .int .i64 0, .int .i64 (-1), .int .i64 (s.size : Int)]) := by
        show _ = _; rw [formV, he, h]; rfl
      have h0 : (spl s.data.toList).long ≠ 0 := by omega
      cases hm : mayL s.data.toList
      · exact rread_bad s hs hk hV rfl (by simp) hm (readD_bad he h0 hm) w
      · refine rread_time s hs hk (by omega) hV hm ?_ w
        show _ = _
        rw [readD_ok he h0 hm]
        have e := strip_behind s.data.toList 8
        rw [List.take_of_length_le (by rw [List.length_drop]; omega)] at e
        rw [e, textL, textOf, h]
        simp [Parts.dateL, Parts.timeL, Parts.partL, Parts.zoneL, upZ]
    · have hV : Hid (formV (spl s.data.toList) = .agg #[.int .i64 2, .int .i64 0, .int .i64 (-1), .int .i64 (((spl s.data.toList).long : Nat) : Int)]) := by
        show _ = _; rw [formV]; rw [h]; rfl
      exact rread_syn s hs hV (.inr (by simp; omega)) (readD_syn (.inr (by omega))) w
  · have hk : Hid ((spl s.data.toList).date = true ∨ (spl s.data.toList).time = true) := .inl (by rw [h])
    have hlong : (spl s.data.toList).long = 10 := by rw [h]; rfl
    have hV : Hid (formV (spl s.data.toList) = .agg #[.int .i64 1, .int .i64 (-1), .int .i64 (-1), .int .i64 10]) := by
      show _ = _; rw [h]; rfl
    by_cases he : (spl s.data.toList).long = s.size
    · have h0 : (spl s.data.toList).long ≠ 0 := by omega
      have b1 : ((10 : Int) != (s.size : Int)) = false := by simp; omega
      cases hm : mayL s.data.toList
      · exact rread_bad s hs hk hV rfl b1 hm (readD_bad he h0 hm) w
      · refine rread_day s hs hk hV b1 hm ?_ w
        show _ = _
        rw [readD_ok he h0 hm, textL, textOf, h]
        simp [Parts.dateL, Parts.timeL, Parts.partL, Parts.zoneL, upZ, dotP, rstrip_nil, List.take_of_length_le (show s.data.toList.length ≤ 10 by omega)]
    · exact rread_syn s hs hV (.inr (by simp; omega)) (readD_syn (.inr (by omega))) w
  · have hk : Hid ((spl s.data.toList).date = true ∨ (spl s.data.toList).time = true) := .inl (by rw [h])
    have h10 := isD_len hD
    have h19 := isC_len hC
    have hp19 := partN_le s.data.toList 19 (by omega)
    have hlong : (spl s.data.toList).long = 19 + pN (partN s.data.toList 19) + zoneN s.data.toList (19 + pN (partN s.data.toList 19)) := by rw [h]; simp [Parts.long, Parts.zAt]
    have hne1 : ¬ s.data.toList.take 10 = [] := fun e => by have := congrArg List.length e; simp only [List.length_take, List.length_nil] at this; omega
    have hne2 : ¬ (s.data.toList.drop 11).take 8 = [] := fun e => by have := congrArg List.length e; simp only [List.length_take, List.length_drop, List.length_nil] at this; omega
    have e := strip_behind s.data.toList 19
    have hT : textL s.data.toList = s.data.toList.take 10 ++ ([84] ++ ((s.data.toList.drop 11).take 8 ++ (stripD ((s.data.toList.drop 19).take (pN (partN s.data.toList 19))) ++ upZ ((s.data.toList.drop (19 + pN (partN s.data.toList 19))).take (zoneN s.data.toList (19 + pN (partN s.data.toList 19))))))) := by
      rw [textL, textOf, h, e]
      simp only [Parts.dateL, Parts.timeL, Parts.partL, Parts.zoneL, Parts.zAt, if_true]
      rw [if_pos ⟨hne1, hne2⟩]
    by_cases he : (spl s.data.toList).long = s.size
    · have h0 : (spl s.data.toList).long ≠ 0 := by omega
      cases hm : mayL s.data.toList
      · refine rread_bad s hs hk (K := (kindP (spl s.data.toList) : Nat)) (T := (spl s.data.toList).timeI) (Z := (spl s.data.toList).zoneI) (E := ((spl s.data.toList).long : Nat)) rfl ?_ (by simp; omega) hm (readD_bad he h0 hm) w
        rw [h]; simp [kindP]; split <;> simp
      · rcases zoneN_cases s.data.toList (19 + pN (partN s.data.toList 19)) with hz | ⟨hz, hzb⟩ | ⟨hz, hzb, hZ⟩
        · rw [hz] at h hlong hT
          refine rread_both s hs hk (by omega) ?_ hm ?_ w
          · show _ = _; rw [formV, he, h]; rfl
          · show _ = _
            rw [readD_ok he h0 hm, hT, List.take_of_length_le (l := s.data.toList.drop 19) (by rw [List.length_drop]; omega)]
            simp [upZ]
        · rw [hz] at h hlong hT
          obtain ⟨Z, hZe⟩ : ∃ Z, 19 + pN (partN s.data.toList 19) = Z := ⟨_, rfl⟩
          have hZs : Z < s.size := by omega
          have hZl : Z < s.data.toList.length := hZs
          rw [hZe, bt_lt hZl, run_idx s Z hZs] at hzb
          refine rread_z1 s hs hk Z (by omega) hZs ?_ ?_ hm ?_ w
          · rcases hzb with q | q
            · exact .inl (by simp; omega)
            · exact .inr ⟨by simp; omega, by simp; omega⟩
          · show _ = _; rw [formV, he, h]; simp [Parts.zoneI, Parts.timeI, Parts.zAt, kindP, hZe]
          · show _ = _
            rw [readD_ok he h0 hm, hT, hZe]
            have hu : upZ ((s.data.toList.drop Z).take 1) = [90] := by
              rw [List.drop_eq_getElem_cons hZl, run_idx s Z hZs]
              show upZ [s[Z]] = _
              unfold upZ
              rcases hzb with q | q
              · rw [if_neg (by intro e; injection e with e; rw [e] at q; exact absurd q (by decide)), show s[Z] = 90 from UInt8.toNat_inj.1 q]
              · rw [if_pos (by rw [show s[Z] = 122 from UInt8.toNat_inj.1 q])]
            rw [hu, show pN (partN s.data.toList 19) = Z - 19 by omega]
            simp
        · rw [hz] at h hlong hT
          obtain ⟨Z, hZe⟩ : ∃ Z, 19 + pN (partN s.data.toList 19) = Z := ⟨_, rfl⟩
          have hZs : Z < s.size := by omega
          have hZl : Z < s.data.toList.length := hZs
          rw [hZe, bt_lt hZl, run_idx s Z hZs] at hzb
          refine rread_z6 s hs hk Z (by omega) hZs (by simp; omega) (by simp; omega) ?_ hm ?_ w
          · show _ = _; rw [formV, he, h]; simp [Parts.zoneI, Parts.timeI, Parts.zAt, kindP, hZe]
          · show _ = _
            rw [readD_ok he h0 hm, hT, hZe]
            have hz6 : (s.data.toList.drop Z).take 6 = s.data.toList.drop Z := List.take_of_length_le (by rw [List.length_drop]; omega)
            have hu : upZ (s.data.toList.drop Z) = s.data.toList.drop Z := by
              unfold upZ
              rw [if_neg (by intro e; have := congrArg List.length e; rw [List.length_drop] at this; simp at this; omega)]
            rw [hz6, hu, show pN (partN s.data.toList 19) = Z - 19 by omega]
            simp
    · refine rread_syn s hs (K := (kindP (spl s.data.toList) : Nat)) (T := (spl s.data.toList).timeI) (Z := (spl s.data.toList).zoneI) (E := ((spl s.data.toList).long : Nat)) rfl (.inr (by simp; omega)) (readD_syn (.inr (by omega))) w

theorem formV_open (p : Parts) : ∃ K T Z E : Int, Hid (formV p = .agg #[.int .i64 K, .int .i64 T, .int .i64 Z, .int .i64 E]) ∧ Hid (((kindP p : Nat) : Int) = K) ∧ Hid (((p.long : Nat) : Int) = E) := ⟨_, _, _, _, rfl, rfl, rfl⟩
theorem kind_ret {a b : Nat} (h : a = b) : Ending.returned (.int .i64 (a : Int)) = .returned (.int .i64 (b : Int)) := by rw [h]

set_option maxRecDepth 100000 in
set_option maxHeartbeats 1000000 in
theorem rlong_is (s : ByteArray) (hs : s.size ≤ 549755813888) (w : World) :
    Calls Tryz.prog 10 #[.string s] w fun e w' => e = .returned (.int .i64 ((spl s.data.toList).long : Nat)) ∧ Below w.heap.size w w' := by
  obtain ⟨K, T, Z, E, hV, _, hE⟩ := formV_open (spl s.data.toList)
  have hfd : ∀ w : World, (Instr.field 37 (.agg #[.int .i64 K, .int .i64 T, .int .i64 Z, .int .i64 E]) 3).run Tryz.prog w = .ok (.int .i64 E) w := fun _ => by kernel_rfl
  go_enter Tryz.func10, Tryz.ntmps10
  go_wp2_with (go_at_call 16; (with_reducible refine (rform_v s hs hV _).mono ?_); rintro e w1 ⟨rfl, hb1⟩; have hz1 := hb1.size)
  go_ret
  exact ⟨ret_int hE.out.symm, hb1⟩

set_option maxRecDepth 100000 in
set_option maxHeartbeats 1000000 in
theorem rof_is (s : ByteArray) (hs : s.size ≤ 549755813888) (w : World) :
    Calls Tryz.prog 8 #[.string s] w fun e w' => e = .returned (.int .i64 (ofD s.data.toList : Nat)) ∧ Below w.heap.size w w' := by
  obtain ⟨K, T, Z, E, hV, hK, _⟩ := formV_open (spl s.data.toList)
  have hfd : ∀ w : World, (Instr.field 37 (.agg #[.int .i64 K, .int .i64 T, .int .i64 Z, .int .i64 E]) 0).run Tryz.prog w = .ok (.int .i64 K) w := fun _ => by kernel_rfl
  obtain ⟨k, hk⟩ : ∃ k, Hid (kindP (spl s.data.toList) = k) := ⟨kindP (spl s.data.toList), rfl⟩
  have hKk : Hid (K = (k : Int)) := by show _ = _; rw [← hk.out]; exact hK.out.symm
  obtain ⟨t, ht⟩ : ∃ t : ByteArray, Hid ((readD s.data.toList).1 = t.data.toList) := ⟨⟨(readD s.data.toList).1.toArray⟩, rfl⟩
  obtain ⟨c, hc⟩ : ∃ c, Hid ((readD s.data.toList).2 = c) := ⟨(readD s.data.toList).2, rfl⟩
  have hC : Hid (∀ w, Calls Tryz.prog 6 #[.string s] w fun e w' => e = .returned (.tuple #[.string t, .int .i64 c]) ∧ Below w.heap.size w w') := by
    intro w
    have := rread_is s hs w
    rw [ht.out, hc.out] at this
    exact this
  have hO : Hid (ofD s.data.toList = if t.data.toList = s.data.toList ∧ c = 0 then k else 0) := by
    show _ = _
    have h1 := ht.out; have h2 := hc.out
    rw [ofD, hk.out]
    have e : readD s.data.toList = (t.data.toList, c) := by rw [← h1, ← h2]
    rw [e]
    by_cases h : t.data.toList = s.data.toList ∧ c = 0
    · rw [if_pos h, if_pos (by rw [h.1, h.2])]
    · rw [if_neg h, if_neg (by intro q; injection q with q1 q2; exact h ⟨q1, q2⟩)]
  by_cases h0 : c = 0
  · have b0 : (c != 0) = false := by simp [h0]
    by_cases h1 : t.data.toList = s.data.toList
    · have hr : Hid (ofD s.data.toList = k) := by show _ = _; rw [hO.out, if_pos ⟨h1, h0⟩]
      obtain rfl := str_of h1
      clear hO h0 h1
      go_enter Tryz.func8, Tryz.ntmps8
      go_wp2_with (first
        | (go_at_call 6; (with_reducible refine (hC.out _).mono ?_); rintro e w0 ⟨rfl, hb0⟩; have hz0 := hb0.size)
        | (go_at_call 16; (with_reducible refine (rform_v t hs hV _).mono ?_); rintro e w1 ⟨rfl, hb1⟩; have hz1 := hb1.size))
      go_ret
      exact ⟨ret_int (by rw [hr.out]; exact hKk.out), hb0.trans (hb1.mono hz0)⟩
    · have hr : Hid (ofD s.data.toList = 0) := by show _ = _; rw [hO.out, if_neg (fun q => h1 q.1)]
      have b1 : (t.toList == s.toList) = false := by rw [ByteArray.toList_eq, ByteArray.toList_eq]; simpa using h1
      have b2 : (t.toList != s.toList) = true := by rw [bne, b1]; rfl
      clear hO h0 h1
      go_enter Tryz.func8, Tryz.ntmps8
      go_wp2_with (go_at_call 6; (with_reducible refine (hC.out _).mono ?_); rintro e w0 ⟨rfl, hb0⟩; have hz0 := hb0.size)
      go_ret
      exact ⟨kind_ret (a := 0) hr.out.symm, hb0⟩
  · have hr : Hid (ofD s.data.toList = 0) := by show _ = _; rw [hO.out, if_neg (fun q => h0 q.2)]
    have b0 : (c != 0) = true := by simp [h0]
    clear hO h0
    go_enter Tryz.func8, Tryz.ntmps8
    go_wp2_with (go_at_call 6; (with_reducible refine (hC.out _).mono ?_); rintro e w0 ⟨rfl, hb0⟩; have hz0 := hb0.size)
    go_ret
    exact ⟨kind_ret (a := 0) hr.out.symm, hb0⟩

end Go.Proofs.YtnoghelkcbjfiaaGreatDoor
