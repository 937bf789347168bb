/- Walks over package dates: Read, Of, Long; no statement of the seat is proved here. -/
import Derived.Test.YtgchhogdbigafaaDoorDtF
namespace Go.Proofs.YtgchhogdbigafaaDoor
open Go.RowKit

theorem str_ex (l : List UInt8) : ∃ s : ByteArray, s.data.toList = l := ⟨⟨l.toArray⟩, rfl⟩
theorem str_nil {s : ByteArray} (h : s.data.toList = []) : s = ⟨#[]⟩ := str_is h
theorem upper_dig : ∀ c : UInt8, (!(dgN c.toNat || decide (c.toNat = 43 ∨ c.toNat = 45 ∨ c.toNat = 58 ∨ c.toNat = 90)) || decide (Lib.upperB c = c ∧ c.toNat < 128)) = true := u8_all (by decide +kernel)
theorem upper_keep {c : UInt8} (h : dgN c.toNat = true ∨ c.toNat = 43 ∨ c.toNat = 45 ∨ c.toNat = 58 ∨ c.toNat = 90) : Lib.upperB c = c ∧ c.toNat < 128 := by
  have := upper_dig c
  have e : (dgN c.toNat || decide (c.toNat = 43 ∨ c.toNat = 45 ∨ c.toNat = 58 ∨ c.toNat = 90)) = true := by
    rcases h with h | h
    · rw [h]; rfl
    · rw [decide_eq_true h]; simp
  rw [e] at this
  simpa using this
theorem upper_list {l : List UInt8} (h : ∀ c ∈ l, Lib.upperB c = c ∧ c.toNat < 128) : Lib.toUpperA l = l ∧ ∀ c ∈ l, c.toNat < 128 :=
  ⟨by unfold Lib.toUpperA; exact (List.map_congr_left fun c hc => (h c hc).1).trans (List.map_id _), fun c hc => (h c hc).2⟩
/-- The zone's bytes, upper case. -/
theorem zone_upper (l : List UInt8) (i : Nat) : Lib.toUpperA ((l.drop i).take (zoneN l i)) = upZ ((l.drop i).take (zoneN l i)) ∧ ∀ c ∈ (l.drop i).take (zoneN l i), c.toNat < 128 := by
  rcases zoneN_cases l i with h | ⟨h, h1⟩ | ⟨h, h1, h2⟩
  · rw [h]; exact ⟨rfl, by simp⟩
  · rw [h]
    have hi := bt_in (show bt l i < 256 by omega)
    rw [bt_lt hi] at h1
    have e : (l.drop i).take 1 = [l[i]] := by rw [List.drop_eq_getElem_cons hi]; rfl
    rw [e]
    rcases h1 with h1 | h1
    · rw [show l[i] = 90 from UInt8.toNat_inj.1 h1]; exact ⟨by decide, by simp⟩
    · rw [show l[i] = 122 from UInt8.toNat_inj.1 h1]; exact ⟨by decide, by simp⟩
  · rw [h]
    have h6 := isZ_len h2
    have hi : i < l.length := by omega
    simp only [isZ, tw, Bool.and_eq_true, decide_eq_true_iff] at h2
    obtain ⟨⟨g1, g2⟩, g3, g4, g5⟩ := h2
    have e : (l.drop i).take 6 = [l[i], l[i + 1], l[i + 2], l[i + 3], l[i + 4], l[i + 5]] := by
      rw [List.drop_eq_getElem_cons hi, List.drop_eq_getElem_cons (by omega), List.drop_eq_getElem_cons (by omega), List.drop_eq_getElem_cons (by omega), List.drop_eq_getElem_cons (by omega), List.drop_eq_getElem_cons (by omega)]; rfl
    unfold dg at g1 g2 g4 g5
    rw [bt_lt hi] at h1
    rw [bt_lt (by omega)] at g1 g2 g3 g4 g5
    have hk := upper_list (l := (l.drop i).take 6) (by
      rw [e]
      intro c hc
      simp only [List.mem_cons, List.not_mem_nil, or_false] at hc
      rcases hc with rfl | rfl | rfl | rfl | rfl | rfl
      · exact upper_keep (by omega)
      · exact upper_keep (.inl g1)
      · exact upper_keep (.inl g2)
      · exact upper_keep (.inr (.inr (.inr (.inl g3))))
      · exact upper_keep (.inl g4)
      · exact upper_keep (.inl g5))
    refine ⟨?_, hk.2⟩
    rw [hk.1, upZ, if_neg]
    intro q
    have := congrArg List.length q
    rw [e] at this; simp at this

/-- The parts, as strings. -/
structure CutS (s d t p z : ByteArray) : Prop where
  d : d.data.toList = (spl s.data.toList).dateL s.data.toList
  t : t.data.toList = (spl s.data.toList).timeL s.data.toList
  p : p.data.toList = (spl s.data.toList).partL s.data.toList
  z : z.data.toList = (spl s.data.toList).zoneL s.data.toList
theorem CutS.ex (s : ByteArray) : ∃ d t p z, CutS s d t p z := by
  obtain ⟨d, hd⟩ := str_ex ((spl s.data.toList).dateL s.data.toList)
  obtain ⟨t, ht⟩ := str_ex ((spl s.data.toList).timeL s.data.toList)
  obtain ⟨p, hp⟩ := str_ex ((spl s.data.toList).partL s.data.toList)
  obtain ⟨z, hz⟩ := str_ex ((spl s.data.toList).zoneL s.data.toList)
  exact ⟨d, t, p, z, hd, ht, hp, hz⟩
theorem CutS.split {s d t p z : ByteArray} (h : CutS s d t p z) (hs : s.size ≤ 549755813888) (e : Nat) (he : (spl s.data.toList).long = e) (w : World) :
    Calls Tryd.prog 22 #[.string s] w fun x w' => x = .returned (.agg #[.string d, .string t, .string p, .string z, .int .i64 (e : Int)]) ∧ Below w.heap.size w w' := by
  obtain ⟨hd, ht, hp, hz⟩ := h
  rcases spl_cases s.data.toList with ⟨hD, _, h⟩ | ⟨hD, hC, h⟩ | ⟨hD, hM, h⟩ | ⟨hD, hM, hC, h⟩
  · obtain rfl := str_nil (show d.data.toList = [] by rw [hd, h]; rfl)
    obtain rfl := str_nil (show z.data.toList = [] by rw [hz, h]; simp [Parts.zoneL])
    exact split_no s t p e hs hD ht hp he w
  · obtain rfl := str_nil (show d.data.toList = [] by rw [hd, h]; rfl)
    obtain rfl := str_nil (show z.data.toList = [] by rw [hz, h]; simp [Parts.zoneL])
    exact split_no s t p e hs hD ht hp he w
  · obtain rfl := str_nil (show t.data.toList = [] by rw [ht, h]; rfl)
    obtain rfl := str_nil (show p.data.toList = [] by rw [hp, h]; simp [Parts.partL])
    obtain rfl := str_nil (show z.data.toList = [] by rw [hz, h]; simp [Parts.zoneL])
    obtain rfl : e = 10 := by rw [← he, h]; rfl
    exact split_day s d hs hD hM (by rw [hd, h]; rfl) w
  · exact split_both s d t p z e hs hD hM hC (by rw [hd, h]; rfl) ht hp hz he w
theorem isC_take {l : List UInt8} {i j : Nat} (h : j + 8 ≤ i) : isC (l.take i) j = isC l j := by
  simp [isC, tw_take (l := l) (show j + 2 ≤ i by omega), tw_take (l := l) (show j + 3 + 2 ≤ i by omega), tw_take (l := l) (show j + 6 + 2 ≤ i by omega), bt_take l (show j + 2 < i by omega), bt_take l (show j + 5 < i by omega)]
theorem isD_take {l : List UInt8} {i j : Nat} (h : j + 10 ≤ i) : isD (l.take i) j = isD l j := by
  simp [isD, tw_take (l := l) (show j + 2 ≤ i by omega), tw_take (l := l) (show j + 2 + 2 ≤ i by omega), tw_take (l := l) (show j + 5 + 2 ≤ i by omega), tw_take (l := l) (show j + 8 + 2 ≤ i by omega), bt_take l (show j + 4 < i by omega), bt_take l (show j + 7 < i by omega)]
theorem isZ_take {l : List UInt8} {i j : Nat} (h : j + 5 ≤ i) : isZ (l.take i) j = isZ l j := by
  simp [isZ, tw_take (l := l) (show j + 2 ≤ i by omega), tw_take (l := l) (show j + 3 + 2 ≤ i by omega), bt_take l (show j + 2 < i by omega)]
theorem sz_of {s : ByteArray} {l : List UInt8} {n : Nat} (h : s.data.toList = l) (hn : l.length = n) : s.size = n := by
  have : s.data.toList.length = s.size := rfl
  rw [h] at this; omega
theorem CutS.may {s d t p z : ByteArray} (h : CutS s d t p z) (hs : s.size ≤ 549755813888) (hk : (spl s.data.toList).date = true ∨ (spl s.data.toList).time = true) (e : Int) (b : Bool) (hb : mayL s.data.toList = b) (w : World) :
    Calls Tryd.prog 32 #[.agg #[.string d, .string t, .string p, .string z, .int .i64 e]] w fun x w' => x = .returned (.bool b) ∧ Below w.heap.size w w' := by
  obtain ⟨hd, ht, hp, hz⟩ := h
  have hl : s.data.toList.length = s.size := rfl
  rw [← hb]
  rcases spl_cases s.data.toList with ⟨hD, _, h⟩ | ⟨hD, hC, h⟩ | ⟨hD, hM, h⟩ | ⟨hD, hM, hC, h⟩
  · rw [h] at hk; simp at hk
  · obtain rfl := str_nil (show d.data.toList = [] by rw [hd, h]; rfl)
    obtain rfl := str_nil (show z.data.toList = [] by rw [hz, h]; simp [Parts.zoneL])
    have h8 := isC_len hC
    have et : t.data.toList = s.data.toList.take 8 := by rw [ht, h]; rfl
    have := imay_time t p e (sz_of et (by rw [List.length_take]; omega)) (by rw [et, isC_take (by omega)]; exact hC) w
    rw [et, twN_take (by omega), twN_take (by omega), twN_take (by omega)] at this
    rw [may_time h]
    exact this
  · obtain rfl := str_nil (show t.data.toList = [] by rw [ht, h]; rfl)
    obtain rfl := str_nil (show z.data.toList = [] by rw [hz, h]; simp [Parts.zoneL])
    have h10 := isD_len hD
    have ed : d.data.toList = s.data.toList.take 10 := by rw [hd, h]; rfl
    have := imay_day d p e (sz_of ed (by rw [List.length_take]; omega)) (by rw [ed, isD_take (by omega)]; exact hD) w
    rw [ed, twN_take (by omega), twN_take (by omega), twN_take (by omega), twN_take (by omega)] at this
    rw [may_day h]
    exact this
  · have h10 := isD_len hD
    have h19 := isC_len hC
    have ed : d.data.toList = s.data.toList.take 10 := by rw [hd, h]; rfl
    have et : t.data.toList = (s.data.toList.drop 11).take 8 := by rw [ht, h]; rfl
    have ez : z.data.toList = (s.data.toList.drop (19 + pN (partN s.data.toList 19))).take (zoneN s.data.toList (19 + pN (partN s.data.toList 19))) := by rw [hz, h]; rfl
    have hd10 := sz_of ed (n := 10) (by rw [List.length_take]; omega)
    have ht8 := sz_of et (n := 8) (by rw [List.length_take, List.length_drop]; omega)
    have hDd : isD d.data.toList 0 = true := by rw [ed, isD_take (by omega)]; exact hD
    have hCt : isC t.data.toList 0 = true := by rw [et, isC_take (by omega), isC_drop]; exact hC
    have hpn := partN_le s.data.toList 19 (by omega)
    have hzl := zoneN_le s.data.toList _ hpn
    have hzs := sz_of ez (n := zoneN s.data.toList (19 + pN (partN s.data.toList 19))) (by rw [List.length_take, List.length_drop]; omega)
    rcases zoneN_cases s.data.toList (19 + pN (partN s.data.toList 19)) with q | ⟨q, _⟩ | ⟨q, _, q2⟩
    · have := imay_both d t p z e hd10 hDd ht8 hCt (by omega) w
      rw [ed, et, twN_take (by omega), twN_take (by omega), twN_take (by omega), twN_take (by omega), twN_take (by omega), twN_take (by omega), twN_take (by omega), twN_drop, twN_drop, twN_drop] at this
      rw [q] at h
      rw [may_both h (by omega)]
      exact this
    · have := imay_both d t p z e hd10 hDd ht8 hCt (by omega) w
      rw [ed, et, twN_take (by omega), twN_take (by omega), twN_take (by omega), twN_take (by omega), twN_take (by omega), twN_take (by omega), twN_take (by omega), twN_drop, twN_drop, twN_drop] at this
      rw [q] at h
      rw [may_both h (by omega)]
      exact this
    · rw [q] at ez hzs
      have := imay_zone d t p z e hd10 hDd ht8 hCt hzs (by rw [ez, isZ_take (by omega), isZ_drop]; exact q2) w
      rw [ed, et, ez, twN_take (by omega), twN_take (by omega), twN_take (by omega), twN_take (by omega), twN_take (by omega), twN_take (by omega), twN_take (by omega), twN_take (by omega), twN_take (by omega), twN_drop, twN_drop, twN_drop, twN_drop, twN_drop] at this
      rw [q] at h
      rw [may_zone h (by omega)]
      exact this
theorem CutS.text {s d t p z r : ByteArray} (h : CutS s d t p z) (hs : s.size ≤ 549755813888) (e : Int) (hr : r.data.toList = textL s.data.toList) (w : World) :
    Calls Tryd.prog 33 #[.agg #[.string d, .string t, .string p, .string z, .int .i64 e]] w fun x w' => x = .returned (.string r) ∧ Below w.heap.size w w' := by
  obtain ⟨hd, ht, hp, hz⟩ := h
  have hl : s.data.toList.length = s.size := rfl
  have hle : ∀ {u : ByteArray} {l : List UInt8}, u.data.toList = l → l.length ≤ s.data.toList.length → u.size ≤ 549755813888 := fun {u l} h1 h2 => by
    have : u.data.toList.length = u.size := rfl
    rw [h1] at this; omega
  refine text_is d t p z r e (hle hd ?_) (hle ht ?_) (hle hp ?_) (hle hz ?_) ?_ ?_ (by rw [hr, textL, hd, ht, hp, hz]) w
  · unfold Parts.dateL; split
    · rw [List.length_take]; omega
    · simp
  · unfold Parts.timeL; split
    · rw [List.length_take, List.length_drop]; omega
    · simp
  · unfold Parts.partL; rw [List.length_take, List.length_drop]; omega
  · unfold Parts.zoneL; rw [List.length_take, List.length_drop]; omega
  all_goals
    rw [hz]
    rcases spl_cases s.data.toList with ⟨_, _, h⟩ | ⟨_, _, h⟩ | ⟨_, _, h⟩ | ⟨_, _, _, h⟩
    · rw [h]; simp [Parts.zoneL, Lib.toUpperA, upZ]
    · rw [h]; simp [Parts.zoneL, Lib.toUpperA, upZ]
    · rw [h]; simp [Parts.zoneL, Lib.toUpperA, upZ]
    · rw [h]; first | exact (zone_upper _ _).1 | exact (zone_upper _ _).2

theorem full_of {s : ByteArray} (h : s.data.toList ≠ []) : s.toList.isEmpty = false ∧ ¬ s.toList = [] := str_full (by
  have : s.data.toList.length = s.size := rfl
  have := List.length_pos_iff.2 h
  omega)

set_option maxHeartbeats 2000000 in
/-- Read of a text. -/
theorem iread_at (s r : ByteArray) (c : Int) (hs : s.size ≤ 549755813888) (hr : readD s.data.toList = (r.data.toList, c)) (w : World) :
    Calls Tryd.prog 21 #[.string s] w fun x w' => x = .returned (.tuple #[.string r, .int .i64 c]) ∧ Below w.heap.size w w' := by
  obtain ⟨d, t, p, z, hc⟩ := CutS.ex s
  obtain ⟨e, he⟩ : ∃ e, (spl s.data.toList).long = e := ⟨_, rfl⟩
  have hle := long_le s.data.toList
  have hl : s.data.toList.length = s.size := rfl
  have hS := Lib.hid (fun w => hc.split hs e he w)
  by_cases h0 : e = 0 ∨ e < s.size
  · have hx : r.data.toList = [] ∧ c = 3 := by
      rw [readD_syn (by rw [he]; exact h0)] at hr
      injection hr with h1 h2; exact ⟨h1.symm, h2.symm⟩
    obtain ⟨hx, rfl⟩ := hx
    obtain rfl := str_nil hx
    clear hx hr
    by_cases h1 : e = 0
    · have b0 : ((e : Int) == 0) = true := by simp [h1]
      clear h0 h1
      go_enter Tryd.func21, Tryd.ntmps21
      go_wp2_with (go_at_call 22; (with_reducible refine (hS.out _).mono ?_); rintro x w1 ⟨rfl, hb1⟩; have hz1 := hb1.size)
      go_ret2
      exact ⟨rfl, hb1.alloc hz1 _⟩
    · have b0 : ((e : Int) == 0) = false := by simp [h1]
      have b1 : e < s.size := h0.resolve_left h1
      clear h0 h1
      go_enter Tryd.func21, Tryd.ntmps21
      go_wp2_with (go_at_call 22; (with_reducible refine (hS.out _).mono ?_); rintro x w1 ⟨rfl, hb1⟩; have hz1 := hb1.size)
      go_ret2
      exact ⟨rfl, hb1.alloc hz1 _⟩
  · have he1 : e = s.size := by omega
    have hk : (spl s.data.toList).date = true ∨ (spl s.data.toList).time = true := by
      rcases spl_cases s.data.toList with ⟨_, _, h⟩ | ⟨_, _, h⟩ | ⟨_, _, h⟩ | ⟨_, _, _, h⟩
      · rw [h] at he; simp [Parts.long] at he; omega
      · rw [h]; exact .inr rfl
      · rw [h]; exact .inl rfl
      · rw [h]; exact .inl rfl
    have b0 : ((e : Int) == 0) = false := by simp; omega
    have b1 : ¬ (e : Int) < (s.size : Int) := by omega
    have b2 : decide ((e : Int) < (s.size : Int)) = false := by simp; omega
    cases hm : mayL s.data.toList
    · have hM := Lib.hid (fun w => hc.may hs hk (e : Int) false hm w)
      have hx : r.data.toList = [] ∧ c = 9 := by
        rw [readD_bad (by omega) (by omega) hm] at hr
        injection hr with h1 h2; exact ⟨h1.symm, h2.symm⟩
      obtain ⟨hx, rfl⟩ := hx
      obtain rfl := str_nil hx
      clear hx hr h0 he1 hk hm hle hl he hc
      go_enter Tryd.func21, Tryd.ntmps21
      go_wp2_with (first
        | (go_at_call 22; (with_reducible refine (hS.out _).mono ?_); rintro x w1 ⟨rfl, hb1⟩; have hz1 := hb1.size)
        | (go_at_call 32; (with_reducible refine (hM.out _).mono ?_); rintro x w2 ⟨rfl, hb2⟩))
      go_ret2
      exact ⟨rfl, (hb1.alloc hz1 _).trans (hb2.mono (by simp; omega))⟩
    · have hM := Lib.hid (fun w => hc.may hs hk (e : Int) true hm w)
      have hx : r.data.toList = textL s.data.toList ∧ c = 0 := by
        rw [readD_ok (by omega) (by omega) hm] at hr
        injection hr with h1 h2; exact ⟨h1.symm, h2.symm⟩
      obtain ⟨hx, rfl⟩ := hx
      have hT := Lib.hid (fun w => hc.text hs (e : Int) hx w)
      clear hx hr h0 he1 hk hm hle hl he hc
      go_enter Tryd.func21, Tryd.ntmps21
      go_wp2_with (first
        | (go_at_call 22; (with_reducible refine (hS.out _).mono ?_); rintro x w1 ⟨rfl, hb1⟩; have hz1 := hb1.size)
        | (go_at_call 32; (with_reducible refine (hM.out _).mono ?_); rintro x w2 ⟨rfl, hb2⟩; have H2 : Hid (CB w2 w1.heap.size d t p z (e : Int)) := CB.later (heap_new1 w1 _) hb2; obtain ⟨d0, d1, d2, d3, d4, df, dz⟩ := H2.out.facts)
        | (go_at_call 33; (with_reducible refine (hT.out _).mono ?_); rintro x w3 ⟨rfl, hb3⟩))
      go_ret2
      exact ⟨rfl, ((hb1.alloc hz1 _).trans (hb2.mono (by simp; omega))).trans (hb3.mono (by have := hb2.size; simp at this; omega))⟩

set_option maxHeartbeats 1000000 in
theorem ilong_at (s : ByteArray) (hs : s.size ≤ 549755813888) (e : Nat) (he : (spl s.data.toList).long = e) (w : World) :
    Calls Tryd.prog 23 #[.string s] w fun x w' => x = .returned (.int .i64 (e : Int)) ∧ Below w.heap.size w w' := by
  obtain ⟨d, t, p, z, hc⟩ := CutS.ex s
  have hS := Lib.hid (fun w => hc.split hs e he w)
  have hfd : ∀ w : World, (Instr.field 59 (.agg #[.string d, .string t, .string p, .string z, .int .i64 (e : Int)]) 4).run Tryd.prog w = .ok (.int .i64 (e : Int)) w := fun _ => by kernel_rfl
  clear he
  go_enter Tryd.func23, Tryd.ntmps23
  go_wp2_with (go_at_call 22; (with_reducible refine (hS.out _).mono ?_); rintro x w1 ⟨rfl, hb1⟩)
  go_ret
  exact ⟨rfl, hb1⟩

theorem kind_facts (s d t p z : ByteArray) (h : CutS s d t p z) : (kindP (spl s.data.toList) = if z.data.toList ≠ [] then 4 else if d.data.toList = [] then (if t.data.toList = [] then 0 else 2) else if t.data.toList = [] then 1 else 3) := by
  obtain ⟨hd, ht, hp, hz⟩ := h
  rcases spl_cases s.data.toList with ⟨hD, _, h⟩ | ⟨hD, hC, h⟩ | ⟨hD, hM, h⟩ | ⟨hD, hM, hC, h⟩
  · rw [hd, ht, hz, h]; simp [kindP, Parts.dateL, Parts.timeL, Parts.zoneL]
  · have h8 := isC_len hC
    rw [hd, ht, hz, h]
    have : ¬ s.data.toList = [] := by intro e; rw [e] at h8; simp at h8
    simp [kindP, Parts.dateL, Parts.timeL, Parts.zoneL, this]
  · have h10 := isD_len hD
    rw [hd, ht, hz, h]
    have : ¬ s.data.toList = [] := by intro e; rw [e] at h10; simp at h10
    simp [kindP, Parts.dateL, Parts.timeL, Parts.zoneL, this]
  · have h19 := isC_len hC
    have hpn := partN_le s.data.toList 19 (by omega)
    have hzl := zoneN_le s.data.toList _ hpn
    have e1 : d.data.toList ≠ [] := by rw [hd, h]; intro q; have := congrArg List.length q; simp only [Parts.dateL, if_true, List.length_take, List.length_nil] at this; omega
    have e2 : t.data.toList ≠ [] := by rw [ht, h]; intro q; have := congrArg List.length q; simp only [Parts.timeL, if_true, List.length_take, List.length_drop, List.length_nil] at this; omega
    have e3 : z.data.toList.length = zoneN s.data.toList (19 + pN (partN s.data.toList 19)) := by rw [hz, h]; simp only [Parts.zoneL, Parts.zAt, List.length_take, List.length_drop]; omega
    rw [h, kindP]
    by_cases hz0 : zoneN s.data.toList (19 + pN (partN s.data.toList 19)) = 0
    · have : z.data.toList = [] := List.length_eq_zero_iff.1 (by omega)
      simp [hz0, this, e1, e2]
    · have : z.data.toList ≠ [] := by intro q; rw [q] at e3; simp at e3; omega
      simp [hz0, this]

theorem ret_k8 {a b : Nat} (h : a = b) : Ending.returned (.int .u8 (a : Int)) = .returned (.int .u8 (b : Int)) := by rw [h]
set_option maxHeartbeats 2000000 in
theorem iof_at (s : ByteArray) (hs : s.size ≤ 549755813888) (k : Nat) (hk : ofD s.data.toList = k) (w : World) :
    Calls Tryd.prog 9 #[.string s] w fun x w' => x = .returned (.int .u8 (k : Int)) ∧ Below w.heap.size w w' := by
  obtain ⟨d, t, p, z, hc⟩ := CutS.ex s
  obtain ⟨e, he⟩ : ∃ e, (spl s.data.toList).long = e := ⟨_, rfl⟩
  have hS := Lib.hid (fun w => hc.split hs e he w)
  obtain ⟨r, hr⟩ := str_ex (readD s.data.toList).1
  obtain ⟨c, hcc⟩ : ∃ c, (readD s.data.toList).2 = c := ⟨_, rfl⟩
  have hR := Lib.hid (fun w => iread_at s r c hs (by rw [hr, ← hcc]) w)
  have hK := kind_facts s d t p z hc
  have hO : Hid (k = if r.data.toList = s.data.toList ∧ c = 0 then kindP (spl s.data.toList) else 0) := by
    show _ = _
    rw [← hk, ofD]
    have e1 : readD s.data.toList = (r.data.toList, c) := by rw [hr, ← hcc]
    rw [e1]
    by_cases h : r.data.toList = s.data.toList ∧ c = 0
    · rw [if_pos h, if_pos (by rw [h.1, h.2])]
    · rw [if_neg h, if_neg (by intro q; injection q with q1 q2; exact h ⟨q1, q2⟩)]
  have hne : c = 0 → d.data.toList = [] → t.data.toList ≠ [] := by
    intro h0 hd ht
    obtain ⟨gd, gt, gp, gz⟩ := hc
    rcases spl_cases s.data.toList with ⟨_, _, h⟩ | ⟨_, hC, h⟩ | ⟨hD, _, h⟩ | ⟨hD, _, _, h⟩
    · rw [readD_syn (.inl (by rw [h]; rfl))] at hcc
      rw [← hcc] at h0; exact absurd h0 (by decide)
    · have := isC_len hC
      rw [gt, h] at ht
      have := congrArg List.length ht; simp only [Parts.timeL, if_true, List.length_take, List.length_drop, List.length_nil] at this; omega
    · have := isD_len hD
      rw [gd, h] at hd
      have := congrArg List.length hd; simp only [Parts.dateL, if_true, List.length_take, List.length_nil] at this; omega
    · have := isD_len hD
      rw [gd, h] at hd
      have := congrArg List.length hd; simp only [Parts.dateL, if_true, List.length_take, List.length_nil] at this; omega
  clear hk hr hcc he hc
  by_cases h0 : c = 0
  · have b0 : (c != 0) = false := by simp [h0]
    by_cases h1 : r.data.toList = s.data.toList
    · have hkk : k = kindP (spl s.data.toList) := by rw [hO.out, if_pos ⟨h1, h0⟩]
      rw [hK] at hkk
      obtain rfl := str_of h1
      have h0' := h0
      clear hO h0 h1 hK
      by_cases hz : z.data.toList = []
      · obtain rfl := str_nil hz
        rw [if_neg (by simp)] at hkk
        clear hz
        by_cases hd : d.data.toList = []
        · rw [if_pos hd, if_neg (hne h0' hd)] at hkk
          obtain rfl := str_nil hd
          clear hd hne h0'
          have hkk := Lib.hid hkk
          go_enter Tryd.func9, Tryd.ntmps9
          go_wp2_with (first
            | (go_at_call 21; (with_reducible refine (hR.out _).mono ?_); rintro x w0 ⟨rfl, hb0⟩; have hz0 := hb0.size)
            | (go_at_call 22; (with_reducible refine (hS.out _).mono ?_); rintro x w1 ⟨rfl, hb1⟩; have hz1 := hb1.size))
          go_ret
          exact ⟨ret_k8 (a := 2) hkk.out.symm, hb0.trans ((hb1.mono hz0).alloc (by omega) _)⟩
        · rw [if_neg hd] at hkk
          clear hne h0'
          obtain ⟨d1, d2⟩ := full_of hd
          by_cases ht : t.data.toList = []
          · rw [if_pos ht] at hkk
            obtain rfl := str_nil ht
            clear ht hd
            have hkk := Lib.hid hkk
            go_enter Tryd.func9, Tryd.ntmps9
            go_wp2_with (first
              | (go_at_call 21; (with_reducible refine (hR.out _).mono ?_); rintro x w0 ⟨rfl, hb0⟩; have hz0 := hb0.size)
              | (go_at_call 22; (with_reducible refine (hS.out _).mono ?_); rintro x w1 ⟨rfl, hb1⟩; have hz1 := hb1.size))
            go_ret
            exact ⟨ret_k8 (a := 1) hkk.out.symm, hb0.trans ((hb1.mono hz0).alloc (by omega) _)⟩
          · rw [if_neg ht] at hkk
            obtain ⟨t1, t2⟩ := full_of ht
            clear ht hd
            have hkk := Lib.hid hkk
            go_enter Tryd.func9, Tryd.ntmps9
            go_wp2_with (first
              | (go_at_call 21; (with_reducible refine (hR.out _).mono ?_); rintro x w0 ⟨rfl, hb0⟩; have hz0 := hb0.size)
              | (go_at_call 22; (with_reducible refine (hS.out _).mono ?_); rintro x w1 ⟨rfl, hb1⟩; have hz1 := hb1.size))
            go_ret
            exact ⟨ret_k8 (a := 3) hkk.out.symm, hb0.trans ((hb1.mono hz0).alloc (by omega) _)⟩
      · rw [if_pos hz] at hkk
        clear hne h0'
        obtain ⟨z1, z2⟩ := full_of hz
        clear hz
        have hkk := Lib.hid hkk
        go_enter Tryd.func9, Tryd.ntmps9
        go_wp2_with (first
          | (go_at_call 21; (with_reducible refine (hR.out _).mono ?_); rintro x w0 ⟨rfl, hb0⟩; have hz0 := hb0.size)
          | (go_at_call 22; (with_reducible refine (hS.out _).mono ?_); rintro x w1 ⟨rfl, hb1⟩; have hz1 := hb1.size))
        go_ret
        exact ⟨ret_k8 (a := 4) hkk.out.symm, hb0.trans ((hb1.mono hz0).alloc (by omega) _)⟩
    · have hkk : Hid (k = 0) := by show _ = _; rw [hO.out, if_neg (fun q => h1 q.1)]
      have b1 : (r.toList == s.toList) = false := by rw [ByteArray.toList_eq, ByteArray.toList_eq]; simpa using h1
      have b2 : (r.toList != s.toList) = true := by rw [bne, b1]; rfl
      clear hO h0 h1 hK hne
      go_enter Tryd.func9, Tryd.ntmps9
      go_wp2_with (go_at_call 21; (with_reducible refine (hR.out _).mono ?_); rintro x w0 ⟨rfl, hb0⟩)
      go_ret
      exact ⟨ret_k8 (a := 0) hkk.out.symm, hb0⟩
  · have hkk : Hid (k = 0) := by show _ = _; rw [hO.out, if_neg (fun q => h0 q.2)]
    have b0 : (c != 0) = true := by simp [h0]
    clear hO h0 hK hne
    go_enter Tryd.func9, Tryd.ntmps9
    go_wp2_with (go_at_call 21; (with_reducible refine (hR.out _).mono ?_); rintro x w0 ⟨rfl, hb0⟩)
    go_ret
    exact ⟨ret_k8 (a := 0) hkk.out.symm, hb0⟩

end Go.Proofs.YtgchhogdbigafaaDoor
