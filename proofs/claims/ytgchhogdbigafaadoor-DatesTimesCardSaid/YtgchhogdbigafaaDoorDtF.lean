/- Walks over package dates: text; no statement of the seat is proved here. -/
import Derived.Test.YtgchhogdbigafaaDoorDtE
namespace Go.Proofs.YtgchhogdbigafaaDoor
open Go.RowKit

theorem trimR_is (s u : ByteArray) (hs : s.size ≤ 1099511627776) (hu : u.data.toList = rstrip s.data.toList) (w : World) :
    Calls Tryd.prog 5 #[.string s, .string ⟨#[48]⟩] w fun e w' => e = .returned (.string u) ∧ w = w' := by
  have h := Tryd.strings_TrimRight_one s 48 (by decide) w (by omega)
  have e : (⟨(Lib.trimRightB s.data.toList 48).toArray⟩ : ByteArray) = u := (str_is hu).symm
  rw [e] at h
  exact h.mono fun _ _ ⟨h1, h2⟩ => ⟨h1, h2.symm⟩
theorem upper_is (s u : ByteArray) (hs : s.size ≤ 1099511627776) (hu : u.data.toList = Lib.toUpperA s.data.toList) (ha : ∀ b ∈ s.data.toList, b.toNat < 128) (w : World) :
    Calls Tryd.prog 47 #[.string s] w fun e w' => e = .returned (.string u) ∧ Below w.heap.size w w' := by
  have h := Tryd.strings_ToUpper_ascii s w (by omega) (fun j b hb => ha b (List.mem_of_getElem? hb))
  rw [← str_is hu] at h
  exact h

theorem str_cases (s : ByteArray) : s = ⟨#[]⟩ ∨ (0 < s.size ∧ s.toList.isEmpty = false ∧ ¬ s.toList = []) := by
  rcases Nat.eq_zero_or_pos s.size with h | h
  · exact .inl (str_is (List.length_eq_zero_iff.1 h))
  · exact .inr ⟨h, str_full h⟩
theorem full_ne {s : ByteArray} (h : 0 < s.size) : s.data.toList ≠ [] := fun e => by
  have : s.data.toList.length = s.size := rfl
  rw [e] at this; simp at this; omega

theorem rstrip_le (l : List UInt8) : (rstrip l).length ≤ l.length := by
  unfold rstrip
  have := (List.dropWhile_sublist (fun x : UInt8 => x == 48) (l := l.reverse)).length_le
  simpa using this
theorem upZ_len (l : List UInt8) : (upZ l).length = l.length := by
  unfold upZ; split
  · rename_i h; rw [h]; rfl
  · rfl
set_option maxHeartbeats 4000000 in
theorem text_is (d t p z r : ByteArray) (e : Int) (hd : d.size ≤ 549755813888) (ht : t.size ≤ 549755813888) (hp : p.size ≤ 549755813888) (hz : z.size ≤ 549755813888)
    (hu : Lib.toUpperA z.data.toList = upZ z.data.toList) (ha : ∀ b ∈ z.data.toList, b.toNat < 128) (hr : r.data.toList = textOf d.data.toList t.data.toList p.data.toList z.data.toList) (w : World) :
    Calls Tryd.prog 33 #[.agg #[.string d, .string t, .string p, .string z, .int .i64 e]] w fun x w' => x = .returned (.string r) ∧ Below w.heap.size w w' := by
  obtain ⟨q, hq⟩ : ∃ q : ByteArray, q.data.toList = rstrip p.data.toList := ⟨⟨(rstrip p.data.toList).toArray⟩, rfl⟩
  obtain ⟨y, hy⟩ : ∃ y : ByteArray, y.data.toList = upZ z.data.toList := ⟨⟨(upZ z.data.toList).toArray⟩, rfl⟩
  have hTr := Lib.hid (fun w => trimR_is p q (by omega) hq w)
  have hUp := Lib.hid (fun w => upper_is z y (by omega) (by rw [hy, hu]) ha w)
  have HR : Hid (r.data.toList = d.data.toList ++ ((if d.data.toList ≠ [] ∧ t.data.toList ≠ [] then [84] else []) ++ (t.data.toList ++ (dotP q.data.toList ++ y.data.toList)))) := by
    show _ = _; rw [hr, textOf, hq, hy]
  have HC : Hid (CB (w.alloc (.cells #[.string d, .string t, .string p, .string z, .int .i64 e] 59)) w.heap.size d t p z e) := heap_new1 w _
  have hql : q.size ≤ 549755813888 := by
    have h1 : q.data.toList.length = q.size := rfl
    have h2 : p.data.toList.length = p.size := rfl
    have := rstrip_le p.data.toList
    rw [hq] at h1; omega
  have hyl : y.size ≤ 549755813888 := by
    have h1 : y.data.toList.length = y.size := rfl
    have h2 : z.data.toList.length = z.size := rfl
    have := upZ_len z.data.toList
    rw [hy] at h1; omega
  clear hq hy hu ha hr
  have HD := str_cases d
  have HT := str_cases t
  have HQ := str_cases q
  rcases HD with rfl | ⟨d1, d2, d3⟩ <;> rcases HT with rfl | ⟨t1, t2, t3⟩ <;> rcases HQ with rfl | ⟨q1, q2, q3⟩
  all_goals (
    obtain ⟨c0, c1, c2, c3, c4, cf, cz⟩ := HC.out.facts
    go_enter Tryd.func33, Tryd.ntmps33
    go_wp2_with (first
      | (go_at_call 5; (with_reducible refine (hTr.out _).mono ?_); rintro x w1 ⟨rfl, rfl⟩)
      | (go_at_call 47; (with_reducible refine (hUp.out _).mono ?_); rintro x w2 ⟨rfl, hb2⟩))
    go_ret
    refine ⟨ret_str ?_, (below_new1 w _).trans (hb2.mono (by simp))⟩
    rw [HR.out]
    try have d4 := full_ne d1
    try have t4 := full_ne t1
    try have q4 := full_ne q1
    simp [dotP, *])

end Go.Proofs.YtgchhogdbigafaaDoor
