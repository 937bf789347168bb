/- The walk of the law DatesRead; no statement of the seat is proved here. -/
import Derived.Test.YtnoghelkcbjfiaaGreatDoorDtH
import Derived.Test.YtnoghelkcbjfiaaGreatDoorDtY
namespace Go.Proofs.YtnoghelkcbjfiaaGreatDoor
open Go.RowKit

theorem of_le (l : List UInt8) : ofD l ≤ 4 := by
  unfold ofD; split
  · unfold kindP
    split
    · omega
    · split
      · split <;> omega
      · split <;> omega
  · omega
theorem text_len (d t p z : List UInt8) : (textOf d t p z).length ≤ d.length + t.length + p.length + z.length + 2 := by
  have h1 := rstrip_le p
  have h2 := upZ_len z
  have h3 : (dotP (rstrip p)).length ≤ p.length + 1 := by unfold dotP; split <;> simp <;> omega
  unfold textOf
  simp only [List.length_append, h2]
  split <;> simp <;> omega
theorem read_len (l : List UInt8) : (readD l).1.length ≤ 4 * l.length + 2 := by
  unfold readD
  split
  · simp
  · split
    · have h := text_len ((spl l).dateL l) ((spl l).timeL l) ((spl l).partL l) ((spl l).zoneL l)
      have h1 : ((spl l).dateL l).length ≤ l.length := by
        unfold Parts.dateL; split
        · rw [List.length_take]; omega
        · simp
      have h2 : ((spl l).timeL l).length ≤ l.length := by
        unfold Parts.timeL; split
        · rw [List.length_take, List.length_drop]; omega
        · simp
      have h3 : ((spl l).partL l).length ≤ l.length := by unfold Parts.partL; rw [List.length_take, List.length_drop]; omega
      have h4 : ((spl l).zoneL l).length ≤ l.length := by unfold Parts.zoneL; rw [List.length_take, List.length_drop]; omega
      show (textL l).length ≤ _
      unfold textL
      omega
    · simp

set_option maxRecDepth 100000 in
set_option maxHeartbeats 2000000 in
theorem readlaw_walk (s : ByteArray) (w : World) :
    Calls Tryz.prog 3 #[.string s] w fun e w' => e = .returned (.bool true) ∧ Below w.heap.size w w' := by
  by_cases hbig : 500 < s.size
  · go_enter Tryz.func3, Tryz.ntmps3
    go_wp2_with (go_at_call 4; refine (lives_any _).mono ?_; rintro e w1 ⟨rfl, hb1⟩)
    go_ret
    exact ⟨rfl, hb1⟩
  · have hs : s.size ≤ 549755813888 := by omega
    obtain ⟨r, hr⟩ := str_ex (readD s.data.toList).1
    obtain ⟨c, hc⟩ : ∃ c, (readD s.data.toList).2 = c := ⟨_, rfl⟩
    have hrs : r.size ≤ 549755813888 := by
      have h1 : r.data.toList.length = r.size := rfl
      have h2 := read_len s.data.toList
      rw [hr] at h1; rw [size_list] at h2; omega
    obtain ⟨k, hk⟩ : ∃ k, ofD s.data.toList = k := ⟨_, rfl⟩
    obtain ⟨k', hk'⟩ : ∃ k', ofD r.data.toList = k' := ⟨_, rfl⟩
    obtain ⟨n, hn⟩ : ∃ n, (spl s.data.toList).long = n := ⟨_, rfl⟩
    have hle : n ≤ s.size := by have := long_le s.data.toList; rw [hn, size_list] at this; exact this
    have hkl : k ≤ 4 := by rw [← hk]; exact of_le _
    have hkl' : k' ≤ 4 := by rw [← hk']; exact of_le _
    have R1 := Lib.hid (fun w => iread_at s r c hs (by rw [hr, ← hc]) w)
    have R2 : Hid (∀ w, Calls Tryz.prog 6 #[.string s] w fun e w' => e = .returned (.tuple #[.string r, .int .i64 c]) ∧ Below w.heap.size w w') := fun w => by
      have := rread_is s hs w
      rw [← hr, hc] at this
      exact this
    have O1 := Lib.hid (fun w => iof_at s hs k hk w)
    have O2 : Hid (∀ w, Calls Tryz.prog 8 #[.string s] w fun e w' => e = .returned (.int .i64 (k : Int)) ∧ Below w.heap.size w w') := fun w => by
      have := rof_is s hs w
      rwa [hk] at this
    have O3 := Lib.hid (fun w => iof_at r hrs k' hk' w)
    have O4 : Hid (∀ w, Calls Tryz.prog 8 #[.string r] w fun e w' => e = .returned (.int .i64 (k' : Int)) ∧ Below w.heap.size w w') := fun w => by
      have := rof_is r hrs w
      rwa [hk'] at this
    have L1 := Lib.hid (fun w => ilong_at s hs n hn w)
    have L2 : Hid (∀ w, Calls Tryz.prog 10 #[.string s] w fun e w' => e = .returned (.int .i64 (n : Int)) ∧ Below w.heap.size w w') := fun w => by
      have := rlong_is s hs w
      rwa [hn] at this
    clear hr hc hk hk' hn hrs
    have HB : Hid (Below w.heap.size w w) := Below.refl _ _
    go_enter Tryz.func3, Tryz.ntmps3
    go_wp2_with (first
      | (go_at_call 5; (with_reducible refine (R1.out _).mono ?_); rintro x w' ⟨rfl, hb'⟩; replace HB := Lib.hid (HB.out.trans (hb'.mono HB.out.size)); clear hb')
      | (go_at_call 6; (with_reducible refine (R2.out _).mono ?_); rintro x w' ⟨rfl, hb'⟩; replace HB := Lib.hid (HB.out.trans (hb'.mono HB.out.size)); clear hb')
      | (go_at_call 7; (first | (with_reducible refine (O1.out _).mono ?_) | (with_reducible refine (O3.out _).mono ?_)); rintro x w' ⟨rfl, hb'⟩; replace HB := Lib.hid (HB.out.trans (hb'.mono HB.out.size)); clear hb')
      | (go_at_call 8; (first | (with_reducible refine (O2.out _).mono ?_) | (with_reducible refine (O4.out _).mono ?_)); rintro x w' ⟨rfl, hb'⟩; replace HB := Lib.hid (HB.out.trans (hb'.mono HB.out.size)); clear hb')
      | (go_at_call 9; (with_reducible refine (L1.out _).mono ?_); rintro x w' ⟨rfl, hb'⟩; replace HB := Lib.hid (HB.out.trans (hb'.mono HB.out.size)); clear hb')
      | (go_at_call 10; (with_reducible refine (L2.out _).mono ?_); rintro x w' ⟨rfl, hb'⟩; replace HB := Lib.hid (HB.out.trans (hb'.mono HB.out.size)); clear hb')
      | (go_at_call 4; (with_reducible refine (lives_any _).mono ?_); rintro x w' ⟨rfl, hb'⟩; replace HB := Lib.hid (HB.out.trans (hb'.mono HB.out.size)); clear hb'))
    go_ret
    exact ⟨rfl, HB.out⟩

end Go.Proofs.YtnoghelkcbjfiaaGreatDoor
