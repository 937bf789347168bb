/- Walks over package decimals: the taker's closures, within; no statement of the seat is proved here. -/
import Derived.Test.YtncldnghhpdolaaGreatDoorDcN
import Derived.Test.YtncldnghhpdolaaGreatDoorShelf
import Derived.Lib.OthersKept
namespace Go.Proofs.YtncldnghhpdolaaGreatDoor
open Go.RowKit

theorem ext_list (s : ByteArray) (i j : Nat) : (s.extract i j).data.toList = (s.data.toList.drop i).take (j - i) := by
  rw [ByteArray.data_extract, Array.toList_extract]
theorem ext_end (s : ByteArray) (i : Nat) : (s.extract i s.size).data.toList = s.data.toList.drop i := by
  rw [ext_list, List.take_of_length_le (by simp)]
theorem str_of {a b : ByteArray} (h : a.data.toList = b.data.toList) : a = b := by
  cases a; cases b; simp at h; rw [h]
theorem str_is {a : ByteArray} {l : List UInt8} (h : a.data.toList = l) : a = ⟨l.toArray⟩ := str_of (by simpa using h)
theorem ret_str {a b : ByteArray} (h : a.data.toList = b.data.toList) : Ending.returned (.string a) = .returned (.string b) := by rw [str_of h]
theorem size_list (s : ByteArray) : s.data.toList.length = s.size := rfl
theorem run_idx (s : ByteArray) (k : Nat) (h : k < s.size) : s.data.toList[k]'h = s[k] := rfl
theorem str_ex (l : List UInt8) : ∃ s : ByteArray, s.data.toList = l := ⟨⟨l.toArray⟩, rfl⟩
theorem str_nil {s : ByteArray} (h : s.data.toList = []) : s = ⟨#[]⟩ := str_is h
theorem str_full {t : ByteArray} (h : 0 < t.size) : t.toList.isEmpty = false ∧ ¬ t.toList = [] := by
  have e : t.toList = t.data.toList := ByteArray.toList_eq t
  have : t.data.toList ≠ [] := by
    intro q
    have h1 : t.data.toList.length = t.size := rfl
    rw [q] at h1; simp at h1; omega
  rw [e]
  exact ⟨by simpa using this, this⟩
theorem full_of {s : ByteArray} (h : s.data.toList ≠ []) : s.toList.isEmpty = false ∧ ¬ s.toList = [] := str_full (by
  have : s.data.toList.length = s.size := rfl
  have := List.length_pos_iff.2 h
  omega)
theorem beq_str {a b : ByteArray} (h : a.data.toList ≠ b.data.toList) : (a.toList == b.toList) = false := by
  rw [ByteArray.toList_eq, ByteArray.toList_eq]; simpa using h
theorem beq_strT {a b : ByteArray} (h : a.data.toList = b.data.toList) : (a.toList == b.toList) = true := by
  rw [ByteArray.toList_eq, ByteArray.toList_eq]; simpa using h

theorem ixS (set : ByteArray) (c : Int) (x : UInt8) (hc : c = (x.toNat : Int)) (v : Int) (hv : Lib.indexByte set.data.toList x = v) (w : World) :
    Calls Tryz.prog 95 #[.string set, .int .u8 c] w fun e w' => e = .returned (.int .i64 v) ∧ w = w' := by
  have h := Tryz.strings_IndexByte set c w
  subst hc hv
  have e : ((x.toNat : Int)).toNat.toUInt8 = x := by simp
  rw [e] at h
  exact h.mono fun _ _ ⟨h1, h2⟩ => ⟨h1, h2.symm⟩

theorem tkN_yes {p : UInt8 → Bool} {m : Nat} {l : List UInt8} {k : Nat} (hk : k < l.length) (hm : 0 < m) (hp : p l[k] = true) : tkN p m (l.drop k) = 1 + tkN p (m - 1) (l.drop (k + 1)) := by
  unfold tkN
  rw [List.drop_eq_getElem_cons hk]
  obtain ⟨m, rfl⟩ : ∃ n, m = n + 1 := ⟨m - 1, by omega⟩
  rw [List.take_succ_cons, List.takeWhile_cons_of_pos hp, List.length_cons, Nat.add_sub_cancel, Nat.add_comm]
theorem tkN_no {p : UInt8 → Bool} {m : Nat} {l : List UInt8} {k : Nat} (hk : k < l.length) (hp : p l[k] = false) : tkN p m (l.drop k) = 0 := by
  unfold tkN
  rw [List.drop_eq_getElem_cons hk]
  cases m with
  | zero => simp
  | succ m => rw [List.take_succ_cons, List.takeWhile_cons_of_neg (by simp [hp])]; rfl
theorem tkN_end {p : UInt8 → Bool} {m : Nat} {l : List UInt8} {k : Nat} (hk : l.length ≤ k ∨ m = 0) : tkN p m (l.drop k) = 0 := by
  unfold tkN
  rcases hk with hk | rfl
  · rw [List.drop_eq_nil_of_le hk]; simp
  · simp

/-- The taker's text lies in a block of one cell. -/
def TB (w : World) (n : Nat) (s : ByteArray) : Prop := w.heap[n]? = some (.cells #[.string s] 9 (0, 0))
theorem TB.facts {w : World} {n : Nat} {s : ByteArray} (h : TB w n s) : w.cell? ⟨n, 0, none⟩ = some (.string s) ∧ w.frozen? ⟨n, 0, none⟩ = false ∧ n < w.heap.size := ⟨blk_cell h 0, blk_frozen h 0, blk_lt h⟩

set_option maxHeartbeats 1000000 in
theorem take_is (set s : ByteArray) (p : UInt8 → Bool) (hp : ∀ c, decide (0 ≤ Lib.indexByte set.data.toList c) = p c) (m : Nat) (hm : m ≤ 1099511627776) (hs : s.size ≤ 1099511627776) (n : Nat) (hn : tkN p m s.data.toList = n) (B : Nat) (w : World) (hB : TB w B s) :
    Calls Tryz.prog 94 #[.string set, .int .i64 (m : Int), .pointer (some ⟨B, 0, none⟩)] w fun e w' => e = .returned (.string (s.extract 0 n)) ∧ w' = w.setCell ⟨B, 0, none⟩ (.string (s.extract n s.size)) := by
  obtain ⟨c0, f0, _⟩ := hB.facts
  have hns : n ≤ s.size := by rw [← hn]; exact tkN_le _ _ _
  have HP := Lib.hid hp; clear hp
  have HN := Lib.hid hn; clear hn
  go_enter Tryz.func94, Tryz.ntmps94
  go_wp2
  go_loop [6] (fun i => ∃ k : Nat, k ≤ s.size ∧ k ≤ m ∧ i = .int .i64 k ∧ Hid (k + tkN p (m - k) (s.data.toList.drop k) = n)) (fun i => s.size - (intOf i).toNat)
  case atStart => exact ⟨0, by omega, by omega, rfl, by show _ = _; rw [List.drop_zero, Nat.sub_zero, HN.out]; omega⟩
  case round =>
    obtain ⟨k, hk, hkm, rfl, hr⟩ := hrel
    by_cases h1 : k < s.size
    · by_cases h2 : k < m
      · have b2 : decide ((k : Int) < (m : Int)) = true := by simp; omega
        obtain ⟨v, hv⟩ : ∃ v, Lib.indexByte set.data.toList s[k] = v := ⟨_, rfl⟩
        have hpv := HP.out s[k]
        rw [hv] at hpv
        have HC := Lib.hid (fun w => ixS set _ s[k] rfl v hv w)
        clear hv
        cases hpk : p s[k]
        · have HE : Hid (k = n) := by
            show _ = _
            rw [← hr.out, tkN_no (show k < s.data.toList.length from h1) hpk]; rfl
          have hv0 : v < 0 := by rw [hpk] at hpv; simpa using hpv
          clear hpv hpk hr
          go_wp2_with (go_at_call 95; (with_reducible refine (HC.out _).mono ?_); rintro e w' ⟨rfl, rfl⟩)
          go_ret
          rw [← HE.out]
          exact ⟨rfl, rfl⟩
        · have HE : Hid (k + 1 + tkN p (m - (k + 1)) (s.data.toList.drop (k + 1)) = n) := by
            show _ = _
            rw [← hr.out, tkN_yes (m := m - k) (show k < s.data.toList.length from h1) (by omega) hpk, show m - (k + 1) = m - k - 1 by omega]; omega
          have hv0 : 0 ≤ v := by rw [hpk] at hpv; simpa using hpv
          clear hpv hpk hr
          go_wp2_with (go_at_call 95; (with_reducible refine (HC.out _).mono ?_); rintro e w' ⟨rfl, rfl⟩)
          go_round
          case rel => exact ⟨k + 1, by omega, by omega, by go_num, HE⟩
          case measure => simp [intOf]; omega
      · have b2 : decide ((k : Int) < (m : Int)) = false := by simp; omega
        have HE : Hid (k = n) := by
          show _ = _
          rw [← hr.out, tkN_end (.inr (by omega))]; rfl
        clear hr
        go_wp2
        go_ret
        rw [← HE.out]
        exact ⟨rfl, rfl⟩
    · have HE : Hid (k = n) := by
        show _ = _
        rw [← hr.out, tkN_end (.inl (by rw [size_list]; omega))]; rfl
      clear hr
      go_wp2
      go_ret
      rw [← HE.out]
      exact ⟨rfl, rfl⟩

theorem over_is (s : ByteArray) (b : Bool) (hb : s.data.toList.isEmpty = b) (B : Nat) (w : World) (hB : TB w B s) :
    Calls Tryz.prog 96 #[.pointer (some ⟨B, 0, none⟩)] w fun e w' => e = .returned (.bool b) ∧ w = w' := by
  obtain ⟨c0, _, _⟩ := hB.facts
  have e0 : s.toList = s.data.toList := ByteArray.toList_eq s
  have hb' : s.toList.isEmpty = b := by rw [e0]; exact hb
  clear hb e0
  go_enter Tryz.func96, Tryz.ntmps96
  go_wp2
  go_ret
  exact ⟨rfl, rfl⟩

theorem within_is (n : Int) (b : Bool) (hb : inB n = b) (w : World) :
    Calls Tryz.prog 39 #[.int .i64 n] w fun e w' => e = .returned (.bool b) ∧ w = w' := by
  subst hb
  by_cases h1 : -1000000000 ≤ n
  · by_cases h2 : n ≤ 1000000000
    · have : inB n = true := inB_t.2 ⟨h1, h2⟩
      rw [this]
      go_enter Tryz.func39, Tryz.ntmps39
      go_wp2
      go_ret
      exact ⟨rfl, rfl⟩
    · have : inB n = false := by unfold inB; exact decide_eq_false (fun q => h2 q.2)
      rw [this]
      go_enter Tryz.func39, Tryz.ntmps39
      go_wp2
      go_ret
      exact ⟨rfl, rfl⟩
  · have : inB n = false := by unfold inB; exact decide_eq_false (fun q => h1 q.1)
    rw [this]
    go_enter Tryz.func39, Tryz.ntmps39
    go_wp2
    go_ret
    exact ⟨rfl, rfl⟩

end Go.Proofs.YtncldnghhpdolaaGreatDoor
