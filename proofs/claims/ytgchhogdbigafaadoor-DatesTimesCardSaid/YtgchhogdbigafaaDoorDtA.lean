/- Walks over package dates: form, digits, clock, after, zone; no statement of the seat is proved here. -/
import Derived.Test.YtgchhogdbigafaaDoorDtP
import Derived.Test.YtgchhogdbigafaaDoorPre
import Derived.Lib.OthersKept
import Derived.Laws.RangeAny
import Derived.Shelf.Strings.SlTrimAscii
namespace Go.Proofs.YtgchhogdbigafaaDoor
open Go.RowKit

theorem ext_list (s : ByteArray) (i j : Nat) : (s.extract i j).data.toList = (s.data.toList.drop i).take (j - i) := by
  rw [ByteArray.data_extract, Array.toList_extract]
theorem ext_end (s : ByteArray) (i : Nat) : (s.extract i s.size).data.toList = s.data.toList.drop i := by
  rw [ext_list, List.take_of_length_le (by simp)]
theorem str_of {a b : ByteArray} (h : a.data.toList = b.data.toList) : a = b := by
  cases a; cases b; simp at h; rw [h]
theorem str_is {a : ByteArray} {l : List UInt8} (h : a.data.toList = l) : a = ⟨l.toArray⟩ := str_of (by simpa using h)
theorem ret_str {a b : ByteArray} (h : a.data.toList = b.data.toList) : Ending.returned (.string a) = .returned (.string b) := by rw [str_of h]
theorem size_list (s : ByteArray) : s.data.toList.length = s.size := rfl

theorem run_idx (s : ByteArray) (k : Nat) (h : k < s.size) : s.data.toList[k]'h = s[k] := rfl

set_option maxHeartbeats 1000000 in
theorem form_is (s f t : ByteArray) (_hs : s.size ≤ 1099511627776) (hf : f.size ≤ 100) (hasc : ∀ k (h : k < f.size), f[k].toNat < 128) (ht : t.data.toList = formL s.data.toList f.data.toList) (w : World) :
    Calls Tryd.prog 34 #[.string s, .string f] w fun e w' => e = .returned (.string t) ∧ Below w.heap.size w w' := by
  have HT := Lib.hid ht; clear ht
  have HA := Lib.hid hasc; clear hasc
  by_cases hl : f.size ≤ s.size
  · have b0 : decide (s.size < f.size) = false := by simp; omega
    go_enter Tryd.func34, Tryd.ntmps34
    go_wp2
    go_loopw [] (fun wr => ∃ k : Nat, wr.heap[w.heap.size]? = some (.stringIter f k) ∧ k ≤ f.size ∧ Below w.heap.size w wr ∧ Hid (fit (f.data.toList.drop k) (s.data.toList.drop k) = fit f.data.toList s.data.toList)) (fun wr => f.size - wr.iterPos w.heap.size)
    case atStart => exact ⟨0, World.iter_heap w f 0, by omega, (Below.refl _ w).alloc (Nat.le_refl _) _, rfl⟩
    case round =>
      obtain ⟨k, hit, hk, hbw, hr⟩ := hrel
      have hsz : w.heap.size < wr.heap.size := (Array.getElem?_eq_some_iff.1 hit).1
      by_cases hp : k < f.size
      · have hks : k < s.size := by omega
        have hnx : ∀ ty, (Instr.next (.pointer (some ⟨w.heap.size, 0, none⟩)) true ty).run Tryd.prog wr = _ := fun ty => Lib.run_next_ascii_at wr w.heap.size f k ty hit hp (HA.out k hp)
        have hit2 := Lib.iterAt_heap wr w.heap.size f k (k + 1) hit
        have hbw2 := Lib.below_iterAt hbw (k := w.heap.size) (by omega) f (k + 1)
        have hstep : Hid (fit (f.data.toList.drop k) (s.data.toList.drop k) = ((if f[k] = 57 then dgN s[k].toNat else decide (s[k] = f[k])) && fit (f.data.toList.drop (k + 1)) (s.data.toList.drop (k + 1)))) := by
          show _ = _
          rw [List.drop_eq_getElem_cons (show k < f.data.toList.length from hp), List.drop_eq_getElem_cons (show k < s.data.toList.length from hks), fit]
          rfl
        have hlen : f.data.toList.length = f.size := rfl
        have hstop : ∀ {P : Prop}, fit (f.data.toList.drop k) (s.data.toList.drop k) = false → t.data.toList = [] := fun {_} h => by
          rw [HT.out, formL, if_neg (by rw [← hr.out, h]; simp)]
        have hnext : ∀ {P : Prop}, (if f[k] = 57 then dgN s[k].toNat else decide (s[k] = f[k])) = true → fit (f.data.toList.drop (k + 1)) (s.data.toList.drop (k + 1)) = fit f.data.toList s.data.toList := fun {_} h => by
          rw [← hr.out, hstep.out, h]; rfl
        clear hr hlen
        have HIT := Lib.hid hit2; clear hit2
        have hs1 := s[k].toNat_lt
        have hf1 := f[k].toNat_lt
        by_cases h57 : f[k].toNat = 57
        · have h57' : f[k] = 57 := UInt8.toNat_inj.1 h57
          have b1 : ((f[k].toNat : Int) == 57) = true := by simp; omega
          have b2 : ((f[k].toNat : Int) != 57) = false := by simp; omega
          by_cases hd : 48 ≤ s[k].toNat ∧ s[k].toNat ≤ 57
          · obtain ⟨hd1, hd2⟩ := hd
            have HN := Lib.hid (hnext (P := True) (by rw [if_pos h57']; exact dgN_t.2 ⟨hd1, hd2⟩))
            clear h57 h57' hnext hstop hstep
            go_wp2
            go_roundw
            case rel => exact ⟨k + 1, HIT.out, by omega, hbw2, HN.out⟩
            case measure => simp only [World.iterPos, HIT.out, hit]; omega
          · have HE := Lib.hid (hstop (P := True) (by
              rw [hstep.out, if_pos h57']
              cases h : dgN s[k].toNat with
              | false => rfl
              | true => exact absurd (dgN_t.1 h) hd))
            clear h57 h57' hnext hstop hstep
            by_cases hd1 : 48 ≤ s[k].toNat
            · have hd2 : 57 < s[k].toNat := by omega
              clear hd
              go_wp2
              go_ret
              exact ⟨ret_str HE.out.symm, hbw2⟩
            · clear hd
              go_wp2
              go_ret
              exact ⟨ret_str HE.out.symm, hbw2⟩
        · have h57' : ¬ f[k] = 57 := fun e => h57 (by rw [e]; rfl)
          have b1 : ((f[k].toNat : Int) == 57) = false := by simp; omega
          have b2 : ((f[k].toNat : Int) != 57) = true := by simp; omega
          by_cases hd : s[k].toNat = f[k].toNat
          · have HN := Lib.hid (hnext (P := True) (by rw [if_neg h57', UInt8.toNat_inj.1 hd]; simp))
            have b3 : ((s[k].toNat : Int) != (f[k].toNat : Int)) = false := by simp; omega
            clear h57 h57' hnext hstop hstep hd
            go_wp2
            go_roundw
            case rel => exact ⟨k + 1, HIT.out, by omega, hbw2, HN.out⟩
            case measure => simp only [World.iterPos, HIT.out, hit]; omega
          · have HE := Lib.hid (hstop (P := True) (by
              rw [hstep.out, if_neg h57', decide_eq_false (fun e => hd (by rw [e]))]; rfl))
            have b3 : ((s[k].toNat : Int) != (f[k].toNat : Int)) = true := by simp; omega
            clear h57 h57' hnext hstop hstep hd
            go_wp2
            go_ret
            exact ⟨ret_str HE.out.symm, hbw2⟩
      · have hnx : ∀ ty, (Instr.next (.pointer (some ⟨w.heap.size, 0, none⟩)) true ty).run Tryd.prog wr = _ := fun ty => Lib.run_next_end_at wr w.heap.size f k ty hit hp
        have HE : Hid (t.data.toList = (s.extract 0 f.size).data.toList) := by
          show _ = _
          rw [HT.out, formL, if_pos (by rw [← hr.out, List.drop_eq_nil_of_le (by rw [size_list]; omega)]; exact fit_nil _), pre_cut]; rfl
        go_wp2
        go_ret
        exact ⟨ret_str HE.out.symm, hbw⟩
  · have HE : Hid (t.data.toList = []) := by
      show _ = _
      rw [HT.out, formL, if_neg (fun h => hl (by have := fit_len h; exact this))]
    go_enter Tryd.func34, Tryd.ntmps34
    go_wp2
    go_ret
    exact ⟨ret_str HE.out.symm, Below.refl _ _⟩

end Go.Proofs.YtgchhogdbigafaaDoor
