/- Walks over Go's library: slices.Index and slices.Contains at strings; no statement of the seat is proved here. -/
import Derived.Test.YtjiejpjdbimjkaaBase
namespace Go.Proofs.Ytjiejpjdbimjkaa
open Go.RowKit

def idxS (s : List UInt8) : List ByteArray → Nat → Int
  | [], _ => -1
  | x :: t, k => if x.data.toList = s then k else idxS s t (k + 1)

theorem idxS_yes {s : List UInt8} {ss : List ByteArray} {k : Nat} (h : k < ss.length) (he : ss[k].data.toList = s) : idxS s (ss.drop k) k = k := by
  rw [List.drop_eq_getElem_cons h, idxS, if_pos he]
theorem idxS_no {s : List UInt8} {ss : List ByteArray} {k : Nat} (h : k < ss.length) (he : ¬ ss[k].data.toList = s) : idxS s (ss.drop k) k = idxS s (ss.drop (k+1)) (k+1) := by
  rw [List.drop_eq_getElem_cons h, idxS, if_neg he]
theorem idxS_end {s : List UInt8} {ss : List ByteArray} {k : Nat} (h : ¬ k < ss.length) : idxS s (ss.drop k) k = -1 := by
  rw [List.drop_eq_nil_of_le (by omega), idxS]
theorem str_eq {a b : ByteArray} (h : (a.toList == b.toList) = true) : b.data.toList = a.data.toList := by
  rw [ByteArray.toList_eq, ByteArray.toList_eq] at h; exact (by simpa using h : a.data = b.data) ▸ rfl
theorem str_ne {a b : ByteArray} (h : (a.toList == b.toList) = false) : ¬ b.data.toList = a.data.toList := by
  rw [ByteArray.toList_eq, ByteArray.toList_eq] at h
  intro e; rw [e] at h; simp at h

set_option maxHeartbeats 400000 in
theorem sindex_any (A : Option Addr) (ss : List ByteArray) (c : Nat) (s : ByteArray) (hl : ss.length ≤ 4611686018427387904) (w : World) {B : Nat} (h : SS w B A ss) :
    Calls Try.prog 40 #[.slice A ss.length c, .string s] w fun e w' => e = .returned (.int .i64 (idxS s.data.toList ss 0)) ∧ w = w' := by
  have H := Lib.hid h; clear h
  go_enter Try.func40, Try.ntmps40
  go_wp2
  go_loop [8] (fun i => ∃ k : Nat, k ≤ ss.length ∧ i = .int .i64 k ∧ Hid (idxS s.data.toList (ss.drop k) k = idxS s.data.toList ss 0)) (fun i => ss.length - (intOf i).toNat)
  case atStart => exact ⟨0, by omega, rfl, rfl⟩
  case round =>
    obtain ⟨k, hk, rfl, hr⟩ := hrel
    by_cases hlt : k < ss.length
    · obtain ⟨a, rfl, ha, hc⟩ := H.out k hlt
      go_wp2
      · have he := str_eq ‹(s.toList == ss[k].toList) = true›
        go_ret
        exact ⟨ret_int ((idxS_yes hlt he).symm.trans hr.out), rfl⟩
      · have he := str_ne ‹(s.toList == ss[k].toList) = false›
        go_round
        case rel => exact ⟨k + 1, by omega, by go_num, (idxS_no hlt he).symm.trans hr.out⟩
        case measure => simp [intOf]; omega
    · go_wp2
      go_ret
      exact ⟨ret_int ((idxS_end hlt).symm.trans hr.out), rfl⟩

def memS (ss : List ByteArray) (s : List UInt8) : Bool := (ss.map (·.data.toList)).contains s
theorem idxS_mem (s : List UInt8) (ss : List ByteArray) (k : Nat) : decide (0 ≤ idxS s ss k) = memS ss s := by
  unfold memS
  induction ss generalizing k with
  | nil => simp [idxS]
  | cons x t ih =>
    rw [idxS]
    by_cases h : x.data.toList = s
    · simp [h]
    · rw [if_neg h, ih]
      simp only [List.map_cons, List.contains_cons]
      have : (s == x.data.toList) = false := by simpa using fun e => h e.symm
      rw [this, Bool.false_or]

set_option maxHeartbeats 400000 in
theorem scontains_any (A : Option Addr) (ss : List ByteArray) (c : Nat) (s : ByteArray) (hl : ss.length ≤ 4611686018427387904) (w : World) {B : Nat} (h : SS w B A ss) :
    Calls Try.prog 37 #[.slice A ss.length c, .string s] w fun e w' => e = .returned (.bool (memS ss s.data.toList)) ∧ w = w' := by
  have H := Lib.hid h; clear h
  have HE := Lib.hid (idxS_mem s.data.toList ss 0)
  go_enter Try.func37, Try.ntmps37
  go_wp2_with (go_at_call 40; refine (sindex_any _ _ _ _ hl _ H.out).mono ?_; rintro e w' ⟨rfl, rfl⟩)
  go_ret
  exact ⟨ret_bool HE.out, rfl⟩

end Go.Proofs.Ytjiejpjdbimjkaa
