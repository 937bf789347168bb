/- A text of digits with low marks between some of them (the law's mark); no statement of the seat is proved here. -/
import Derived.Test.YtghjiddcbbnhpaaGreatDoorInN
namespace Go.Proofs.YtghjiddcbbnhpaaGreatDoor
open Go.RowKit

/-- A text of digits, marks between some of them. -/
structure Marked (q : Nat) (l O : List UInt8) : Prop where
  scan : ∀ t, scanQ q false (O ++ t) 0 = scanQ q true t (valQ q 0 l)
  head : O.head? = l.head?
  len : O.length + 1 ≤ 2 * l.length
/-- What is built so far. -/
structure MI (q : Nat) (l : List UInt8) (k : Nat) (O : List UInt8) (b : Bool) : Prop where
  scan : ∀ t, (b = false → t ≠ [] ∨ k = 0) → scanQ q false (O ++ t) 0 = scanQ q b t (valQ q 0 (l.take k))
  head : 0 < k → O.head? = l.head?
  zero : k = 0 → O = [] ∧ b = false
  last : 0 < k → k = l.length → b = true
  len : O.length ≤ 2 * k ∧ (b = true → O.length + 1 ≤ 2 * k)
theorem MI.start (q : Nat) (l : List UInt8) : MI q l 0 [] false := ⟨fun t _ => by rw [List.take_zero]; rfl, fun h => by omega, fun _ => ⟨rfl, rfl⟩, fun h => by omega, by simp⟩
theorem scan_dig {q : Nat} (hq : q ≤ 16) {c : UInt8} (hc : digV c < q) (p : Bool) (t : List UInt8) (n : Nat) : scanQ q p (c :: t) n = scanQ q true t (n * q + digV c) := by
  rw [scanQ, if_neg (by rintro rfl; have : digV 95 = 255 := by decide
                        omega), if_pos hc]
theorem MI.head_step {q : Nat} {l O : List UInt8} {k : Nat} {b : Bool} (h : MI q l k O b) (hk : k < l.length) (r : List UInt8) : (O ++ (l[k] :: r)).head? = l.head? := by
  by_cases h0 : k = 0
  · subst h0
    rw [(h.zero rfl).1, List.nil_append]
    cases l with
    | nil => simp at hk
    | cons c l => rfl
  · have h1 := h.head (by omega)
    cases e : O with
    | nil =>
      rw [e] at h1
      cases l with
      | nil => simp at hk
      | cons c l => cases h1
    | cons c r => rw [e] at h1; exact h1
theorem MI.digit {q : Nat} (hq : q ≤ 16) {l O : List UInt8} {k : Nat} {b : Bool} (h : MI q l k O b) (hk : k < l.length) (hd : digV l[k] < q) : MI q l (k + 1) (O ++ [l[k]]) true := by
  refine ⟨fun t _ => ?_, fun _ => h.head_step hk [], fun e => by omega, fun _ _ => rfl, ?_⟩
  · rw [List.append_assoc, List.singleton_append, h.scan (l[k] :: t) (fun _ => .inl (by simp)), scan_dig hq hd, List.take_succ_eq_append_getElem hk, valQ_app]; rfl
  · have := h.len.1; simp; omega
theorem MI.mark {q : Nat} (hq : q ≤ 16) {l O : List UInt8} {k : Nat} {b : Bool} (h : MI q l k O b) (hk : k + 1 < l.length) (hd : digV l[k] < q) : MI q l (k + 1) (O ++ [l[k]] ++ [95]) false := by
  refine ⟨fun t ht => ?_, fun _ => by rw [List.append_assoc]; exact h.head_step (by omega) [95], fun e => by omega, fun _ e => by omega, ?_⟩
  · have h1 := (h.digit hq (by omega) hd).scan (95 :: t) (fun e => by cases e)
    have ht' : t ≠ [] := (ht rfl).resolve_right (by omega)
    rw [List.append_assoc, List.singleton_append, h1, scanQ, if_pos rfl, if_neg (by simp [ht'])]
  · have := h.len.1
    refine ⟨by simp; omega, fun e => by cases e⟩
theorem MI.fin {q : Nat} {l O : List UInt8} {b : Bool} (h : MI q l l.length O b) (h0 : 0 < l.length) : Marked q l O := by
  have hb := h.last h0 rfl
  subst hb
  exact ⟨fun t => by rw [h.scan t (fun e => by cases e), List.take_of_length_le (Nat.le_refl _)], h.head h0, h.len.2 rfl⟩
theorem ext_one {s : ByteArray} {k : Nat} (h : k < s.size) : s.extract k (k + 1) = ⟨#[s[k]]⟩ := by
  apply str_eq
  rw [ByteArray.data_extract, Array.toList_extract]
  simp only [List.extract_eq_take_drop]
  rw [show k + 1 - k = 1 by omega, List.drop_eq_getElem_cons (show k < s.data.toList.length from h)]; rfl

set_option maxRecDepth 100000 in
set_option maxHeartbeats 4000000 in
theorem mark_is (q : Nat) (hq : q ≤ 16) (s : ByteArray) (h0 : 0 < s.size) (hs : s.size ≤ 1000) (hd : ∀ c ∈ s.data.toList, digV c < q) (a : Int) (_ha0 : 0 ≤ a) (_ha1 : a < 18446744073709551616) (w : World) :
    Calls Tryz.prog 20 #[.string s, .int .u64 a] w fun e w' => (∃ O : ByteArray, e = .returned (.string O) ∧ Marked q s.data.toList O.data.toList ∧ O.size ≤ 2 * s.size) ∧ w = w' := by
  have HD := Lib.hid hd
  have hsl := size_list s
  clear hd
  go_enter Tryz.func20, Tryz.ntmps20
  go_wp2_with fail
  go_loopg [5, 6] (s.size + 1) (fun g s5 s6 wr => ∃ (k : Nat) (O : ByteArray) (b : Bool), s6 = .int .i64 (k : Int) ∧ s5 = .string O ∧ k ≤ s.size ∧ O.size ≤ 2 * k ∧ wr = w ∧ Hid (g = s.size + 1 - k) ∧ Hid (MI q s.data.toList k O.data.toList b))
  case atStart => exact ⟨0, ⟨#[]⟩, false, rfl, rfl, Nat.zero_le _, Nat.le_refl _, rfl, rfl, MI.start _ _⟩
  case round =>
    obtain ⟨k, O, b, rfl, rfl, hk, hO, rfl, hg, hM⟩ := hrel
    by_cases hlt : k < s.size
    · have bk : decide ((k : Int) < (s.size : Int)) = true := decide_eq_true (by omega)
      have hE := ext_one hlt
      have hdk : digV s.data.toList[k] < q := HD.out _ (List.getElem_mem _)
      have M1 := Lib.hid (hM.out.digit hq (by omega) hdk)
      have y1 : (⟨#[s[k]]⟩ : ByteArray).size = 1 := rfl
      by_cases hl : k + 1 < s.size
      · have bl : decide (((k : Int) + 1) < (s.size : Int)) = true := decide_eq_true (by omega)
        have M2 := Lib.hid (hM.out.mark hq (by omega) hdk)
        go_wp2
        · go_roundg (s.size + 1 - (k + 1))
          case measure => have := hg.out; omega
          case rel => exact ⟨k + 1, O ++ ⟨#[s[k]]⟩ ++ ⟨#[95]⟩, false, by go_num, rfl, by omega, by have y2 : (⟨#[95]⟩ : ByteArray).size = 1 := rfl; rw [ByteArray.size_append, ByteArray.size_append]; omega, rfl, rfl, by show MI _ _ _ _ _; rw [app_list, app_list]; exact M2.out⟩
        · go_roundg (s.size + 1 - (k + 1))
          case measure => have := hg.out; omega
          case rel => exact ⟨k + 1, O ++ ⟨#[s[k]]⟩, true, by go_num, rfl, by omega, by rw [ByteArray.size_append]; omega, rfl, rfl, by show MI _ _ _ _ _; rw [app_list]; exact M1.out⟩
      · have bl : decide (((k : Int) + 1) < (s.size : Int)) = false := decide_eq_false (by omega)
        clear hdk
        go_wp2
        go_roundg (s.size + 1 - (k + 1))
        case measure => have := hg.out; omega
        case rel => exact ⟨k + 1, O ++ ⟨#[s[k]]⟩, true, by go_num, rfl, by omega, by rw [ByteArray.size_append]; omega, rfl, rfl, by show MI _ _ _ _ _; rw [app_list]; exact M1.out⟩
    · have bk : decide ((k : Int) < (s.size : Int)) = false := decide_eq_false (by omega)
      have hks : k = s.data.toList.length := by omega
      have HF : Hid (Marked q s.data.toList O.data.toList) := by
        have := hM.out; rw [hks] at this; exact this.fin (by omega)
      clear hks
      go_wp2
      go_ret
      exact ⟨⟨O, rfl, HF.out, by omega⟩, rfl⟩

end Go.Proofs.YtghjiddcbbnhpaaGreatDoor
