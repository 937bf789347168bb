/- Walks over package jtokens, the small functions: what each call returns; no statement of the seat is proved here. -/
import Derived.Test.YtjiejpjdbimjkaaBase
namespace Go.Proofs.Ytjiejpjdbimjkaa
open Go.RowKit

/-- Function f tells of each byte whether p. -/
def Tells (f : FuncId) (p : UInt8 → Bool) : Prop := ∀ (c : UInt8) (w : World), Calls Try.prog f #[.int .u8 ((c.toNat : Nat) : Int)] w fun e w' => e = .returned (.bool (p c)) ∧ Below w.heap.size w w'
def Enters (f : FuncId) : Prop := ∀ args w, (callFunc f args).run Try.prog w = .ok (.enter f args) w

def isDigit (c : UInt8) : Bool := decide (48 ≤ (c.toNat : Int)) && decide ((c.toNat : Int) ≤ 57)
def isLetter (c : UInt8) : Bool := decide (97 ≤ (c.toNat : Int)) && decide ((c.toNat : Int) ≤ 122)
def isSpace (c : UInt8) : Bool := [32, 9, 10, 13].contains c
def isMark (c : UInt8) : Bool := [123, 125, 91, 93, 44, 58].contains c
def isHex (c : UInt8) : Bool := isDigit c || (decide (97 ≤ (c.toNat : Int)) && decide ((c.toNat : Int) ≤ 102)) || (decide (65 ≤ (c.toNat : Int)) && decide ((c.toNat : Int) ≤ 70))
def isNum (c : UInt8) : Bool := ((c.toNat : Int) == 45) || isDigit c
def isQuote (c : UInt8) : Bool := (c.toNat : Int) == 34

set_option maxHeartbeats 400000 in
theorem digit_tells : Tells 32 isDigit := by
  intro c w
  by_cases h : 48 ≤ (c.toNat : Int)
  · have hd : isDigit c = decide ((c.toNat : Int) ≤ 57) := by simp [isDigit, h]
    rw [hd]
    go_enter Try.func32, Try.ntmps32
    go_wp2
    go_ret
    exact ⟨rfl, Below.refl _ _⟩
  · have hd : isDigit c = false := by simp [isDigit]; omega
    rw [hd]
    go_enter Try.func32, Try.ntmps32
    go_wp2
    go_ret
    exact ⟨rfl, Below.refl _ _⟩

set_option maxHeartbeats 400000 in
theorem letter_tells : Tells 29 isLetter := by
  intro c w
  by_cases h : 97 ≤ (c.toNat : Int)
  · have hd : isLetter c = decide ((c.toNat : Int) ≤ 122) := by simp [isLetter, h]
    rw [hd]
    go_enter Try.func29, Try.ntmps29
    go_wp2
    go_ret
    exact ⟨rfl, Below.refl _ _⟩
  · have hd : isLetter c = false := by simp [isLetter]; omega
    rw [hd]
    go_enter Try.func29, Try.ntmps29
    go_wp2
    go_ret
    exact ⟨rfl, Below.refl _ _⟩

set_option maxHeartbeats 400000 in
theorem base16_tells : Tells 39 isHex := by
  intro c w
  have HD := Lib.hid digit_tells
  go_enter Try.func39, Try.ntmps39
  go_wp2_with (go_at_call 32; refine (HD.out _ _).mono ?_; rintro e w' ⟨rfl, hb'⟩)
  all_goals go_ret
  all_goals (refine ⟨ret_bool ?_, hb'⟩; simp [isHex, *]; try omega)

set_option maxHeartbeats 400000 in
theorem isnum_tells : Tells 31 isNum := by
  intro c w
  have HD := Lib.hid digit_tells
  go_enter Try.func31, Try.ntmps31
  go_wp2_with (go_at_call 32; refine (HD.out _ _).mono ?_; rintro e w' ⟨rfl, hb'⟩)
  · go_ret
    exact ⟨ret_bool (by simp [isNum, *]), Below.refl _ _⟩
  · go_ret
    exact ⟨ret_bool (by simp [isNum, *]), hb'⟩

set_option maxHeartbeats 400000 in
theorem isquote_tells : Tells 34 isQuote := by
  intro c w
  go_enter Try.func34, Try.ntmps34
  go_wp2
  go_ret
  exact ⟨rfl, Below.refl _ _⟩

set_option maxHeartbeats 400000 in
theorem indexByte_any (A : Option Addr) (l : List UInt8) (c : Nat) (b : UInt8) (w : World) {B : Nat} (h : BS w B A l) :
    Calls Try.prog 27 #[.slice A l.length c, .int .u8 ((b.toNat : Nat) : Int)] w fun e w' => e = .returned (.int .i64 (Lib.indexByte l b)) ∧ w = w' := by
  have H := Lib.hid h; clear h
  go_enter Try.func27, Try.ntmps27
  go_wp2
  rw [run_callFunc_extern Try.func36 (by kernel_rfl) (by kernel_rfl) (by kernel_rfl) (e := Extern.BytealgIndexByte.indexByte) (by kernel_rfl), index_bs w H.out c b]
  simp only [Result.andThen]
  rw [Oper.upon_value]
  go_wp2
  go_ret
  exact ⟨rfl, rfl⟩

set_option maxHeartbeats 400000 in
theorem space_tells : Tells 23 isSpace := by
  intro c w
  have kc := fun (w : World) (C : Array Value) (n c : Nat) => Lib.run_convert_bytes_const (P := Try.prog) w 22 5 C n c Try.underlying22 Try.underlying5
  go_enter Try.func23, Try.ntmps23
  go_wp2_with (go_at_call 27; refine (indexByte_any _ [32, 9, 10, 13] _ c _ (BS.made w [32, 9, 10, 13] _ _)).mono ?_; rintro e w' ⟨rfl, rfl⟩)
  go_ret
  exact ⟨ret_bool (index_mem _ _), (Below.refl _ _).alloc (Nat.le_refl _) _⟩

set_option maxHeartbeats 400000 in
theorem mark_tells : Tells 26 isMark := by
  intro c w
  have kc := fun (w : World) (C : Array Value) (n c : Nat) => Lib.run_convert_bytes_const (P := Try.prog) w 22 5 C n c Try.underlying22 Try.underlying5
  go_enter Try.func26, Try.ntmps26
  go_wp2_with (go_at_call 27; refine (indexByte_any _ [123, 125, 91, 93, 44, 58] _ c _ (BS.made w [123, 125, 91, 93, 44, 58] _ _)).mono ?_; rintro e w' ⟨rfl, rfl⟩)
  go_ret
  exact ⟨ret_bool (index_mem _ _), (Below.refl _ _).alloc (Nat.le_refl _) _⟩

def runL (p : UInt8 → Bool) (l : List UInt8) (k : Nat) : Nat := if h : k < l.length then (if p l[k] then runL p l (k+1) else k) else k
termination_by l.length - k
theorem runL_yes {p : UInt8 → Bool} {l : List UInt8} {k : Nat} (h : k < l.length) (hp : p l[k] = true) : runL p l k = runL p l (k+1) := by
  rw [runL, dif_pos h, if_pos hp]
theorem runL_no {p : UInt8 → Bool} {l : List UInt8} {k : Nat} (h : k < l.length) (hp : p l[k] = false) : runL p l k = k := by
  rw [runL, dif_pos h, if_neg (by simp [hp])]
theorem runL_end {p : UInt8 → Bool} {l : List UInt8} {k : Nat} (h : ¬ k < l.length) : runL p l k = k := by
  rw [runL, dif_neg h]
theorem runL_le (p : UInt8 → Bool) (l : List UInt8) (k : Nat) (h : k ≤ l.length) : k ≤ runL p l k ∧ runL p l k ≤ l.length := by
  fun_induction runL p l k with
  | case1 k hk hp ih => have := ih (by omega); omega
  | case2 k hk hp => omega
  | case3 k hk => omega

set_option maxHeartbeats 400000 in
theorem run_any (f : FuncId) (p : UInt8 → Bool) (he : Enters f) (hp : Tells f p) (A : Option Addr) (l : List UInt8) (n : Nat) (hn : n = l.length) (c : Nat) (i : Int) (h0 : 0 ≤ i) (hl : l.length ≤ 4611686018427387904) (w : World) (hB : BS w w.heap.size A l) :
    Calls Try.prog 25 #[.slice A n c, .int .i64 i, .func (.func f) #[] #[]] w fun e w' => e = .returned (.int .i64 (runL p l i.toNat)) ∧ Below w.heap.size w w' := by
  subst hn
  obtain ⟨k, rfl⟩ := Int.eq_ofNat_of_zero_le h0
  have HB := Lib.hid hB; clear hB h0
  have HP := Lib.hid hp; clear hp
  have he : ∀ args w, (callFunc f args).run Try.prog w = .ok (.enter f args) w := he
  rw [Int.toNat_natCast]
  go_enter Try.func25, Try.ntmps25
  go_wp2
  go_loopw [1] (fun at_ wr => ∃ j : Nat, at_ = .int .i64 j ∧ Hid (runL p l j = runL p l k) ∧ Below w.heap.size w wr) (fun at_ _ => l.length - (intOf at_).toNat)
  case atStart => exact ⟨k, rfl, rfl, Below.refl _ _⟩
  case round =>
    obtain ⟨j, rfl, hr, hbw⟩ := hrel
    by_cases hlt : j < l.length
    · obtain ⟨a, rfl, ha, hc⟩ := (HB.out.below hbw) j hlt
      go_wp2_with (go_at_fn f; refine (HP.out _ _).mono ?_; rintro e w' ⟨rfl, hb'⟩)
      · go_round
        case rel => exact ⟨j+1, by go_num, (runL_yes hlt ‹_›).symm.trans hr.out, hbw.trans (hb'.mono hbw.size)⟩
        case measure => simp [intOf]; omega
      · go_ret
        exact ⟨ret_nat ((runL_no hlt ‹_›).symm.trans hr.out), hbw.trans (hb'.mono hbw.size)⟩
    · go_wp2
      go_ret
      exact ⟨ret_nat ((runL_end hlt).symm.trans hr.out), hbw⟩

def isAt (l : List UInt8) (k : Nat) (s : List UInt8) : Bool := if h : k < l.length then s.contains l[k] else false
theorem isAt_lt {l : List UInt8} {k : Nat} {s : List UInt8} (h : k < l.length) : isAt l k s = s.contains l[k] := by rw [isAt, dif_pos h]
theorem isAt_ge {l : List UInt8} {k : Nat} {s : List UInt8} (h : ¬ k < l.length) : isAt l k s = false := by rw [isAt, dif_neg h]
theorem isAt_at {l : List UInt8} {k : Nat} {s : List UInt8} (h : isAt l k s = true) : k < l.length := by
  unfold isAt at h; split at h
  · assumption
  · cases h

set_option maxHeartbeats 400000 in
theorem is_any (A : Option Addr) (l : List UInt8) (c : Nat) (i : Int) (h0 : 0 ≤ i) (s : ByteArray) (w : World) (hB : BS w w.heap.size A l) :
    Calls Try.prog 38 #[.slice A l.length c, .int .i64 i, .string s] w fun e w' => e = .returned (.bool (isAt l i.toNat s.data.toList)) ∧ Below w.heap.size w w' := by
  obtain ⟨k, rfl⟩ := Int.eq_ofNat_of_zero_le h0
  rw [Int.toNat_natCast]
  by_cases hlt : k < l.length
  · obtain ⟨cap, w1, hrun, hb1, hs1, hS⟩ := conv_sb (P := Try.prog) w 9 22 5 s Try.underlying9 Try.underlying22 Try.underlying5
    obtain ⟨a, rfl, ha, hc⟩ := (hB.below hb1) k hlt
    have HR := Lib.hid (isAt_lt (s := s.data.toList) hlt)
    have HS := Lib.hid hS
    clear hB hS h0
    go_enter Try.func38, Try.ntmps38
    go_wp2_with (go_at_call 27; refine (indexByte_any _ s.data.toList _ l[k] _ HS.out).mono ?_; rintro e w' ⟨rfl, rfl⟩)
    go_ret
    exact ⟨ret_bool ((index_mem _ _).trans HR.out.symm), hb1⟩
  · have HR := Lib.hid (isAt_ge (s := s.data.toList) hlt)
    clear hB h0
    go_enter Try.func38, Try.ntmps38
    go_wp2
    go_ret
    exact ⟨ret_bool HR.out.symm, Below.refl _ _⟩

end Go.Proofs.Ytjiejpjdbimjkaa
