/- Digits of base 16, and strconv.ParseUint at one byte; the bytes of a list by their places: for every chapter; no statement of the seat is proved here. -/
import Derived.Test.YtflfedfghnnaeaaDoorBase
import Derived.Test.YtflfedfghnnaeaaDoorShelf
import Derived.LoopN
import Derived.Outline
namespace Go.Proofs.YtflfedfghnnaeaaDoor
open Go.RowKit

theorem cell_lt {w : World} {p : Addr} {v : Value} (h : w.cell? p = some v) : p.block < w.heap.size := by
  rcases Nat.lt_or_ge p.block w.heap.size with h' | h'
  · exact h'
  · simp [World.cell?, Array.getElem?_eq_none h'] at h
theorem cell_keep {B : Nat} {w w' : World} {p : Addr} {v : Value} (h : w.cell? p = some v) (hb : Below B w w') (hB : w.heap.size ≤ B) : w'.cell? p = some v :=
  (hb.cell (Nat.lt_of_lt_of_le (cell_lt h) hB)).trans h
/-- A digit of base 16; below 0: none. -/
def hexD (c : UInt8) : Int := if 48 ≤ c.toNat ∧ c.toNat ≤ 57 then c.toNat - 48 else if 97 ≤ c.toNat ∧ c.toNat ≤ 102 then c.toNat - 87 else if 65 ≤ c.toNat ∧ c.toNat ≤ 70 then c.toNat - 55 else -1
/-- What holds of the 256 bytes one by one. -/
theorem u8_all {p : UInt8 → Prop} (h : ∀ n : Fin 256, p (UInt8.ofNat n.val)) (c : UInt8) : p c := by
  have := h ⟨c.toNat, c.toNat_lt⟩
  simpa using this
def lowC (c : UInt8) : UInt8 := c ||| 32
theorem hexD_lt (c : UInt8) : hexD c < 16 ∧ -1 ≤ hexD c := by unfold hexD; split <;> (try split) <;> (try split) <;> omega
theorem low_bits : ∀ c : UInt8, bits .or .u8 (c.toNat : Int) 32 = ((lowC c).toNat : Int) := u8_all (by decide +kernel)
/-- The ways of a byte through ParseUint's tests. -/
theorem hex_ways : ∀ c : UInt8, (48 ≤ c.toNat ∧ c.toNat ≤ 57 ∧ hexD c = (c.toNat : Int) - 48) ∨
    ((c.toNat < 48 ∨ 57 < c.toNat) ∧ 97 ≤ (lowC c).toNat ∧ (lowC c).toNat ≤ 102 ∧ hexD c = ((lowC c).toNat : Int) - 87) ∨
    ((c.toNat < 48 ∨ 57 < c.toNat) ∧ 103 ≤ (lowC c).toNat ∧ (lowC c).toNat ≤ 122 ∧ hexD c = -1) ∨
    ((c.toNat < 48 ∨ 57 < c.toNat) ∧ ((lowC c).toNat < 97 ∨ 122 < (lowC c).toNat) ∧ hexD c = -1) := u8_all (by decide +kernel)
theorem low_le (c : UInt8) : (lowC c).toNat ≤ 255 := by have := (lowC c).toNat_lt; omega

theorem lower_any (c : UInt8) (w : World) : Calls Tryd.prog 88 #[.int .u8 ((c.toNat : Nat) : Int)] w fun e w' => e = .returned (.int .u8 (((lowC c).toNat : Nat) : Int)) ∧ w = w' := by
  have := Tryd.internal_strconv_lower (c.toNat : Int) w
  rw [low_bits] at this
  exact this.mono fun _ _ ⟨a, b⟩ => ⟨a, b.symm⟩

theorem ret_u64e {a b : Int} (h : a = b) : Ending.returned (.tuple #[.int .u64 a, .nilIface]) = .returned (.tuple #[.int .u64 b, .nilIface]) := by rw [h]
/-- A string of one byte. -/
def oneB (c : UInt8) : ByteArray := ⟨#[c]⟩

set_option maxRecDepth 100000 in
set_option maxHeartbeats 1000000 in
theorem ipu_ok (c : UInt8) (d : Int) (hd : hexD c = d) (h0 : 0 ≤ d) (w : World) :
    Calls Tryd.prog 84 #[.string (oneB c), .int .i64 16, .int .i64 8] w fun e w' => e = .returned (.tuple #[.int .u64 d, .nilIface]) ∧ Below w.heap.size w w' := by
  obtain ⟨cap, w1, hrun, hb1, hs1, hS⟩ := conv_sb (P := Tryd.prog) w 9 40 5 (oneB c) Tryd.underlying9 Tryd.underlying40 Tryd.underlying5
  obtain ⟨_, ea, hab, hc0⟩ := hS 0 (by simp [oneB])
  cases ea
  have hc1 : w1.cell? ⟨w.heap.size, 0, none⟩ = some (.int .u8 (c.toNat : Int)) := by simpa [oneB, Addr.add] using hc0
  have hsz : (oneB c).size = 1 := rfl
  rw [hsz] at hrun
  have hne : (oneB c).toList.isEmpty = false := by rw [ByteArray.toList_eq]; rfl
  have hl := low_le c
  clear hc0 hS hab hs1
  rcases hex_ways c with ⟨a1, a2, a3⟩ | ⟨a1, a2, a3, a4⟩ | ⟨a1, a2, a3, a4⟩ | ⟨a1, a2, a4⟩
  · have b1 : decide ((48 : Int) ≤ (c.toNat : Int)) = true := by simp; omega
    have b2 : decide ((c.toNat : Int) ≤ 57) = true := by simp; omega
    have b3 : ((c.toNat : Int) == 95) = false := by simp; omega
    have hd' : d = (c.toNat : Int) - 48 := hd.symm.trans a3
    clear hd
    go_enter Tryd.func84, Tryd.ntmps84
    go_wp2
    refine wp_loop_rounds 2 ?_
    rw [rounds_succ]
    go_wp2
    rw [rounds_succ]
    go_wp2
    go_ret2
    exact ⟨ret_u64e hd'.symm, hb1⟩
  · have hd' : d = ((lowC c).toNat : Int) - 87 := hd.symm.trans a4
    have b3 : ((c.toNat : Int) == 95) = false := by
      have hc : ∀ c : UInt8, (c.toNat < 48 ∨ 57 < c.toNat) → (lowC c).toNat ≤ 102 → c.toNat ≠ 95 := u8_all (by decide +kernel)
      have := hc c a1 a3
      simp; omega
    have b5 : decide ((97 : Int) ≤ ((lowC c).toNat : Int)) = true := by simp; omega
    have b6 : decide (((lowC c).toNat : Int) ≤ 122) = true := by simp; omega
    clear hd
    rcases a1 with a1 | a1
    · have b1 : decide ((48 : Int) ≤ (c.toNat : Int)) = false := by simp; omega
      go_enter Tryd.func84, Tryd.ntmps84
      go_wp2
      refine wp_loop_rounds 2 ?_
      rw [rounds_succ]
      go_wp2_with (go_at_call 88; refine (lower_any c _).mono ?_; rintro e w' ⟨rfl, rfl⟩)
      rw [rounds_succ]
      go_wp2
      go_ret2
      exact ⟨ret_u64e (by omega), hb1⟩
    · have b1 : decide ((48 : Int) ≤ (c.toNat : Int)) = true := by simp; omega
      have b2 : decide ((c.toNat : Int) ≤ 57) = false := by simp; omega
      go_enter Tryd.func84, Tryd.ntmps84
      go_wp2
      refine wp_loop_rounds 2 ?_
      rw [rounds_succ]
      go_wp2_with (go_at_call 88; refine (lower_any c _).mono ?_; rintro e w' ⟨rfl, rfl⟩)
      rw [rounds_succ]
      go_wp2
      go_ret2
      exact ⟨ret_u64e (by omega), hb1⟩
  · omega
  · omega

set_option maxRecDepth 100000 in
set_option maxHeartbeats 1000000 in
theorem ipu_syn (c : UInt8) (hd : hexD c < 0) (w : World) :
    Calls Tryd.prog 84 #[.string (oneB c), .int .i64 16, .int .i64 8] w fun e w' => e = .returned (.tuple #[.int .u64 0, .iface 140 (.int .i64 2)]) ∧ Below w.heap.size w w' := by
  obtain ⟨cap, w1, hrun, hb1, hs1, hS⟩ := conv_sb (P := Tryd.prog) w 9 40 5 (oneB c) Tryd.underlying9 Tryd.underlying40 Tryd.underlying5
  obtain ⟨_, ea, hab, hc0⟩ := hS 0 (by simp [oneB])
  cases ea
  have hc1 : w1.cell? ⟨w.heap.size, 0, none⟩ = some (.int .u8 (c.toNat : Int)) := by simpa [oneB, Addr.add] using hc0
  have hsz : (oneB c).size = 1 := rfl
  rw [hsz] at hrun
  have hne : (oneB c).toList.isEmpty = false := by rw [ByteArray.toList_eq]; rfl
  have hl := low_le c
  clear hc0 hS hab hs1
  rcases hex_ways c with ⟨a1, a2, a3⟩ | ⟨a1, a2, a3, a4⟩ | ⟨a1, a2, a3, a4⟩ | ⟨a1, a2, a4⟩
  · omega
  · omega
  · have b5 : decide ((97 : Int) ≤ ((lowC c).toNat : Int)) = true := by simp; omega
    have b6 : decide (((lowC c).toNat : Int) ≤ 122) = true := by simp; omega
    clear hd
    rcases a1 with a1 | a1
    · have b1 : decide ((48 : Int) ≤ (c.toNat : Int)) = false := by simp; omega
      have b3 : ((c.toNat : Int) == 95) = false := by simp; omega
      go_enter Tryd.func84, Tryd.ntmps84
      go_wp2
      refine wp_loop_rounds 2 ?_
      rw [rounds_succ]
      go_wp2_with (go_at_call 88; refine (lower_any c _).mono ?_; rintro e w' ⟨rfl, rfl⟩)
      go_ret2
      exact ⟨rfl, hb1⟩
    · have b1 : decide ((48 : Int) ≤ (c.toNat : Int)) = true := by simp; omega
      have b2 : decide ((c.toNat : Int) ≤ 57) = false := by simp; omega
      go_enter Tryd.func84, Tryd.ntmps84
      go_wp2
      refine wp_loop_rounds 2 ?_
      rw [rounds_succ]
      by_cases b3 : c.toNat = 95
      · exact absurd ((u8_all (p := fun c => c.toNat = 95 → (lowC c).toNat = 127) (by decide +kernel)) c b3) (by omega)
      · have b3 : ((c.toNat : Int) == 95) = false := by simp; omega
        go_wp2_with (go_at_call 88; refine (lower_any c _).mono ?_; rintro e w' ⟨rfl, rfl⟩)
        go_ret2
        exact ⟨rfl, hb1⟩
  · clear hd
    have b3 : ((c.toNat : Int) == 95) = true ∨ ((c.toNat : Int) == 95) = false := by cases h : ((c.toNat : Int) == 95) <;> simp
    have b12 : (decide ((48 : Int) ≤ (c.toNat : Int)) = false) ∨ (decide ((48 : Int) ≤ (c.toNat : Int)) = true ∧ decide ((c.toNat : Int) ≤ 57) = false) := by
      rcases a1 with a1 | a1
      · left; simp; omega
      · right; simp; omega
    have b56 : (decide ((97 : Int) ≤ ((lowC c).toNat : Int)) = false) ∨ (decide ((97 : Int) ≤ ((lowC c).toNat : Int)) = true ∧ decide (((lowC c).toNat : Int) ≤ 122) = false) := by
      rcases a2 with a2 | a2
      · left; simp; omega
      · right; simp; omega
    rcases b3 with b3 | b3 <;> rcases b12 with b1 | ⟨b1, b2⟩ <;> rcases b56 with b5 | ⟨b5, b6⟩
    all_goals (
      go_enter Tryd.func84, Tryd.ntmps84
      go_wp2
      refine wp_loop_rounds 2 ?_
      rw [rounds_succ]
      go_wp2_with (go_at_call 88; refine (lower_any c _).mono ?_; rintro e w' ⟨rfl, rfl⟩)
      go_ret2
      exact ⟨rfl, hb1⟩)

set_option maxRecDepth 100000 in
set_option maxHeartbeats 1000000 in
theorem pu_ok (c : UInt8) (d : Int) (hd : hexD c = d) (h0 : 0 ≤ d) (w : World) :
    Calls Tryd.prog 82 #[.string (oneB c), .int .i64 16, .int .i64 8] w fun e w' => e = .returned (.tuple #[.int .u64 d, .nilIface]) ∧ Below w.heap.size w w' := by
  go_enter Tryd.func82, Tryd.ntmps82
  go_wp2_with (go_at_call 84; refine (ipu_ok c d hd h0 _).mono ?_; rintro e w1 ⟨rfl, hb1⟩)
  go_ret2
  exact ⟨rfl, hb1⟩
set_option maxRecDepth 100000 in
set_option maxHeartbeats 1000000 in
theorem pu_syn (c : UInt8) (hd : hexD c < 0) (w : World) (hE : ∃ t p, w.cell? ⟨4, 0, none⟩ = some (.iface t p)) :
    Calls Tryd.prog 82 #[.string (oneB c), .int .i64 16, .int .i64 8] w fun e w' => ∃ t p, e = .returned (.tuple #[.int .u64 0, .iface t p]) ∧ Below w.heap.size w w' := by
  obtain ⟨te, pe, hv0⟩ := hE
  have HV := Lib.hid hv0; clear hv0
  go_enter Tryd.func82, Tryd.ntmps82
  go_wp2_with (go_at_call 84; refine (ipu_syn c hd _).mono ?_; rintro e w1 ⟨rfl, hb1⟩)
  have hv := cell_keep HV.out hb1 (Nat.le_refl _)
  have hlim : (oneB c).size ≤ 281474976710656 := by show 1 ≤ 281474976710656; omega
  go_wp2_with (go_at_call 85; refine (Tryd.strconv_toError_syntax _ _ _ _ _ _ hlim hv (.inr ⟨te, pe, rfl⟩)).mono ?_; rintro e w2 ⟨N, rfl, hN, hh, hb2⟩)
  go_ret2
  exact ⟨_, _, rfl, hb1.trans (hb2.mono hb1.size)⟩

/-- The byte at a place; 256 behind all. -/
def bt (l : List UInt8) (i : Nat) : Nat := if h : i < l.length then l[i].toNat else 256
theorem bt_lt {l : List UInt8} {i : Nat} (h : i < l.length) : bt l i = l[i].toNat := by rw [bt, dif_pos h]
theorem bt_ge {l : List UInt8} {i : Nat} (h : l.length ≤ i) : bt l i = 256 := by rw [bt, dif_neg (by omega)]
theorem bt_str {s : ByteArray} {i : Nat} (h : i < s.size) : bt s.data.toList i = s[i].toNat := by rw [bt_lt (by simpa using h)]; rfl
theorem bt_str_ge {s : ByteArray} {i : Nat} (h : s.size ≤ i) : bt s.data.toList i = 256 := bt_ge (by simpa using h)
/-- The digit at a place; below 0: none. -/
def hx (l : List UInt8) (i : Nat) : Int := if h : i < l.length then hexD l[i] else -1
theorem hx_str {s : ByteArray} {i : Nat} (h : i < s.size) : hx s.data.toList i = hexD s[i] := by rw [hx, dif_pos (by simpa using h)]; rfl
theorem hx_str_ge {s : ByteArray} {i : Nat} (h : s.size ≤ i) : hx s.data.toList i = -1 := by rw [hx, dif_neg (by simpa using h)]

/-- So many digits more, from a place on: the number, and below 0; or 0, and where the first byte is that is none. -/
def dgs (l : List UInt8) : Nat → Nat → Int → Int × Int
  | 0, _, n => (n, -1)
  | k + 1, i, n => if hx l i < 0 then (0, (i : Int)) else dgs l k (i + 1) (16 * n + hx l i)
theorem ret2_int {a b c d : Int} (h : a = b) (h' : c = d) : Ending.returned (.tuple #[.int .i64 a, .int .i64 c]) = .returned (.tuple #[.int .i64 b, .int .i64 d]) := by rw [h, h']
theorem one_byte (s : ByteArray) (k : Nat) (h : k < s.size) : s.extract k (k + 1) = oneB s[k] := by
  apply ByteArray.ext
  rw [ByteArray.data_extract]
  apply Array.ext
  · simp [oneB]; omega
  · intro i h1 h2
    simp [oneB] at h2
    subst h2
    simp [oneB]; rfl

theorem hx_lt (l : List UInt8) (i : Nat) : hx l i < 16 := by
  unfold hx; split
  · exact (hexD_lt _).1
  · omega

theorem pu_ok_at (s : ByteArray) (k : Nat) (h : k < s.size) (d : Int) (hd : hexD s[k] = d) (h0 : 0 ≤ d) (w : World) :
    Calls Tryd.prog 82 #[.string (s.extract k (k + 1)), .int .i64 16, .int .i64 8] w fun e w' => e = .returned (.tuple #[.int .u64 d, .nilIface]) ∧ Below w.heap.size w w' := by
  rw [one_byte s k h]; exact pu_ok _ d hd h0 w
theorem pu_syn_at (s : ByteArray) (k : Nat) (h : k < s.size) (hd : hexD s[k] < 0) (w : World) (hE : ∃ t p, w.cell? ⟨4, 0, none⟩ = some (.iface t p)) :
    Calls Tryd.prog 82 #[.string (s.extract k (k + 1)), .int .i64 16, .int .i64 8] w fun e w' => ∃ t p, e = .returned (.tuple #[.int .u64 0, .iface t p]) ∧ Below w.heap.size w w' := by
  rw [one_byte s k h]; exact pu_syn _ hd w hE
theorem dgs_rng (l : List UInt8) : ∀ (k i : Nat) (n : Int), 0 ≤ n → 0 ≤ (dgs l k i n).1 ∧ (dgs l k i n).1 + 1 ≤ (n + 1) * 16 ^ k ∧ -1 ≤ (dgs l k i n).2 := by
  intro k
  induction k with
  | zero => intro i n h; simp [dgs]; exact h
  | succ k ih =>
    intro i n h
    rw [dgs]
    have hp : (0 : Int) < 16 ^ (k + 1) := Int.pow_pos (by omega)
    split
    · refine ⟨by simp, ?_, by simp; try omega⟩
      have : 1 * 1 ≤ (n + 1) * 16 ^ (k + 1) := Int.mul_le_mul (by omega) (by omega) (by omega) (by omega)
      simpa using this
    · have hlt := hx_lt l i
      obtain ⟨a, b, c⟩ := ih (i + 1) (16 * n + hx l i) (by omega)
      refine ⟨a, ?_, c⟩
      have hk : (0 : Int) < 16 ^ k := Int.pow_pos (by omega)
      have : (16 * n + hx l i + 1) * 16 ^ k ≤ (n + 1) * 16 * 16 ^ k := Int.mul_le_mul_of_nonneg_right (by omega) (by omega)
      rw [Int.mul_assoc, ← Int.pow_succ'] at this
      omega
theorem dgs_pos (l : List UInt8) : ∀ (k i : Nat) (n : Int), (dgs l k i n).2 = -1 ∨ ((dgs l k i n).1 = 0 ∧ (i : Int) ≤ (dgs l k i n).2 ∧ (dgs l k i n).2 < i + k) := by
  intro k
  induction k with
  | zero => intro i n; simp [dgs]
  | succ k ih =>
    intro i n
    rw [dgs]
    split
    · simp; omega
    · rcases ih (i + 1) (16 * n + hx l i) with h | ⟨a, b, c⟩
      · exact .inl h
      · right; refine ⟨a, by omega, by omega⟩

theorem hx_bt {l l' : List UInt8} {j : Nat} (h : bt l j = bt l' j) : hx l j = hx l' j := by
  unfold bt at h
  unfold hx
  by_cases h1 : j < l.length
  · by_cases h2 : j < l'.length
    · rw [dif_pos h1, dif_pos h2] at h
      rw [dif_pos h1, dif_pos h2, UInt8.toNat_inj.1 h]
    · rw [dif_pos h1, dif_neg h2] at h
      have := l[j].toNat_lt
      omega
  · by_cases h2 : j < l'.length
    · rw [dif_neg h1, dif_pos h2] at h
      have := l'[j].toNat_lt
      omega
    · rw [dif_neg h1, dif_neg h2]
theorem dgs_same {l l' : List UInt8} {p : Nat} (hag : ∀ j, j < p → bt l j = bt l' j) : ∀ (k i : Nat) (n : Int), ((dgs l k i n).2 = -1 ∧ i + k ≤ p ∨ 0 ≤ (dgs l k i n).2 ∧ (dgs l k i n).2 < p) → dgs l' k i n = dgs l k i n := by
  intro k
  induction k with
  | zero => intro i n _; rfl
  | succ k ih =>
    intro i n h
    rw [dgs] at h
    by_cases hd : hx l i < 0
    · rw [if_pos hd] at h
      rw [dgs, dgs, ← hx_bt (hag i (by simp at h; omega)), if_pos hd, if_pos hd]
    · rw [if_neg hd] at h
      have hi : i < p := by
        rcases h with h | h
        · omega
        · rcases dgs_pos l k (i + 1) (16 * n + hx l i) with h1 | h1
          · omega
          · omega
      rw [dgs, dgs, ← hx_bt (hag i hi), if_neg hd, if_neg hd]
      exact ih _ _ (by omega)
theorem dgs_cut {l l' : List UInt8} {p : Nat} (hag : ∀ j, j < p → bt l j = bt l' j) (he : bt l' p = 256) : ∀ (k i : Nat) (n : Int), i ≤ p → p < i + k → ((dgs l k i n).2 = -1 ∨ (p : Int) ≤ (dgs l k i n).2) → dgs l' k i n = (0, (p : Int)) := by
  have hp : hx l' p = -1 := by
    unfold bt at he
    by_cases h2 : p < l'.length
    · rw [dif_pos h2] at he
      have := l'[p].toNat_lt
      omega
    · rw [hx, dif_neg h2]
  intro k
  induction k with
  | zero => intro i n h1 h2 _; omega
  | succ k ih =>
    intro i n h1 h2 h
    by_cases hi : i = p
    · subst hi
      rw [dgs, hp, if_pos (by omega)]
    · have hx' := hx_bt (hag i (by omega))
      rw [dgs] at h
      by_cases hd : hx l i < 0
      · rw [if_pos hd] at h; simp at h; omega
      · rw [if_neg hd] at h
        rw [dgs, ← hx', if_neg hd]
        exact ih _ _ (by omega) (by omega) h
theorem bt_app (l m : List UInt8) {j : Nat} (h : j < l.length) : bt l j = bt (l ++ m) j := by
  rw [bt_lt h, bt_lt (by simp; omega), List.getElem_append_left h]
theorem bt_take {l : List UInt8} {n j : Nat} (h : j < n) : bt l j = bt (l.take n) j := by
  unfold bt
  by_cases h1 : j < l.length
  · rw [dif_pos h1, dif_pos (by simp; omega)]; simp
  · rw [dif_neg h1, dif_neg (by simp; omega)]
theorem drop_cons {l : List UInt8} {i : Nat} {x : UInt8} {r : List UInt8} (h : l.drop i = x :: r) : ∃ hi : i < l.length, l[i] = x ∧ l.drop (i + 1) = r := by
  have hi : i < l.length := by
    rcases Nat.lt_or_ge i l.length with h' | h'
    · exact h'
    · rw [List.drop_eq_nil_of_le h'] at h; cases h
  rw [List.drop_eq_getElem_cons hi] at h
  injection h with h1 h2
  exact ⟨hi, h1, h2⟩
theorem bt_drop {l : List UInt8} {i : Nat} {x : UInt8} {r : List UInt8} (h : l.drop i = x :: r) : bt l i = x.toNat := by
  obtain ⟨hi, h1, _⟩ := drop_cons h
  rw [bt_lt hi, h1]
theorem hx_drop {l : List UInt8} {i : Nat} {x : UInt8} {r : List UInt8} (h : l.drop i = x :: r) : hx l i = hexD x := by
  obtain ⟨hi, h1, _⟩ := drop_cons h
  rw [hx, dif_pos hi, h1]

end Go.Proofs.YtflfedfghnnaeaaDoor
