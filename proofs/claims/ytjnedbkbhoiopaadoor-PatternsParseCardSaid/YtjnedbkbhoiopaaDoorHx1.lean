/- Digits of base 16; the bytes of a list by their places (the part of XHx that walks nothing great); no statement of the seat is proved here. -/
import Derived.Test.YtjnedbkbhoiopaaDoorBase
import Derived.Test.YtjnedbkbhoiopaaDoorShelf
import Derived.LoopN
import Derived.Outline
namespace Go.Proofs.YtjnedbkbhoiopaaDoor
open Go.RowKit

theorem cell_lt {w : World} {p : Addr} {v : Value} (h : w.cell? p = some v) : p.block < w.heap.size := by
  rcases Nat.lt_or_ge p.block w.heap.size with h' | h'
  · exact h'
  · simp [World.cell?, Array.getElem?_eq_none h'] at h
theorem cell_keep {B : Nat} {w w' : World} {p : Addr} {v : Value} (h : w.cell? p = some v) (hb : Below B w w') (hB : w.heap.size ≤ B) : w'.cell? p = some v :=
  (hb.cell (Nat.lt_of_lt_of_le (cell_lt h) hB)).trans h
/-- A digit of base 16; below 0: none. -/
def hexD (c : UInt8) : Int := if 48 ≤ c.toNat ∧ c.toNat ≤ 57 then c.toNat - 48 else if 97 ≤ c.toNat ∧ c.toNat ≤ 102 then c.toNat - 87 else if 65 ≤ c.toNat ∧ c.toNat ≤ 70 then c.toNat - 55 else -1
/-- What holds of the 256 bytes one by one. -/
theorem u8_all {p : UInt8 → Prop} (h : ∀ n : Fin 256, p (UInt8.ofNat n.val)) (c : UInt8) : p c := by
  have := h ⟨c.toNat, c.toNat_lt⟩
  simpa using this
def lowC (c : UInt8) : UInt8 := c ||| 32
theorem hexD_lt (c : UInt8) : hexD c < 16 ∧ -1 ≤ hexD c := by unfold hexD; split <;> (try split) <;> (try split) <;> omega
theorem low_bits : ∀ c : UInt8, bits .or .u8 (c.toNat : Int) 32 = ((lowC c).toNat : Int) := u8_all (by decide +kernel)
/-- The ways of a byte through ParseUint's tests. -/
theorem hex_ways : ∀ c : UInt8, (48 ≤ c.toNat ∧ c.toNat ≤ 57 ∧ hexD c = (c.toNat : Int) - 48) ∨
    ((c.toNat < 48 ∨ 57 < c.toNat) ∧ 97 ≤ (lowC c).toNat ∧ (lowC c).toNat ≤ 102 ∧ hexD c = ((lowC c).toNat : Int) - 87) ∨
    ((c.toNat < 48 ∨ 57 < c.toNat) ∧ 103 ≤ (lowC c).toNat ∧ (lowC c).toNat ≤ 122 ∧ hexD c = -1) ∨
    ((c.toNat < 48 ∨ 57 < c.toNat) ∧ ((lowC c).toNat < 97 ∨ 122 < (lowC c).toNat) ∧ hexD c = -1) := u8_all (by decide +kernel)
theorem low_le (c : UInt8) : (lowC c).toNat ≤ 255 := by have := (lowC c).toNat_lt; omega

theorem lower_any (c : UInt8) (w : World) : Calls Tryd.prog 66 #[.int .u8 ((c.toNat : Nat) : Int)] w fun e w' => e = .returned (.int .u8 (((lowC c).toNat : Nat) : Int)) ∧ w = w' := by
  have := Tryd.internal_strconv_lower (c.toNat : Int) w
  rw [low_bits] at this
  exact this.mono fun _ _ ⟨a, b⟩ => ⟨a, b.symm⟩

theorem ret_u64e {a b : Int} (h : a = b) : Ending.returned (.tuple #[.int .u64 a, .nilIface]) = .returned (.tuple #[.int .u64 b, .nilIface]) := by rw [h]
/-- A string of one byte. -/
def oneB (c : UInt8) : ByteArray := ⟨#[c]⟩

/-- The byte at a place; 256 behind all. -/
def bt (l : List UInt8) (i : Nat) : Nat := if h : i < l.length then l[i].toNat else 256
theorem bt_lt {l : List UInt8} {i : Nat} (h : i < l.length) : bt l i = l[i].toNat := by rw [bt, dif_pos h]
theorem bt_ge {l : List UInt8} {i : Nat} (h : l.length ≤ i) : bt l i = 256 := by rw [bt, dif_neg (by omega)]
theorem bt_str {s : ByteArray} {i : Nat} (h : i < s.size) : bt s.data.toList i = s[i].toNat := by rw [bt_lt (by simpa using h)]; rfl
theorem bt_str_ge {s : ByteArray} {i : Nat} (h : s.size ≤ i) : bt s.data.toList i = 256 := bt_ge (by simpa using h)
/-- The digit at a place; below 0: none. -/
def hx (l : List UInt8) (i : Nat) : Int := if h : i < l.length then hexD l[i] else -1
theorem hx_str {s : ByteArray} {i : Nat} (h : i < s.size) : hx s.data.toList i = hexD s[i] := by rw [hx, dif_pos (by simpa using h)]; rfl
theorem hx_str_ge {s : ByteArray} {i : Nat} (h : s.size ≤ i) : hx s.data.toList i = -1 := by rw [hx, dif_neg (by simpa using h)]

/-- So many digits more, from a place on: the number, and below 0; or 0, and where the first byte is that is none. -/
def dgs (l : List UInt8) : Nat → Nat → Int → Int × Int
  | 0, _, n => (n, -1)
  | k + 1, i, n => if hx l i < 0 then (0, (i : Int)) else dgs l k (i + 1) (16 * n + hx l i)
theorem ret2_int {a b c d : Int} (h : a = b) (h' : c = d) : Ending.returned (.tuple #[.int .i64 a, .int .i64 c]) = .returned (.tuple #[.int .i64 b, .int .i64 d]) := by rw [h, h']
theorem one_byte (s : ByteArray) (k : Nat) (h : k < s.size) : s.extract k (k + 1) = oneB s[k] := by
  apply ByteArray.ext
  rw [ByteArray.data_extract]
  apply Array.ext
  · simp [oneB]; omega
  · intro i h1 h2
    simp [oneB] at h2
    subst h2
    simp [oneB]; rfl

theorem hx_lt (l : List UInt8) (i : Nat) : hx l i < 16 := by
  unfold hx; split
  · exact (hexD_lt _).1
  · omega


end Go.Proofs.YtjnedbkbhoiopaaDoor
