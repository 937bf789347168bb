/- Plain laws of chapter 03's strings: a string of escapes alone tells its runes; half of a pair is told at its place; no program in it, and no statement of the seat is proved here. -/
import Derived.Test.YtpchipmpgoflfaaDoorQuZ
namespace Go.Proofs.YtpchipmpgoflfaaDoor
open Go.RowKit

/-- A digit of base 16, of either case. -/
def hexU (up : Bool) (d : Nat) : UInt8 := if d < 10 then UInt8.ofNat (48 + d) else if up then UInt8.ofNat (55 + d) else UInt8.ofNat (87 + d)
theorem hexD_hexU (up : Bool) : ∀ d : Fin 16, hexD (hexU up d.val) = (d.val : Int) := by cases up <;> decide +kernel
/-- An escape of a number below 65536. -/
def hexL (n : Nat) (up : Bool) : List UInt8 := [92, 117, hexU up (n / 4096 % 16), hexU up (n / 256 % 16), hexU up (n / 16 % 16), hexU up (n % 16)]
theorem hexL_len (n : Nat) (up : Bool) : (hexL n up).length = 6 := rfl
theorem drop_app {l a r : List UInt8} {i : Nat} (h : l.drop i = a ++ r) : l.drop (i + a.length) = r := by
  rw [← List.drop_drop, h, List.drop_left]
theorem unit_hex {l : List UInt8} {i n : Nat} {up : Bool} {r : List UInt8} (h : l.drop i = hexL n up ++ r) (hn : n < 65536) : unitL l i = ((n : Int), -1) := by
  have k3 := hexD_hexU up ⟨n / 4096 % 16, by omega⟩
  have k2 := hexD_hexU up ⟨n / 256 % 16, by omega⟩
  have k1 := hexD_hexU up ⟨n / 16 % 16, by omega⟩
  have k0 := hexD_hexU up ⟨n % 16, by omega⟩
  dsimp only at k0 k1 k2 k3
  have h' : l.drop i = 92 :: 117 :: hexU up (n / 4096 % 16) :: hexU up (n / 256 % 16) :: hexU up (n / 16 % 16) :: hexU up (n % 16) :: r := h
  rw [unitL_four h' (by omega) (by omega) (by omega) (by omega), k3, k2, k1, k0]
  congr 1
  omega
theorem esc_rune {l : List UInt8} {i n : Nat} {up : Bool} {r : List UInt8} (h : l.drop i = hexL n up ++ r) : i + 1 < l.length ∧ escL l i = (putL [(runeL l i).1], (runeL l i).2.1, (runeL l i).2.2.1, (runeL l i).2.2.2) := by
  obtain ⟨_, _, h1⟩ := drop_cons (x := 92) h
  obtain ⟨hi1, e1, _⟩ := drop_cons (x := 117) h1
  refine ⟨hi1, esc_none hi1 ?_⟩
  rw [bt_lt hi1, e1]; decide
theorem rd_one {l : List UInt8} {i n : Nat} {up : Bool} {r out : List UInt8} (h : l.drop i = hexL n up ++ r) (hn : n < 65536) (hs : n < 55296 ∨ 57344 ≤ n) : rdQ l i out = rdQ l (i + 6) (out ++ putL [(n : Int)]) := by
  obtain ⟨_, he⟩ := esc_rune h
  have hu := unit_hex h hn
  have hr : runeL l i = ((n : Int), 6, 0, 0) := by unfold runeL; rw [hu]; dsimp only; rw [if_neg (by omega), if_pos (by omega)]
  rw [hr] at he
  exact rdQ_escL (k := 6) (by exact h) he (by omega)
theorem rd_two {l : List UInt8} {i p q : Nat} {up : Bool} {r out : List UInt8} (h : l.drop i = hexL p up ++ (hexL q up ++ r)) (h1 : 55296 ≤ p) (h2 : p < 56320) (h3 : 56320 ≤ q) (h4 : q < 57344) : rdQ l i out = rdQ l (i + 12) (out ++ putL [65536 + ((p : Int) - 55296) * 1024 + q - 56320]) := by
  obtain ⟨_, he⟩ := esc_rune h
  have hu := unit_hex h (by omega)
  have hv := unit_hex (drop_app h) (by omega)
  rw [hexL_len] at hv
  have hr : runeL l i = (65536 + ((p : Int) - 55296) * 1024 + q - 56320, 12, 0, 0) := by unfold runeL; rw [hu, hv]; dsimp only; rw [if_neg (by omega), if_neg (by omega), if_neg (by omega)]
  rw [hr] at he
  exact rdQ_escL (k := 12) (by exact h) he (by omega)
theorem rd_half {l : List UInt8} {i p : Nat} {up : Bool} {y : UInt8} {r out : List UInt8} (h : l.drop i = hexL p up ++ y :: r) (h1 : 55296 ≤ p) (h2 : p < 57344) (h3 : 56320 ≤ p ∨ y ≠ 92) : rdQ l i out = ([], 6, (i : Int)) := by
  obtain ⟨_, he⟩ := esc_rune h
  have hu := unit_hex h (by omega)
  have hi : i < l.length := by omega
  have hg : l[i].toNat = 92 := by
    obtain ⟨_, e, _⟩ := drop_cons (x := 92) h
    rw [e]; rfl
  have hr : runeL l i = (0, 0, 6, (i : Int)) := by
    unfold runeL
    rw [hu]
    dsimp only
    rw [if_neg (by omega), if_neg (by omega), if_pos]
    rcases h3 with h3 | h3
    · left; omega
    · right; left
      have hd := drop_app h
      rw [hexL_len] at hd
      obtain ⟨hi6, e6, _⟩ := drop_cons hd
      rw [unitL_eq, if_pos (by rw [bt_lt hi6, e6]; intro hy; exact h3 (UInt8.toNat_inj.1 hy))]
      dsimp only; omega
  rw [hr] at he
  rw [rdQ, dif_pos hi, if_neg (by omega), if_neg (by omega), if_neg (by omega), he, dif_neg (by simp)]

/-- Escapes of a rune: one, or two. -/
def escU (up : Bool) (n : Nat) : List UInt8 := if n < 65536 then hexL n up else hexL (55296 + (n - 65536) / 1024) up ++ hexL (56320 + (n - 65536) % 1024) up
def runeOk (n : Nat) : Prop := n ≤ 1114111 ∧ (n < 55296 ∨ 57344 ≤ n)
def escUs (up : Bool) (rs : List Nat) : List UInt8 := rs.flatMap (escU up)
def putN (rs : List Nat) : List UInt8 := putL (rs.map fun n : Nat => (n : Int))
theorem putN_cons (n : Nat) (rs : List Nat) : putN (n :: rs) = putL [(n : Int)] ++ putN rs := by simp [putN, putL]
theorem putN_snoc (n : Nat) (rs : List Nat) : putN (rs ++ [n]) = putN rs ++ putL [(n : Int)] := by simp [putN, putL]
theorem rd_escU {l : List UInt8} {i n : Nat} {up : Bool} {r out : List UInt8} (h : l.drop i = escU up n ++ r) (hn : runeOk n) : rdQ l i out = rdQ l (i + (escU up n).length) (out ++ putL [(n : Int)]) := by
  unfold escU at h ⊢
  obtain ⟨h1, h2⟩ := hn
  by_cases hb : n < 65536
  · rw [if_pos hb] at h ⊢
    exact rd_one h hb (by omega)
  · rw [if_neg hb] at h ⊢
    rw [List.append_assoc] at h
    rw [rd_two h (by omega) (by omega) (by omega) (by omega)]
    rw [show (65536 + (((55296 + (n - 65536) / 1024 : Nat) : Int) - 55296) * 1024 + ((56320 + (n - 65536) % 1024 : Nat) : Int) - 56320) = (n : Int) by omega]
    rfl
theorem rd_escs {l : List UInt8} {up : Bool} {r : List UInt8} : ∀ (rs : List Nat) (i : Nat) (out : List UInt8), l.drop i = escUs up rs ++ r → (∀ n ∈ rs, runeOk n) → rdQ l i out = rdQ l (i + (escUs up rs).length) (out ++ putN rs) ∧ l.drop (i + (escUs up rs).length) = r := by
  intro rs
  induction rs with
  | nil => intro i out h _; exact ⟨by simp [escUs, putN, putL], by simpa [escUs] using h⟩
  | cons n rs ih =>
    intro i out h hok
    have e : escUs up (n :: rs) = escU up n ++ escUs up rs := by simp [escUs]
    rw [e, List.append_assoc] at h
    obtain ⟨i1, i2⟩ := ih (i + (escU up n).length) (out ++ putL [(n : Int)]) (drop_app h) (fun m hm => hok m (by simp [hm]))
    rw [e, List.length_append, putN_cons, ← List.append_assoc, ← Nat.add_assoc]
    exact ⟨(rd_escU h (hok n (by simp))).trans i1, i2⟩
/-- A string of escapes, and something behind them. -/
theorem esc_read {up : Bool} {rs : List Nat} (hok : ∀ n ∈ rs, runeOk n) (t : List UInt8) : readQ (34 :: (escUs up rs ++ t)) = rdQ (34 :: (escUs up rs ++ t)) (1 + (escUs up rs).length) (putN rs) ∧ (34 :: (escUs up rs ++ t)).drop (1 + (escUs up rs).length) = t := by
  have h := rd_escs (l := 34 :: (escUs up rs ++ t)) (up := up) (r := t) rs 1 [] rfl hok
  rw [readQ_rd (by simp) (by rw [bt_lt (by simp)]; rfl), h.1]
  exact ⟨by simp, h.2⟩
theorem esc_good {up : Bool} {rs : List Nat} (hok : ∀ n ∈ rs, runeOk n) : readQ (34 :: (escUs up rs ++ [34])) = (putN rs, 0, 0) := by
  obtain ⟨h1, h2⟩ := esc_read (up := up) hok [34]
  rw [h1, rdQ_quoteL h2]
theorem esc_half {up : Bool} {rs : List Nat} (hok : ∀ n ∈ rs, runeOk n) {p : Nat} {y : UInt8} {r : List UInt8} (h1 : 55296 ≤ p) (h2 : p < 57344) (h3 : 56320 ≤ p ∨ y ≠ 92) : readQ (34 :: (escUs up rs ++ (hexL p up ++ y :: r))) = ([], 6, ((escUs up rs).length : Int) + 1) := by
  obtain ⟨g1, g2⟩ := esc_read (up := up) hok (hexL p up ++ y :: r)
  rw [g1, rd_half g2 h1 h2 h3]
  congr 2
  omega
theorem esc_pair {up : Bool} {rs : List Nat} (hok : ∀ n ∈ rs, runeOk n) {p q : Nat} (h1 : 55296 ≤ p) (h2 : p < 56320) (h3 : 56320 ≤ q) (h4 : q < 57344) : readQ (34 :: (escUs up rs ++ (hexL p up ++ (hexL q up ++ [34])))) = (putN (rs ++ [65536 + 1024 * (p - 55296) + (q - 56320)]), 0, 0) := by
  obtain ⟨g1, g2⟩ := esc_read (up := up) hok (hexL p up ++ (hexL q up ++ [34]))
  have g3 := drop_app (drop_app g2)
  rw [hexL_len, hexL_len, Nat.add_assoc] at g3
  rw [g1, rd_two g2 h1 h2 h3 h4, rdQ_quoteL g3, putN_snoc, show (65536 + ((p : Int) - 55296) * 1024 + (q : Int) - 56320) = ((65536 + 1024 * (p - 55296) + (q - 56320) : Nat) : Int) by omega]
theorem escUs_snoc (up : Bool) (rs : List Nat) (n : Nat) : escUs up (rs ++ [n]) = escUs up rs ++ escU up n := by simp [escUs]
theorem escU_len (up : Bool) (n : Nat) : (escU up n).length ≤ 12 := by unfold escU; split <;> simp [hexL]
theorem escUs_len (up : Bool) (rs : List Nat) : (escUs up rs).length ≤ 12 * rs.length := by
  induction rs with
  | nil => simp [escUs]
  | cons n rs ih =>
    have := escU_len up n
    have e : escUs up (n :: rs) = escU up n ++ escUs up rs := by simp [escUs]
    rw [e, List.length_append, List.length_cons]; omega

end Go.Proofs.YtpchipmpgoflfaaDoor
