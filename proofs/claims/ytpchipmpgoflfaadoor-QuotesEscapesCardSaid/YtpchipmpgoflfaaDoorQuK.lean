/- The walk over the law's helper hex; no statement of the seat is proved here. -/
import Derived.Test.YtpchipmpgoflfaaDoorQuL
import Derived.Test.YtpchipmpgoflfaaDoorQuH
import Derived.Test.YtpchipmpgoflfaaDoorQuG
import Derived.Test.YtpchipmpgoflfaaDoorLat
namespace Go.Proofs.YtpchipmpgoflfaaDoor
open Go.RowKit

theorem i64_and15 (a : Nat) (ha : a < 9223372036854775808) : bits .and .i64 (a : Int) 15 = ((a % 16 : Nat) : Int) := by
  show IntKind.i64.wrap ((BitVec.ofInt 64 (a : Int) &&& BitVec.ofInt 64 15).toNat : Int) = _
  rw [BitVec.toNat_and, ofInt_i64 a ha, show (BitVec.ofInt 64 15).toNat = 2 ^ 4 - 1 by decide, Nat.and_two_pow_sub_one_eq_mod, IntKind.wrap_i64]
  omega
theorem and_at (n d : Nat) (h : n < 65536) : bits .and .i64 ((n : Int) / (d : Int)) 15 = ((n / d % 16 : Nat) : Int) := by
  have : n / d ≤ n := Nat.div_le_self _ _
  rw [← i64_and15 (n / d) (by omega)]
  rfl
def hexDg (up : Bool) : ByteArray := if up then ⟨#[48, 49, 50, 51, 52, 53, 54, 55, 56, 57, 65, 66, 67, 68, 69, 70]⟩ else ⟨#[48, 49, 50, 51, 52, 53, 54, 55, 56, 57, 97, 98, 99, 100, 101, 102]⟩
theorem hexU_sl (up : Bool) (v : Nat) (h : v < 16) : ∀ W : World, (Instr.slice 9 (.string (hexDg up)) (some (.int .i64 (v : Int))) (some (.int .i64 ((v : Int) + 1))) none).run Tryd.prog W = .ok (.string (oneB (hexU up v))) W := by
  have hv : v = 0 ∨ v = 1 ∨ v = 2 ∨ v = 3 ∨ v = 4 ∨ v = 5 ∨ v = 6 ∨ v = 7 ∨ v = 8 ∨ v = 9 ∨ v = 10 ∨ v = 11 ∨ v = 12 ∨ v = 13 ∨ v = 14 ∨ v = 15 := by omega
  cases up <;> rcases hv with rfl | rfl | rfl | rfl | rfl | rfl | rfl | rfl | rfl | rfl | rfl | rfl | rfl | rfl | rfl | rfl
  all_goals exact fun W => by kernel_rfl
theorem hex_app {p : ByteArray} {l : List UInt8} {c : UInt8} (h : p.data.toList = l) : (p ++ oneB c).data.toList = l ++ [c] := by
  rw [ByteArray.data_append, Array.toList_append, h]; rfl

theorem hex_size {p : ByteArray} {l : List UInt8} (h : p.data.toList = l) (hl : l.length ≤ 6) : p.size ≤ 6 := by
  rw [← h] at hl; exact hl
theorem hex_one (c : UInt8) : (oneB c).size = 1 := rfl

set_option maxRecDepth 100000 in
set_option maxHeartbeats 2000000 in
theorem hex_any (n : Nat) (hn : n < 65536) (up : Bool) (w : World) :
    Calls Tryd.prog 14 #[.int .i64 (n : Int), .bool up] w fun e w' => e = .returned (.string ⟨(hexL n up).toArray⟩) ∧ w' = w := by
  cases up
  · have hsl := hexU_sl false
    simp only [hexDg, Bool.false_eq_true, ↓reduceIte] at hsl
    have HS := Lib.hid hsl; clear hsl
    go_enter Tryd.func14, Tryd.ntmps14
    go_wp2
    go_loopg [6, 7] 5 (fun g s6 s7 wr => wr = w ∧ ∃ o : ByteArray, s6 = .string o ∧ (s7 = .int .i64 12 ∧ Hid (o.data.toList = (hexL n false).take 2) ∧ Hid (g = 5) ∨ s7 = .int .i64 8 ∧ Hid (o.data.toList = (hexL n false).take 3) ∧ Hid (g = 4) ∨ s7 = .int .i64 4 ∧ Hid (o.data.toList = (hexL n false).take 4) ∧ Hid (g = 3) ∨ s7 = .int .i64 0 ∧ Hid (o.data.toList = (hexL n false).take 5) ∧ Hid (g = 2) ∨ s7 = .int .i64 (-4) ∧ Hid (o.data.toList = hexL n false) ∧ Hid (g = 1)))
    case atStart => exact ⟨rfl, _, rfl, .inl ⟨rfl, rfl, rfl⟩⟩
    case round =>
      obtain ⟨rfl, o, rfl, ⟨rfl, ho, hg⟩ | ⟨rfl, ho, hg⟩ | ⟨rfl, ho, hg⟩ | ⟨rfl, ho, hg⟩ | ⟨rfl, ho, hg⟩⟩ := hrel
      · obtain ⟨v, hv, hv2, hb⟩ : ∃ v : Nat, Hid (v = n / 4096 % 16) ∧ v < 16 ∧ bits .and .i64 ((n : Int) / 4096) 15 = (v : Int) := ⟨_, rfl, by omega, by exact and_at n 4096 hn⟩
        have hi := HS.out v hv2
        have hol := hex_size ho.out (by simp [hexL])
        have h1s := hex_one (hexU false v)
        go_wp2
        go_roundg 4
        case measure => have := hg.out; omega
        case rel =>
          have hv' := hv.out
          subst hv'
          exact ⟨rfl, _, rfl, .inr (.inl ⟨rfl, hex_app (l := (hexL n false).take 2) ho.out, rfl⟩)⟩
      · obtain ⟨v, hv, hv2, hb⟩ : ∃ v : Nat, Hid (v = n / 256 % 16) ∧ v < 16 ∧ bits .and .i64 ((n : Int) / 256) 15 = (v : Int) := ⟨_, rfl, by omega, by exact and_at n 256 hn⟩
        have hi := HS.out v hv2
        have hol := hex_size ho.out (by simp [hexL])
        have h1s := hex_one (hexU false v)
        go_wp2
        go_roundg 3
        case measure => have := hg.out; omega
        case rel =>
          have hv' := hv.out
          subst hv'
          exact ⟨rfl, _, rfl, .inr (.inr (.inl ⟨rfl, hex_app (l := (hexL n false).take 3) ho.out, rfl⟩))⟩
      · obtain ⟨v, hv, hv2, hb⟩ : ∃ v : Nat, Hid (v = n / 16 % 16) ∧ v < 16 ∧ bits .and .i64 ((n : Int) / 16) 15 = (v : Int) := ⟨_, rfl, by omega, by exact and_at n 16 hn⟩
        have hi := HS.out v hv2
        have hol := hex_size ho.out (by simp [hexL])
        have h1s := hex_one (hexU false v)
        go_wp2
        go_roundg 2
        case measure => have := hg.out; omega
        case rel =>
          have hv' := hv.out
          subst hv'
          exact ⟨rfl, _, rfl, .inr (.inr (.inr (.inl ⟨rfl, hex_app (l := (hexL n false).take 4) ho.out, rfl⟩)))⟩
      · obtain ⟨v, hv, hv2, hb⟩ : ∃ v : Nat, Hid (v = n % 16) ∧ v < 16 ∧ bits .and .i64 (n : Int) 15 = (v : Int) := ⟨_, rfl, by omega, by exact i64_and15 n (by omega)⟩
        have hi := HS.out v hv2
        have hol := hex_size ho.out (by simp [hexL])
        have h1s := hex_one (hexU false v)
        go_wp2
        go_roundg 1
        case measure => have := hg.out; omega
        case rel =>
          have hv' := hv.out
          subst hv'
          exact ⟨rfl, _, rfl, .inr (.inr (.inr (.inr (⟨rfl, hex_app (l := (hexL n false).take 5) ho.out, rfl⟩))))⟩
      · go_wp2
        go_ret
        refine ⟨?_, rfl⟩
        show Ending.returned (.string o) = _
        rw [← ho.out]
  · have hsl := hexU_sl true
    simp only [hexDg, ↓reduceIte] at hsl
    have HS := Lib.hid hsl; clear hsl
    go_enter Tryd.func14, Tryd.ntmps14
    go_wp2
    go_loopg [6, 7] 5 (fun g s6 s7 wr => wr = w ∧ ∃ o : ByteArray, s6 = .string o ∧ (s7 = .int .i64 12 ∧ Hid (o.data.toList = (hexL n true).take 2) ∧ Hid (g = 5) ∨ s7 = .int .i64 8 ∧ Hid (o.data.toList = (hexL n true).take 3) ∧ Hid (g = 4) ∨ s7 = .int .i64 4 ∧ Hid (o.data.toList = (hexL n true).take 4) ∧ Hid (g = 3) ∨ s7 = .int .i64 0 ∧ Hid (o.data.toList = (hexL n true).take 5) ∧ Hid (g = 2) ∨ s7 = .int .i64 (-4) ∧ Hid (o.data.toList = hexL n true) ∧ Hid (g = 1)))
    case atStart => exact ⟨rfl, _, rfl, .inl ⟨rfl, rfl, rfl⟩⟩
    case round =>
      obtain ⟨rfl, o, rfl, ⟨rfl, ho, hg⟩ | ⟨rfl, ho, hg⟩ | ⟨rfl, ho, hg⟩ | ⟨rfl, ho, hg⟩ | ⟨rfl, ho, hg⟩⟩ := hrel
      · obtain ⟨v, hv, hv2, hb⟩ : ∃ v : Nat, Hid (v = n / 4096 % 16) ∧ v < 16 ∧ bits .and .i64 ((n : Int) / 4096) 15 = (v : Int) := ⟨_, rfl, by omega, by exact and_at n 4096 hn⟩
        have hi := HS.out v hv2
        have hol := hex_size ho.out (by simp [hexL])
        have h1s := hex_one (hexU true v)
        go_wp2
        go_roundg 4
        case measure => have := hg.out; omega
        case rel =>
          have hv' := hv.out
          subst hv'
          exact ⟨rfl, _, rfl, .inr (.inl ⟨rfl, hex_app (l := (hexL n true).take 2) ho.out, rfl⟩)⟩
      · obtain ⟨v, hv, hv2, hb⟩ : ∃ v : Nat, Hid (v = n / 256 % 16) ∧ v < 16 ∧ bits .and .i64 ((n : Int) / 256) 15 = (v : Int) := ⟨_, rfl, by omega, by exact and_at n 256 hn⟩
        have hi := HS.out v hv2
        have hol := hex_size ho.out (by simp [hexL])
        have h1s := hex_one (hexU true v)
        go_wp2
        go_roundg 3
        case measure => have := hg.out; omega
        case rel =>
          have hv' := hv.out
          subst hv'
          exact ⟨rfl, _, rfl, .inr (.inr (.inl ⟨rfl, hex_app (l := (hexL n true).take 3) ho.out, rfl⟩))⟩
      · obtain ⟨v, hv, hv2, hb⟩ : ∃ v : Nat, Hid (v = n / 16 % 16) ∧ v < 16 ∧ bits .and .i64 ((n : Int) / 16) 15 = (v : Int) := ⟨_, rfl, by omega, by exact and_at n 16 hn⟩
        have hi := HS.out v hv2
        have hol := hex_size ho.out (by simp [hexL])
        have h1s := hex_one (hexU true v)
        go_wp2
        go_roundg 2
        case measure => have := hg.out; omega
        case rel =>
          have hv' := hv.out
          subst hv'
          exact ⟨rfl, _, rfl, .inr (.inr (.inr (.inl ⟨rfl, hex_app (l := (hexL n true).take 4) ho.out, rfl⟩)))⟩
      · obtain ⟨v, hv, hv2, hb⟩ : ∃ v : Nat, Hid (v = n % 16) ∧ v < 16 ∧ bits .and .i64 (n : Int) 15 = (v : Int) := ⟨_, rfl, by omega, by exact i64_and15 n (by omega)⟩
        have hi := HS.out v hv2
        have hol := hex_size ho.out (by simp [hexL])
        have h1s := hex_one (hexU true v)
        go_wp2
        go_roundg 1
        case measure => have := hg.out; omega
        case rel =>
          have hv' := hv.out
          subst hv'
          exact ⟨rfl, _, rfl, .inr (.inr (.inr (.inr (⟨rfl, hex_app (l := (hexL n true).take 5) ho.out, rfl⟩))))⟩
      · go_wp2
        go_ret
        refine ⟨?_, rfl⟩
        show Ending.returned (.string o) = _
        rw [← ho.out]

end Go.Proofs.YtpchipmpgoflfaaDoor
