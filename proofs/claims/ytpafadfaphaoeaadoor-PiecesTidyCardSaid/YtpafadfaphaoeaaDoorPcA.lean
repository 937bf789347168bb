/- Plain words of chapter 32's pieces, and walks over package pieces: bare, span, glue, key, mark; no statement of the seat is proved here. -/
import Derived.Test.YtpafadfaphaoeaaDoorTk
import Derived.Test.YtpafadfaphaoeaaDoorLat
import Derived.Shelf.Strings.SlTrimAscii
namespace Go.Proofs.YtpafadfaphaoeaaDoor
open Go.RowKit

/-- A piece. -/
structure Pc where
  kind : UInt8
  side : UInt8
  lo : Int
  hi : Int
  txt : ByteArray
def Pc.cells (p : Pc) : Array Value := #[.int .u8 (p.kind.toNat : Int), .int .u8 (p.side.toNat : Int), .int .i64 p.lo, .int .i64 p.hi, .string p.txt]
def Pc.val (p : Pc) : Value := .agg p.cells
/-- The documents, as they are handed over. -/
structure Docs where
  a0 : Option Addr
  n0 : Nat
  c0 : Nat
  a1 : Option Addr
  n1 : Nat
  c1 : Nat
  a2 : Option Addr
  n2 : Nat
  c2 : Nat
def Docs.cells (d : Docs) : Array Value := #[.slice d.a0 d.n0 d.c0, .slice d.a1 d.n1 d.c1, .slice d.a2 d.n2 d.c2]
def Docs.val (d : Docs) : Value := .agg d.cells
def Docs.len (d : Docs) (s : UInt8) : Nat := if s = 0 then d.n0 else if s = 1 then d.n1 else d.n2
def bareP (p : Pc) : Bool := decide (p.side = 0) && decide (p.lo = 0) && decide (p.hi = 0)
def glueS : List UInt8 := [32, 10, 44, 58, 123, 125, 91, 93, 61, 46]
def glueP (p : Pc) : Bool := bareP p && (Lib.trimS p.txt.data.toList glueS).isEmpty
def spanP (p : Pc) (d : Docs) : Bool := decide (p.side.toNat < 3) && decide (0 ≤ p.lo) && decide (p.lo ≤ p.hi) && decide (p.hi ≤ (d.len p.side : Int)) && p.txt.toList.isEmpty
def lineP (p : Pc) : List UInt8 := Lib.trimSuffix p.txt.data.toList [10]
def headM : List UInt8 → Bool
  | c :: _ => decide (0 ≤ Lib.indexByte [60, 61, 62] c)
  | [] => false
def markP (p : Pc) : Bool := bareP p && Lib.hasSuffix p.txt.data.toList [10] && !(lineP p).isEmpty && !decide (0 ≤ Lib.indexByte (lineP p) 10) && headM (lineP p)
def mayP (p : Pc) (d : Docs) : Bool := if p.kind = 0 then spanP p d else if p.kind = 1 then glueP p else if p.kind = 2 then bareP p else if p.kind = 3 then markP p else false

theorem u8_eqi (k : UInt8) (n : Int) (x : UInt8) (hx : (x.toNat : Int) = n) : ((k.toNat : Int) == n) = decide (k = x) := by
  subst hx
  rw [Bool.eq_iff_iff, beq_iff_eq, decide_eq_true_iff]
  constructor
  · intro h; exact UInt8.toNat_inj.1 (Int.ofNat.inj h)
  · rintro rfl; rfl
set_option maxHeartbeats 1000000 in
theorem bare_at (k s : UInt8) (f t : Int) (x : ByteArray) (w : World) : Calls Tryd.prog 36 #[.agg #[.int .u8 (k.toNat : Int), .int .u8 (s.toNat : Int), .int .i64 f, .int .i64 t, .string x]] w fun e w' => e = .returned (.bool (decide (s = 0) && decide (f = 0) && decide (t = 0))) ∧ Below w.heap.size w w' := by
  have hs := u8_eqi s 0 0 rfl
  obtain ⟨b, hb⟩ : ∃ b, decide (s = 0) = b := ⟨_, rfl⟩
  rw [hb] at hs ⊢
  clear hb
  go_enter Tryd.func36, Tryd.ntmps36
  go_wp2
  all_goals (
    go_ret
    exact ⟨ret_boo (by simp_all), below_new1 _ _⟩)
theorem bareP_is (p : Pc) (w : World) : Calls Tryd.prog 36 #[p.val] w fun e w' => e = .returned (.bool (bareP p)) ∧ Below w.heap.size w w' := bare_at p.kind p.side p.lo p.hi p.txt w

theorem doc_at (d : Docs) {s : UInt8} (h : s.toNat < 3) : ∃ A n c, d.cells[s.toNat]? = some (.slice A n c) ∧ n = d.len s := by
  have h3 : s = 0 ∨ s = 1 ∨ s = 2 := by
    rcases (by omega : s.toNat = 0 ∨ s.toNat = 1 ∨ s.toNat = 2) with e | e | e
    · exact .inl (UInt8.toNat_inj.1 e)
    · exact .inr (.inl (UInt8.toNat_inj.1 e))
    · exact .inr (.inr (UInt8.toNat_inj.1 e))
  rcases h3 with rfl | rfl | rfl
  · exact ⟨_, _, _, rfl, rfl⟩
  · exact ⟨_, _, _, rfl, rfl⟩
  · exact ⟨_, _, _, rfl, rfl⟩
set_option maxRecDepth 100000 in
set_option maxHeartbeats 4000000 in
theorem span_at (k s : UInt8) (f t : Int) (x : ByteArray) (d : Docs) (w : World) : Calls Tryd.prog 25 #[.agg #[.int .u8 (k.toNat : Int), .int .u8 (s.toNat : Int), .int .i64 f, .int .i64 t, .string x], .agg d.cells] w fun e w' =>
    e = .returned (.bool (spanP ⟨k, s, f, t, x⟩ d)) ∧ Below w.heap.size w w' := by
  have fin : ∀ r, spanP ⟨k, s, f, t, x⟩ d = r → ((Calls Tryd.prog 25 #[.agg #[.int .u8 (k.toNat : Int), .int .u8 (s.toNat : Int), .int .i64 f, .int .i64 t, .string x], .agg d.cells] w fun e w' => e = .returned (.bool r) ∧ Below w.heap.size w w') →
      Calls Tryd.prog 25 #[.agg #[.int .u8 (k.toNat : Int), .int .u8 (s.toNat : Int), .int .i64 f, .int .i64 t, .string x], .agg d.cells] w fun e w' => e = .returned (.bool (spanP ⟨k, s, f, t, x⟩ d)) ∧ Below w.heap.size w w') := by
    rintro r rfl h; exact h
  have hb2 := fun cs : Array Value => (below_new2 w (.cells #[.int .u8 (k.toNat : Int), .int .u8 (s.toNat : Int), .int .i64 f, .int .i64 t, .string x] 36) (.cells cs 24))
  by_cases h1 : s.toNat < 3
  · obtain ⟨A, n, c, hd, hn⟩ := doc_at d h1
    have hdc := Lib.hid hd
    have b1 : decide ((s.toNat : Int) < 3) = true := decide_eq_true (by omega)
    by_cases h2 : 0 ≤ f
    · by_cases h3 : f ≤ t
      · by_cases h4 : t ≤ (n : Int)
        · refine fin (x.toList.isEmpty) (by simp [spanP, h1, h2, h3, ← hn, h4]) ?_
          have b2 : decide ((0 : Int) ≤ f) = true := decide_eq_true h2
          have b3 : decide (f ≤ t) = true := decide_eq_true h3
          have b4 : decide (t ≤ (n : Int)) = true := decide_eq_true h4
          obtain ⟨cs, hcs⟩ : ∃ cs, cs = d.cells := ⟨_, rfl⟩
          rw [← hcs] at hd ⊢
          clear fin hcs hdc hn
          go_enter Tryd.func25, Tryd.ntmps25
          go_wp2
          go_big_quiet (fail)
          go_wp2
          go_ret
          exact ⟨rfl, below_drewN (hb2 cs) _⟩
        · refine fin false (by simp [spanP, ← hn, h4]) ?_
          have b2 : decide ((0 : Int) ≤ f) = true := decide_eq_true h2
          have b3 : decide (f ≤ t) = true := decide_eq_true h3
          have b4 : decide (t ≤ (n : Int)) = false := decide_eq_false h4
          obtain ⟨cs, hcs⟩ : ∃ cs, cs = d.cells := ⟨_, rfl⟩
          rw [← hcs] at hd ⊢
          clear fin hcs hdc hn
          go_enter Tryd.func25, Tryd.ntmps25
          go_wp2
          go_big_quiet (fail)
          go_wp2
          go_ret
          exact ⟨rfl, below_drewN (hb2 cs) _⟩
      · refine fin false (by simp [spanP, h3]) ?_
        have b2 : decide ((0 : Int) ≤ f) = true := decide_eq_true h2
        have b3 : decide (f ≤ t) = false := decide_eq_false h3
        obtain ⟨cs, hcs⟩ : ∃ cs, cs = d.cells := ⟨_, rfl⟩
        rw [← hcs] at hd ⊢
        clear fin hcs hdc hn
        go_enter Tryd.func25, Tryd.ntmps25
        go_wp2
        go_big_quiet (fail)
        go_wp2
        go_ret
        exact ⟨rfl, below_drewN (hb2 cs) _⟩
    · refine fin false (by simp [spanP, h2]) ?_
      have b2 : decide ((0 : Int) ≤ f) = false := decide_eq_false h2
      clear fin hd hn hdc
      obtain ⟨cs, hcs⟩ : ∃ cs, cs = d.cells := ⟨_, rfl⟩
      rw [← hcs]
      clear hcs
      go_enter Tryd.func25, Tryd.ntmps25
      go_wp2
      go_big_quiet (fail)
      go_wp2
      go_ret
      exact ⟨rfl, below_drewN (hb2 cs) _⟩
  · refine fin false (by simp [spanP, h1]) ?_
    have b1 : decide ((s.toNat : Int) < 3) = false := decide_eq_false (by omega)
    obtain ⟨cs, hcs⟩ : ∃ cs, cs = d.cells := ⟨_, rfl⟩
    rw [← hcs]
    clear fin hcs
    go_enter Tryd.func25, Tryd.ntmps25
    go_wp2
    go_big_quiet (fail)
    go_wp2
    go_ret
    exact ⟨rfl, below_drewN (hb2 cs) _⟩

end Go.Proofs.YtpafadfaphaoeaaDoor
