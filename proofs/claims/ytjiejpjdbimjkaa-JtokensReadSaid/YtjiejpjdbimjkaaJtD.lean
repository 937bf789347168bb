/- Walks over package jtokens: readers, Next; no statement of the seat is proved here. -/
import Derived.Test.YtjiejpjdbimjkaaJtC
import Derived.Deep.RegionWith
import Derived.Deep.RegionHeld3
import Derived.Laws.EntriesVeiled
namespace Go.Proofs.Ytjiejpjdbimjkaa
open Go.RowKit

set_option maxHeartbeats 400000 in
theorem r1_any (A : Option Addr) (l : List UInt8) (c : Nat) (k : Nat) (hl : l.length ≤ 4611686018427387904) (w : World) (hB : BS w w.heap.size A l) :
    Calls Try.prog 24 #[.slice A l.length c, .int .i64 k] w fun e w' => e = .returned (.tuple #[.int .i64 (runL isSpace l k : Nat), .int .i64 (-1)]) ∧ Below w.heap.size w w' := by
  have HB := Lib.hid hB; clear hB
  go_enter Try.func24, Try.ntmps24
  go_wp2_with (go_at_call 25; refine (run_any _ _ space_enters space_tells _ _ _ rfl _ _ (by omega) hl _ HB.out).mono ?_; rw [Int.toNat_natCast]; rintro e w1 ⟨rfl, hb1⟩)
  go_ret2
  exact ⟨rfl, hb1⟩

set_option maxHeartbeats 400000 in
theorem r3_any (v : Value) (k : Nat) (hk : k ≤ 4611686018427387904) (w : World) :
    Calls Try.prog 28 #[v, .int .i64 k] w fun e w' => e = .returned (.tuple #[.int .i64 ((k : Int) + 1), .int .i64 (-1)]) ∧ Below w.heap.size w w' := by
  go_enter Try.func28, Try.ntmps28
  go_wp2
  go_ret2
  exact ⟨rfl, Below.refl _ _⟩

def readersV : Array Value := #[.int .u8 0, .func (.func 23) #[] #[], .func (.func 24) #[] #[], .int .u8 1, .func (.func 26) #[] #[], .func (.func 28) #[] #[], .int .u8 2, .func (.func 29) #[] #[], .func (.func 30) #[] #[], .int .u8 3, .func (.func 31) #[] #[], .func (.func 33) #[] #[], .int .u8 4, .func (.func 34) #[] #[], .func (.func 35) #[] #[]]

set_option maxHeartbeats 400000 in
theorem readers_any (w : World) :
    Calls Try.prog 16 #[] w fun e w' => e = .returned (.agg readersV) ∧ Below w.heap.size w w' := by
  go_enter Try.func16, Try.ntmps16
  go_wp2
  exact bodyPost_ret (v := .agg readersV) (by simp [results, Try.results16, go_sem, readersV]) rfl ⟨rfl, (Below.refl _ _).alloc (Nat.le_refl _) _⟩

/-- A token, or what is wrong. -/
structure TokF where
  kind : Int
  from_ : Int
  to_ : Int
  code : Int
  at_ : Int
def tokOk (kd f t : Int) : TokF := ⟨kd, f, t, 0, 0⟩
def tokErr (k : Int) : TokF := ⟨0, 0, 0, 3, k⟩
def TokF.val (t : TokF) : Value := .tuple #[.agg #[.int .u8 t.kind, .int .i64 t.from_, .int .i64 t.to_], .agg #[.int .i64 t.code, .int .i64 t.at_]]
def tokEnd (kd : Int) (k : Nat) (r : Int × Int) : TokF := if r.2 = -1 then tokOk kd k r.1 else tokErr r.2
/-- The readers from number i on. -/
def nextF (l : List UInt8) (k : Nat) (b : UInt8) (i : Int) : TokF :=
  if i ≤ 0 ∧ isSpace b then tokEnd 0 k ((runL isSpace l k : Nat), -1)
  else if i ≤ 1 ∧ isMark b then tokEnd 1 k ((k : Int) + 1, -1)
  else if i ≤ 2 ∧ isLetter b then tokEnd 2 k (wordM l k)
  else if i ≤ 3 ∧ isNum b then tokEnd 3 k (numM l k)
  else if i ≤ 4 ∧ isQuote b then tokEnd 4 k (strM l (k + 1))
  else tokErr k
def nextM (l : List UInt8) (i : Int) : TokF :=
  if h : 0 ≤ i ∧ i.toNat < l.length then nextF l i.toNat l[i.toNat] 0 else tokErr (max i 0)

set_option maxHeartbeats 1000000 in
theorem next_out (A : Option Addr) (l : List UInt8) (c : Nat) (i : Int) (h : ¬ (0 ≤ i ∧ i.toNat < l.length)) (w : World) :
    Calls Try.prog 10 #[.slice A l.length c, .int .i64 i] w fun e w' => e = .returned (nextM l i).val ∧ Below w.heap.size w w' := by
  rw [nextM, dif_neg h, tokErr]
  have hb : ∀ o1 o2, Below w.heap.size w ((w.alloc o1).alloc o2) := fun o1 o2 => ((Below.refl _ _).alloc (Nat.le_refl _) o1).alloc (by simp) o2
  by_cases h0 : i < 0
  · clear h
    go_enter Try.func10, Try.ntmps10
    go_wp2
    exact bodyPost_ret (v := .tuple #[.agg #[.int .u8 0, .int .i64 0, .int .i64 0], .agg #[.int .i64 3, .int .i64 (max i 0)]]) (by simp [results, Try.results10, go_sem]) rfl ⟨rfl, hb _ _⟩
  · have h1 : (l.length : Int) ≤ i := by omega
    clear h
    go_enter Try.func10, Try.ntmps10
    go_wp2
    exact bodyPost_ret (v := .tuple #[.agg #[.int .u8 0, .int .i64 0, .int .i64 0], .agg #[.int .i64 3, .int .i64 (max i 0)]]) (by simp [results, Try.results10, go_sem]) rfl ⟨rfl, hb _ _⟩

/-- What Next's results lie in: two blocks of its own. -/
def NxB (N : Nat) (w : World) : Prop := w.heap[N]? = some (.cells #[.int .u8 0, .int .i64 0, .int .i64 0] 36 (0, 0)) ∧ w.heap[N + 1]? = some (.cells #[.int .i64 0, .int .i64 0] 28 (0, 0))
theorem NxB.later {N : Nat} {w w' : World} (h : NxB N w) {B : Nat} (hb : Below B w w') (hB : N + 1 < B) : NxB N w' := ⟨blk_later h.1 hb (by omega), blk_later h.2 hb hB⟩

theorem NxB.facts {N : Nat} {w : World} (h : NxB N w) : w.cell? ⟨N, 0, none⟩ = some (.int .u8 0) ∧ w.cell? ⟨N, 1, none⟩ = some (.int .i64 0) ∧ w.cell? ⟨N, 2, none⟩ = some (.int .i64 0) ∧ w.cell? ⟨N + 1, 0, none⟩ = some (.int .i64 0) ∧ w.cell? ⟨N + 1, 1, none⟩ = some (.int .i64 0) ∧
    w.frozen? ⟨N, 0, none⟩ = false ∧ w.frozen? ⟨N, 1, none⟩ = false ∧ w.frozen? ⟨N, 2, none⟩ = false ∧ w.frozen? ⟨N + 1, 0, none⟩ = false ∧ w.frozen? ⟨N + 1, 1, none⟩ = false ∧ N + 1 < w.heap.size :=
  ⟨blk_cell h.1 0, blk_cell h.1 1, blk_cell h.1 2, blk_cell h.2 0, blk_cell h.2 1, blk_frozen h.1 0, blk_frozen h.1 1, blk_frozen h.1 2, blk_frozen h.2 0, blk_frozen h.2 1, blk_lt h.2⟩

/-- Function g ends a token that begins at k: r. -/
def Ends (g : FuncId) (A : Option Addr) (l : List UInt8) (c k : Nat) (r : Int × Int) : Prop :=
  ∀ w : World, BS w w.heap.size A l → Calls Try.prog g #[.slice A l.length c, .int .i64 k] w fun e w' => e = .returned (.tuple #[.int .i64 r.1, .int .i64 r.2]) ∧ Below w.heap.size w w'

theorem rd_0 (w : World) : (Instr.index 54 (.agg #[.int .u8 0, .func (.func 23) #[] #[], .func (.func 24) #[] #[], .int .u8 1, .func (.func 26) #[] #[], .func (.func 28) #[] #[], .int .u8 2, .func (.func 29) #[] #[], .func (.func 30) #[] #[], .int .u8 3, .func (.func 31) #[] #[], .func (.func 33) #[] #[], .int .u8 4, .func (.func 34) #[] #[], .func (.func 35) #[] #[]]) (.int .i64 0)).run Try.prog w = .ok (.agg #[.int .u8 0, .func (.func 23) #[] #[], .func (.func 24) #[] #[]]) w := by kernel_rfl
theorem rd_1 (w : World) : (Instr.index 54 (.agg #[.int .u8 0, .func (.func 23) #[] #[], .func (.func 24) #[] #[], .int .u8 1, .func (.func 26) #[] #[], .func (.func 28) #[] #[], .int .u8 2, .func (.func 29) #[] #[], .func (.func 30) #[] #[], .int .u8 3, .func (.func 31) #[] #[], .func (.func 33) #[] #[], .int .u8 4, .func (.func 34) #[] #[], .func (.func 35) #[] #[]]) (.int .i64 1)).run Try.prog w = .ok (.agg #[.int .u8 1, .func (.func 26) #[] #[], .func (.func 28) #[] #[]]) w := by kernel_rfl
theorem rd_2 (w : World) : (Instr.index 54 (.agg #[.int .u8 0, .func (.func 23) #[] #[], .func (.func 24) #[] #[], .int .u8 1, .func (.func 26) #[] #[], .func (.func 28) #[] #[], .int .u8 2, .func (.func 29) #[] #[], .func (.func 30) #[] #[], .int .u8 3, .func (.func 31) #[] #[], .func (.func 33) #[] #[], .int .u8 4, .func (.func 34) #[] #[], .func (.func 35) #[] #[]]) (.int .i64 2)).run Try.prog w = .ok (.agg #[.int .u8 2, .func (.func 29) #[] #[], .func (.func 30) #[] #[]]) w := by kernel_rfl
theorem rd_3 (w : World) : (Instr.index 54 (.agg #[.int .u8 0, .func (.func 23) #[] #[], .func (.func 24) #[] #[], .int .u8 1, .func (.func 26) #[] #[], .func (.func 28) #[] #[], .int .u8 2, .func (.func 29) #[] #[], .func (.func 30) #[] #[], .int .u8 3, .func (.func 31) #[] #[], .func (.func 33) #[] #[], .int .u8 4, .func (.func 34) #[] #[], .func (.func 35) #[] #[]]) (.int .i64 3)).run Try.prog w = .ok (.agg #[.int .u8 3, .func (.func 31) #[] #[], .func (.func 33) #[] #[]]) w := by kernel_rfl
theorem rd_4 (w : World) : (Instr.index 54 (.agg #[.int .u8 0, .func (.func 23) #[] #[], .func (.func 24) #[] #[], .int .u8 1, .func (.func 26) #[] #[], .func (.func 28) #[] #[], .int .u8 2, .func (.func 29) #[] #[], .func (.func 30) #[] #[], .int .u8 3, .func (.func 31) #[] #[], .func (.func 33) #[] #[], .int .u8 4, .func (.func 34) #[] #[], .func (.func 35) #[] #[]]) (.int .i64 4)).run Try.prog w = .ok (.agg #[.int .u8 4, .func (.func 34) #[] #[], .func (.func 35) #[] #[]]) w := by kernel_rfl

def readersC : Array Value := #[.int .u8 0, .func (.func 23) #[] #[], .func (.func 24) #[] #[], .int .u8 1, .func (.func 26) #[] #[], .func (.func 28) #[] #[], .int .u8 2, .func (.func 29) #[] #[], .func (.func 30) #[] #[], .int .u8 3, .func (.func 31) #[] #[], .func (.func 33) #[] #[], .int .u8 4, .func (.func 34) #[] #[], .func (.func 35) #[] #[]]
structure Rd (A : Option Addr) (l : List UInt8) (c k : Nat) (b : UInt8) (i : Int) (kd : Int) (f g : FuncId) (p : UInt8 → Bool) (r : Int × Int) : Prop where
  ef : Enters f
  tf : Tells f p
  eg : Enters g
  tg : Ends g A l c k r
  ix : ∀ w, (Instr.index 54 (.agg readersC) (.int .i64 i)).run Try.prog w = .ok (.agg #[.int .u8 kd, .func (.func f) #[] #[], .func (.func g) #[] #[]]) w
  yes : p b = true → nextF l k b i = tokEnd kd k r
  no : p b = false → nextF l k b i = nextF l k b (i + 1)

theorem rd_all (A : Option Addr) (l : List UInt8) (c : Nat) (hlc : l.length ≤ c) (k : Nat) (hk : k < l.length) (hl : l.length ≤ 4611686018427387904) (b : UInt8) (i : Int) (h0 : 0 ≤ i) (h5 : i < 5) :
    ∃ kd f g p r, Rd A l c k b i kd f g p r := by
  have hi : i = 0 ∨ i = 1 ∨ i = 2 ∨ i = 3 ∨ i = 4 := by omega
  rcases hi with rfl | rfl | rfl | rfl | rfl
  · exact ⟨_, _, _, _, ((runL isSpace l k : Nat), -1), space_enters, space_tells, fun args w => enters_of Try.func24 (by kernel_rfl) rfl args w, fun w h => r1_any A l c k hl w h, rd_0, fun h => by simp [nextF, h], fun h => by simp [nextF, h]⟩
  · exact ⟨_, _, _, _, ((k : Int) + 1, -1), fun args w => enters_of Try.func26 (by kernel_rfl) rfl args w, mark_tells, fun args w => enters_of Try.func28 (by kernel_rfl) rfl args w, fun w h => r3_any _ k (by omega) w, rd_1, fun h => by simp [nextF, h], fun h => by simp [nextF, h]⟩
  · exact ⟨_, _, _, _, _, letter_enters, letter_tells, fun args w => enters_of Try.func30 (by kernel_rfl) rfl args w, fun w h => word_any A l c hlc k hk hl w h, rd_2, fun h => by simp [nextF, h], fun h => by simp [nextF, h]⟩
  · exact ⟨_, _, _, _, _, fun args w => enters_of Try.func31 (by kernel_rfl) rfl args w, isnum_tells, fun args w => enters_of Try.func33 (by kernel_rfl) rfl args w, fun w h => num_any A l c k hk hl w h, rd_3, fun h => by simp [nextF, h], fun h => by simp [nextF, h]⟩
  · exact ⟨_, _, _, _, _, fun args w => enters_of Try.func34 (by kernel_rfl) rfl args w, isquote_tells, fun args w => enters_of Try.func35 (by kernel_rfl) rfl args w, fun w h => str_any A l c hlc k hk hl w h, rd_4, fun h => by simp [nextF, h], fun h => by simp [nextF, h]⟩

set_option maxHeartbeats 1000000 in
theorem next_in (A : Option Addr) (l : List UInt8) (c : Nat) (hlc : l.length ≤ c) (k : Nat) (hk : k < l.length) (hl : l.length ≤ 4611686018427387904) (w : World) (hB : BS w w.heap.size A l) :
    Calls Try.prog 10 #[.slice A l.length c, .int .i64 k] w fun e w' => e = .returned (nextF l k l[k] 0).val ∧ Below w.heap.size w w' := by
  have HB := Lib.hid hB; clear hB
  obtain ⟨b, hb⟩ : ∃ b, Hid (b = l[k]) := ⟨l[k], rfl⟩
  rw [← hb.out]
  have hk0 : decide ((k : Int) < 0) = false := by simp
  have hkl : decide ((l.length : Int) ≤ (k : Int)) = false := by simp; omega
  go_enter Try.func10, Try.ntmps10
  go_wp2_with (go_at_call 16; refine (readers_any _).mono ?_; rintro e w1 ⟨rfl, hb1⟩; rw [show readersV = readersC from rfl])
  have hN : NxB w.heap.size w1 := ⟨blk_later (heap_new2 w _ _).1 hb1 (by rw [size_new2]; omega), blk_later (heap_new2 w _ _).2 hb1 (by rw [size_new2]; omega)⟩
  have hbw : Below w.heap.size w w1 := (below_new2 w _ _).trans (hb1.mono (by rw [size_new2]; omega))
  have HN := Lib.hid hN; clear hN hb1
  go_loopg [23] 5 (fun n s wr => ∃ i : Int, 0 ≤ i ∧ i ≤ 5 ∧ s = .int .i64 i ∧ Hid (n = (5 - i).toNat) ∧ Hid (nextF l k b i = nextF l k b 0) ∧ Hid (NxB w.heap.size wr) ∧ Below w.heap.size w wr)
  case atStart => exact ⟨0, by omega, by omega, rfl, rfl, rfl, HN, hbw⟩
  case round =>
    clear HN hbw
    obtain ⟨i, hi0, hi5, rfl, hn, hr, hN, hbw⟩ := hrel
    obtain ⟨a, rfl, ha, hc⟩ := (HB.out.below hbw) k hk
    rw [← hb.out] at hc
    by_cases hlt : i < 5
    · obtain ⟨kd, f, g, p, r, hR⟩ := rd_all (some a) l c hlc k hk hl b i hi0 hlt
      have hix := hR.ix
      have hef : ∀ args w, (callFunc f args).run Try.prog w = .ok (.enter f args) w := hR.ef
      have heg : ∀ args w, (callFunc g args).run Try.prog w = .ok (.enter g args) w := hR.eg
      have HR := Lib.hid hR; clear hR
      have hca : ∀ o, (wr.alloc o).cell? (a.add k) = some (.int .u8 ((b.toNat : Nat) : Int)) := fun o => cell_later (below_new1 wr o) hc
      go_wp2
      go_cut [33] from 26 to 53 (fun s w' => s = .bool (!p b) ∧ Hid (NxB w.heap.size w') ∧ w.heap.size + 1 < wr.heap.size ∧ Hid (w'.heap[wr.heap.size]? = some (.cells #[.int .u8 kd, .func (.func f) #[] #[], .func (.func g) #[] #[]] 53 (0, 0))) ∧ Below w.heap.size w w')
      case first =>
        go_region_with (go_at_fn f; refine (HR.out.tf _ _).mono ?_; rintro e w2 ⟨rfl, hb2⟩)
        all_goals (
          go_wp2_with fail
          go_meet
          case rel =>
            have hlt' : w.heap.size + 1 < wr.heap.size := blk_lt hN.out.2
            have hs : (wr.alloc (.cells #[.int .u8 kd, .func (.func f) #[] #[], .func (.func g) #[] #[]] 53)).drew.heap.size = wr.heap.size + 1 := size_new1 _ _
            have hb3 : Below wr.heap.size wr w2 := ((below_new1 wr _).drew).trans (hb2.mono (by rw [hs]; omega))
            exact ⟨rfl, hN.out.later hb3 hlt', hlt', (hb2.block wr.heap.size (by rw [hs]; omega)).trans (heap_new1 wr _), hbw.trans (hb3.mono hbw.size)⟩)
      case rest =>
        obtain ⟨rfl, hN2, hlt', hR2, hbw2⟩ := hcut
        clear hc hca
        have q1 : wc.cell? ⟨wr.heap.size, 2, none⟩ = some (.func (.func g) #[] #[]) := blk_cell hR2.out 2
        have hltc : wr.heap.size < wc.heap.size := blk_lt hR2.out
        go_wp2_with (go_at_fn g; refine (HR.out.tg _ ((HB.out.below hbw2).mono hbw2.size)).mono ?_; rintro e w2 ⟨rfl, hb2⟩; have q2 : w2.cell? ⟨wr.heap.size, 0, none⟩ = some (.int .u8 kd) := cell_later hb2 (blk_cell hR2.out 0); obtain ⟨c1, c2, c3, c4, c5, f1, f2, f3, f4, f5, hltn⟩ := (hN2.out.later hb2 (by omega)).facts)
        · have h : (!p b) = true := by assumption
          go_roundg (5 - (i + 1)).toNat
          case measure => have := hn.out; omega
          case rel => exact ⟨i + 1, by omega, by omega, rfl, rfl, (HR.out.no (by simpa using h)).symm.trans hr.out, hN2, hbw2⟩
        · have h : (!p b) = false := by assumption
          have h2 : (r.2 != -1) = true := by assumption
          have e : nextF l k b 0 = tokErr r.2 := (hr.out.symm.trans (HR.out.yes (by simpa using h))).trans (by rw [tokEnd, if_neg (by simpa using h2)])
          refine bodyPost_ret (v := .tuple #[.agg #[.int .u8 0, .int .i64 0, .int .i64 0], .agg #[.int .i64 3, .int .i64 r.2]]) (by simp [results, Try.results10, go_sem, c1, c2, c3, c4, c5]) rfl ⟨by rw [e]; rfl, ?_⟩
          have hb4 := hbw2.trans (hb2.mono hbw2.size)
          exact ((((hb4.setCell (Nat.le_refl _) _).setCell (Nat.le_refl _) _).setCell (Nat.le_refl _) _).setCell (by simp) _).setCell (by simp) _
        · have h : (!p b) = false := by assumption
          have h2 : (r.2 != -1) = false := by assumption
          have e : nextF l k b 0 = tokOk kd k r.1 := (hr.out.symm.trans (HR.out.yes (by simpa using h))).trans (by rw [tokEnd, if_pos (by simpa using h2)])
          refine bodyPost_ret (v := .tuple #[.agg #[.int .u8 kd, .int .i64 k, .int .i64 r.1], .agg #[.int .i64 0, .int .i64 0]]) (by simp [results, Try.results10, go_sem, c1, c2, c3, c4, c5]) rfl ⟨by rw [e]; rfl, ?_⟩
          have hb4 := hbw2.trans (hb2.mono hbw2.size)
          exact ((((hb4.setCell (Nat.le_refl _) _).setCell (Nat.le_refl _) _).setCell (Nat.le_refl _) _).setCell (by simp) _).setCell (by simp) _
    · obtain rfl : i = 5 := by omega
      have e : nextF l k b 0 = tokErr k := hr.out.symm.trans (by simp [nextF])
      obtain ⟨c1, c2, c3, c4, c5, f1, f2, f3, f4, f5, hltn⟩ := hN.out.facts
      clear hr
      go_wp2
      refine bodyPost_ret (v := .tuple #[.agg #[.int .u8 0, .int .i64 0, .int .i64 0], .agg #[.int .i64 3, .int .i64 k]]) (by simp [results, Try.results10, go_sem, c1, c2, c3, c4, c5]) rfl ⟨rfl, ?_⟩
      exact ((((hbw.setCell (Nat.le_refl _) _).setCell (Nat.le_refl _) _).setCell (Nat.le_refl _) _).setCell (by simp) _).setCell (by simp) _

theorem next_any (A : Option Addr) (l : List UInt8) (c : Nat) (hlc : l.length ≤ c) (i : Int) (hl : l.length ≤ 4611686018427387904) (w : World) (hB : BS w w.heap.size A l) :
    Calls Try.prog 10 #[.slice A l.length c, .int .i64 i] w fun e w' => e = .returned (nextM l i).val ∧ Below w.heap.size w w' := by
  by_cases h : 0 ≤ i ∧ i.toNat < l.length
  · obtain ⟨k, rfl⟩ := Int.eq_ofNat_of_zero_le h.1
    have e : nextM l (k : Int) = nextF l k (l[k]'(by simpa using h.2)) 0 := by rw [nextM, dif_pos h]; simp
    rw [e]
    exact next_in A l c hlc k (by simpa using h.2) hl w hB
  · exact next_out A l c i h w

end Go.Proofs.Ytjiejpjdbimjkaa
