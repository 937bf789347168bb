/- Walks over package jtokens: Read; no statement of the seat is proved here. -/
import Derived.Test.YtjiejpjdbimjkaaJtP
namespace Go.Proofs.Ytjiejpjdbimjkaa
open Go.RowKit

set_option maxHeartbeats 400000 in
theorem clip_any (A : Option Addr) (n c : Nat) (hc : n ≤ c) (w : World) :
    Calls Try.prog 15 #[.slice A n c] w fun e w' => e = .returned (.slice A n n) ∧ w = w' := by
  go_enter Try.func15, Try.ntmps15
  go_wp2
  go_ret
  exact ⟨rfl, rfl⟩

def TokF.cells (t : TokF) : List Value := [.int .u8 t.kind, .int .i64 t.from_, .int .i64 t.to_]
def tokCells (ts : List TokF) : List Value := ts.flatMap TokF.cells

theorem tokCells_len (ts : List TokF) : (tokCells ts).length = ts.length * 3 := by
  induction ts with
  | nil => rfl
  | cons t ts ih => simp [tokCells, TokF.cells] at ih ⊢; omega
theorem tokCells_snoc (ts : List TokF) (t : TokF) : tokCells (ts ++ [t]) = tokCells ts ++ t.cells := by simp [tokCells]
theorem own_cell {w : World} {base : Nat} {e : TypeId} {size : Nat} {g n cap : Nat} {xs : List Value} (h : w.ownsRow base e size (.slice (some ⟨g, 0, none⟩) n cap) n xs) (j : Nat) (hj : j < n * size) : w.cell? ⟨g, j, none⟩ = xs[j]? := h.cellAt j hj
theorem last_cell (xs : List Value) (n : Nat) (h : xs.length = n) (a b c : Value) : (xs ++ [a, b, c])[n + 2]? = some c := by
  rw [List.getElem?_append_right (by omega)]; simp [h]
theorem read_on {l : List UInt8} {k e : Nat} {kd : Int} {ts : List TokF} (hk : k < l.length) (he : k < e) (h : nextM l k = ⟨kd, k, e, 0, 0⟩) (hr : readM l 0 = (ts ++ (readM l k).1, (readM l k).2)) :
    readM l 0 = ((ts ++ [⟨kd, k, e, 0, 0⟩]) ++ (readM l e).1, (readM l e).2) := by
  rw [hr, readM_tok hk he h]; simp

theorem next_t (A : Option Addr) (l : List UInt8) (c : Nat) (hlc : l.length ≤ c) (k : Nat) (kd f e co at_ : Int) (ht : nextM l k = ⟨kd, f, e, co, at_⟩) (hl : l.length ≤ 4611686018427387904) (w : World) (hB : BS w w.heap.size A l) :
    Calls Try.prog 10 #[.slice A l.length c, .int .i64 k] w fun r w' => r = .returned (.tuple #[.agg #[.int .u8 kd, .int .i64 f, .int .i64 e], .agg #[.int .i64 co, .int .i64 at_]]) ∧ Below w.heap.size w w' := by
  have := next_any A l c hlc k hl w hB
  rw [ht] at this
  exact this

theorem tok_info : (Try.prog.info? 36).map (fun i => (i.zero, i.size, i.bytes)) = some (some (.agg #[.int .u8 0, .int .i64 0, .int .i64 0]), 3, 24) := by kernel_rfl

theorem own_le {w : World} {base : Nat} {e : TypeId} {size : Nat} {A : Option Addr} {n c : Nat} {xs : List Value} (h : w.ownsRow base e size (.slice A n c) n xs) : n ≤ c := by
  obtain ⟨_, c2, hcc, hle⟩ := own_slice h
  injection hcc with _ _ hcc
  rw [hcc]; exact hle

/-- What Read returns: the tokens, in memory of its own, and what ends them. -/
def ReadPost (R : List TokF × Int × Int) (w : World) (e : Ending) (w' : World) : Prop :=
  ∃ A', e = .returned (.tuple #[.slice A' R.1.length R.1.length, .agg #[.int .i64 R.2.1, .int .i64 R.2.2]]) ∧ OwnS w' w.heap.size 36 3 A' R.1.length (tokCells R.1) ∧ Below w.heap.size w w'

set_option maxHeartbeats 1000000 in
theorem read_any (A : Option Addr) (l : List UInt8) (c : Nat) (hlc : l.length ≤ c) (hl : l.length ≤ 16777216) (w : World) (hB : BS w w.heap.size A l) :
    Calls Try.prog 8 #[.slice A l.length c] w (ReadPost (readM l 0) w) := by
  obtain ⟨i0, hi, hz0, hz1, hz2⟩ := info_parts tok_info
  have HB := Lib.hid hB; clear hB
  go_enter Try.func8, Try.ntmps8
  go_wp2
  go_loopg [2, 4] l.length (fun n s2 s4 wr => ∃ k : Nat, ∃ ts : List TokF, ∃ A' c', s4 = .int .i64 k ∧ s2 = .slice A' ts.length c' ∧ k ≤ l.length ∧ ts.length ≤ k ∧ Hid (n = l.length - k) ∧ Hid (readM l 0 = (ts ++ (readM l k).1, (readM l k).2)) ∧ Hid (wr.ownsRow (w.heap.size + 1) 36 3 (.slice A' ts.length c') ts.length (tokCells ts)) ∧
     Hid (wr.heap[w.heap.size]? = some (.cells #[.int .i64 0, .int .i64 0] 28 (0, 0))) ∧ Below w.heap.size w wr)
  case atStart => exact ⟨0, [], none, 0, rfl, rfl, by omega, by simp, rfl, by simp [Hid], World.ownsRow_nil _ _ _ _, heap_new1 _ _, below_new1 _ _⟩
  case round =>
    obtain ⟨k, ts, A', c', rfl, rfl, hk, hts, hn, hr, hown, hF, hbw⟩ := hrel
    by_cases hlt : k < l.length
    · rcases (nextM_at hlt).cases with ⟨kd, e, h0, h4, ht, he, hel⟩ | ⟨e, ht, he, hel⟩
      · have HT := Lib.hid ht; clear ht
        go_wp2_with (first
          | (go_at_call 10; refine (next_t _ _ _ hlc k _ _ _ _ _ HT.out (by omega) _ ((HB.out.below hbw).mono hbw.size)).mono ?_; rintro e w1 ⟨rfl, hb1⟩)
          | (at_builtin; refine wpList_append_own _ rfl (.tmp 30) (.tmp 32) 25 rfl (w.heap.size + 1) 36 i0 _ 3 24 Try.underlying25 hi hz0 hz1 hz2 rfl (by decide) (.slice A' ts.length c') ts.length (tokCells ts) rfl ?hown ⟨w1.heap.size + 1 + 1, 0, none⟩ 1 1 [.int .u8 kd, .int .i64 k, .int .i64 e] rfl rfl ?c1 ?c2 ?c3 ?c4 ?c5 ?_))
        case hown => exact own_keep (own_keep hown.out hb1 (Nat.le_refl _)) (below_new3 _ _ _ _) (Nat.le_refl _)
        case c1 => exact news_at (heap_new3 _ _ _ _)
        case c2 => intro u hu; simp at hu; rcases hu with rfl | rfl | rfl <;> rfl
        case c3 => simp only [maxLen]; omega
        case c4 => omega
        case c5 => rw [size_new3]; have := hbw.size; have := hb1.size; have := blk_lt hF.out; omega
        intro v2 w2 hown2 hgr2 _
        obtain ⟨g, cap, hv, hg, hlt2⟩ := hown2.form (by omega)
        subst hv
        have HO := Lib.hid hown2; clear hown2
        have HG := Lib.hid hgr2; clear hgr2
        have qv : w2.cell? ⟨g, ts.length * 3 + 2, none⟩ = some (.int .i64 e) := by
          rw [own_cell HO.out _ (by omega)]
          exact last_cell _ _ (tokCells_len ts) _ _ _
        have hb3 := (hb1.mono (Nat.le_refl _)).trans ((below_new3 w1 (.cells #[.int .u8 kd, .int .i64 k, .int .i64 e] 36) (.cells #[.int .i64 0, .int .i64 0] 28) (.cells #[.int .u8 kd, .int .i64 k, .int .i64 e] 36)).mono hb1.size)
        have hF3 := blk_later hF.out hb3 (blk_lt hF.out)
        have hltF : w.heap.size < wr.heap.size := blk_lt hF.out
        have hne : ∀ q, (Value.slice A' ts.length c').ownBlock = some q → w.heap.size + 1 ≤ q := fun q hq => (hown.out.lt q hq).1
        have hb4 : Below (w.heap.size + 1) wr w2 := (hb3.mono (by omega)).grown HG.out (by have := hb3.size; omega) hne
        have HF4 := Lib.hid (blk_later hF.out hb4 (by omega))
        clear hb3 hF3 hne
        go_wp2
        go_roundg (l.length - e)
        case measure => have := hn.out; omega
        case rel => exact ⟨e, ts ++ [(TokF.mk kd k e 0 0)], some ⟨g, 0, none⟩, cap, rfl, by simp, hel, by simp; omega, rfl, read_on hlt he HT.out hr.out, by rw [tokCells_snoc]; simpa [Hid, TokF.cells] using HO.out, HF4, hbw.trans (hb4.mono (by omega))⟩
      · have HT := Lib.hid ht; clear ht
        have he2 : Hid (readM l 0 = (ts, 3, (e : Int))) := by
          show _ = _
          rw [hr.out, readM_err hlt HT.out]; simp
        have hle := own_le hown.out
        have qF := blk_cell hF.out
        go_wp2_with (go_at_call 10; refine (next_t _ _ _ hlc k _ _ _ _ _ HT.out (by omega) _ ((HB.out.below hbw).mono hbw.size)).mono ?_; rintro e w1 ⟨rfl, hb1⟩)
        have hltF : w.heap.size < wr.heap.size := blk_lt hF.out
        have hF1 : w1.heap[w.heap.size]? = some (.cells #[.int .i64 0, .int .i64 0] 28 (0, 0)) := blk_later hF.out hb1 hltF
        have hltF1 : w.heap.size < w1.heap.size := blk_lt hF1
        have q1 : w1.cell? ⟨w.heap.size, 0, none⟩ = some (.int .i64 0) := blk_cell hF1 0
        have q2 : w1.cell? ⟨w.heap.size, 1, none⟩ = some (.int .i64 0) := blk_cell hF1 1
        have q3 : w1.frozen? ⟨w.heap.size, 0, none⟩ = false := blk_frozen hF1 0
        have q4 : w1.frozen? ⟨w.heap.size, 1, none⟩ = false := blk_frozen hF1 1
        clear hF1
        go_region_with (go_at_call 15; refine (clip_any _ _ _ hle _).mono ?_; rintro e w2 ⟨rfl, rfl⟩)
        all_goals (
          go_wp2
          refine bodyPost_ret (v := .tuple #[.slice A' ts.length ts.length, .agg #[.int .i64 3, .int .i64 e]]) (by simp [results, Try.results8, go_sem, q1, q2, hltF1]) rfl ?_
          rw [he2.out]
          have hO := ((OwnS.of_own hown.out).keep hb1 (Nat.le_refl _))
          have hb4 : Below w.heap.size w w1 := hbw.trans (hb1.mono hbw.size)
          refine ⟨A', rfl, OwnS.mono (base' := w.heap.size + 1) ?_ (by omega), ?_⟩
          · repeat (first | exact hO | refine OwnS.drew ?_ | refine OwnS.alloc ?_ _ | refine OwnS.set_ ?_ (by simp) _)
          · repeat (first | exact hb4 | refine Below.drew ?_ | refine Below.alloc ?_ (by simp; omega) _ | refine Below.setCell ?_ (by simp) _))
    · have he2 : Hid (readM l 0 = (ts, 0, 0)) := by
        show _ = _
        rw [hr.out, readM_end hlt]; simp
      have hle := own_le hown.out
      have hltF : w.heap.size < wr.heap.size := blk_lt hF.out
      have q1 : wr.cell? ⟨w.heap.size, 0, none⟩ = some (.int .i64 0) := blk_cell hF.out 0
      have q2 : wr.cell? ⟨w.heap.size, 1, none⟩ = some (.int .i64 0) := blk_cell hF.out 1
      have q3 : wr.frozen? ⟨w.heap.size, 0, none⟩ = false := blk_frozen hF.out 0
      have q4 : wr.frozen? ⟨w.heap.size, 1, none⟩ = false := blk_frozen hF.out 1
      go_wp2_with (go_at_call 15; refine (clip_any _ _ _ hle _).mono ?_; rintro e w2 ⟨rfl, rfl⟩)
      refine bodyPost_ret (v := .tuple #[.slice A' ts.length ts.length, .agg #[.int .i64 0, .int .i64 0]]) (by simp [results, Try.results8, go_sem, q1, q2]) rfl ?_
      rw [he2.out]
      refine ⟨A', rfl, OwnS.mono (base' := w.heap.size + 1) ?_ (by omega), ?_⟩
      · repeat (first | exact OwnS.of_own hown.out | refine OwnS.drew ?_ | refine OwnS.alloc ?_ _ | refine OwnS.set_ ?_ (by simp) _)
      · repeat (first | exact hbw | refine Below.drew ?_ | refine Below.alloc ?_ (by simp; omega) _ | refine Below.setCell ?_ (by simp) _)

end Go.Proofs.Ytjiejpjdbimjkaa
