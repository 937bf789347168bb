/- The reference's Next and Read, whole; no statement of the seat is proved here. -/
import Derived.Test.YtjiejpjdbimjkaaJtRefE
namespace Go.Proofs.Ytjiejpjdbimjkaa
open Go.RowKit

theorem rnext_any (A : Option Addr) (l : List UInt8) (c : Nat) (hlc : l.length ≤ c) (i : Int) (hl : l.length ≤ 4611686018427387904) (w : World) (hB : BS w w.heap.size A l) :
    Calls Try.prog 11 #[.slice A l.length c, .int .i64 i] w fun e w' => e = .returned (nextM l i).rval ∧ Below w.heap.size w w' := by
  by_cases h : 0 ≤ i ∧ i.toNat < l.length
  · obtain ⟨k, rfl⟩ := Int.eq_ofNat_of_zero_le h.1
    have hk : k < l.length := by simpa using h.2
    cases h1 : isSpace l[k] with
    | true => exact rnext_space A l c k hk hl h1 w hB
    | false =>
      cases h2 : isMark l[k] with
      | true => exact rnext_mark A l c k hk hl h1 h2 w hB
      | false =>
        cases h3 : isLetter l[k] with
        | true => exact rnext_word A l c hlc k hk hl h1 h2 h3 w hB
        | false =>
          cases h4 : isNum l[k] with
          | true => exact rnext_num A l c k hk hl h1 h2 h3 h4 w hB
          | false =>
            cases h5 : isQuote l[k] with
            | true => exact rnext_str A l c k hk hl h1 h2 h3 h4 h5 w hB
            | false => exact rnext_none A l c k hk hl h1 h2 h3 h4 h5 w hB
  · exact rnext_out A l c i h w

def TokF.rcells (t : TokF) : List Value := [.int .i64 t.kind, .int .i64 t.from_, .int .i64 t.to_]
def rtokCells (ts : List TokF) : List Value := ts.flatMap TokF.rcells
theorem rtokCells_len (ts : List TokF) : (rtokCells ts).length = ts.length * 3 := by
  induction ts with
  | nil => rfl
  | cons t ts ih => simp [rtokCells, TokF.rcells] at ih ⊢; omega
theorem rtokCells_snoc (ts : List TokF) (t : TokF) : rtokCells (ts ++ [t]) = rtokCells ts ++ t.rcells := by simp [rtokCells]
theorem rtok_info : (Try.prog.info? 40).map (fun i => (i.zero, i.size, i.bytes)) = some (some (.agg #[.int .i64 0, .int .i64 0, .int .i64 0]), 3, 24) := by kernel_rfl

theorem rnext_t (A : Option Addr) (l : List UInt8) (c : Nat) (hlc : l.length ≤ c) (k : Nat) (kd f e co at_ : Int) (ht : nextM l k = ⟨kd, f, e, co, at_⟩) (hl : l.length ≤ 4611686018427387904) (w : World) (hB : BS w w.heap.size A l) :
    Calls Try.prog 11 #[.slice A l.length c, .int .i64 k] w fun r w' => r = .returned (.tuple #[.agg #[.int .i64 kd, .int .i64 f, .int .i64 e], .agg #[.int .i64 co, .int .i64 at_]]) ∧ Below w.heap.size w w' := by
  have := rnext_any A l c hlc k hl w hB
  rw [ht] at this
  exact this

/-- What the reference's Read returns: the tokens, in memory of its own, and what ends them. -/
def RReadPost (R : List TokF × Int × Int) (w : World) (e : Ending) (w' : World) : Prop :=
  ∃ A' c', R.1.length ≤ c' ∧ e = .returned (.tuple #[.slice A' R.1.length c', .agg #[.int .i64 R.2.1, .int .i64 R.2.2]]) ∧ OwnS w' w.heap.size 40 3 A' R.1.length (rtokCells R.1) ∧ Below w.heap.size w w'

set_option maxHeartbeats 1000000 in
theorem rread_any (A : Option Addr) (l : List UInt8) (c : Nat) (hlc : l.length ≤ c) (hl : l.length ≤ 16777216) (w : World) (hB : BS w w.heap.size A l) :
    Calls Try.prog 9 #[.slice A l.length c] w (RReadPost (readM l 0) w) := by
  obtain ⟨i0, hi, hz0, hz1, hz2⟩ := info_parts rtok_info
  have HB := Lib.hid hB; clear hB
  go_enter Try.func9, Try.ntmps9
  go_wp2
  go_loopg [4, 5] l.length (fun n s4 s5 wr => ∃ k : Nat, ∃ ts : List TokF, ∃ A' c', s5 = .int .i64 k ∧ s4 = .slice A' ts.length c' ∧ k ≤ l.length ∧ ts.length ≤ k ∧ Hid (n = l.length - k) ∧ Hid (readM l 0 = (ts ++ (readM l k).1, (readM l k).2)) ∧ Hid (wr.ownsRow (w.heap.size + 1) 40 3 (.slice A' ts.length c') ts.length (rtokCells ts)) ∧
     Hid (wr.heap[w.heap.size]? = some (.cells #[.int .i64 0, .int .i64 0] 28 (0, 0))) ∧ Below w.heap.size w wr)
  case atStart => exact ⟨0, [], none, 0, rfl, rfl, by omega, by simp, rfl, by simp [Hid], World.ownsRow_nil _ _ _ _, heap_new1 _ _, below_new1 _ _⟩
  case round =>
    obtain ⟨k, ts, A', c', rfl, rfl, hk, hts, hn, hr, hown, hF, hbw⟩ := hrel
    by_cases hlt : k < l.length
    · rcases (nextM_at hlt).cases with ⟨kd, e, h0, h4, ht, he, hel⟩ | ⟨e, ht, he, hel⟩
      · have HT := Lib.hid ht; clear ht
        go_wp2_with (first
          | (go_at_call 11; refine (rnext_t _ _ _ hlc k _ _ _ _ _ HT.out (by omega) _ ((HB.out.below hbw).mono hbw.size)).mono ?_; rintro e w1 ⟨rfl, hb1⟩)
          | (at_builtin; refine wpList_append_own _ rfl (.tmp 23) (.tmp 25) 31 rfl (w.heap.size + 1) 40 i0 _ 3 24 Try.underlying31 hi hz0 hz1 hz2 rfl (by decide) (.slice A' ts.length c') ts.length (rtokCells ts) rfl ?hown ⟨w1.heap.size + 1 + 1, 0, none⟩ 1 1 [.int .i64 kd, .int .i64 k, .int .i64 e] rfl rfl ?c1 ?c2 ?c3 ?c4 ?c5 ?_))
        case hown => exact own_keep (own_keep hown.out hb1 (Nat.le_refl _)) (below_new3 _ _ _ _) (Nat.le_refl _)
        case c1 => exact news_at (heap_new3 _ _ _ _)
        case c2 => intro u hu; simp at hu; rcases hu with rfl | rfl | rfl <;> rfl
        case c3 => simp only [maxLen]; omega
        case c4 => omega
        case c5 => rw [size_new3]; have := hbw.size; have := hb1.size; have := blk_lt hF.out; omega
        intro v2 w2 hown2 hgr2 _
        obtain ⟨g, cap, hv, hg, hlt2⟩ := hown2.form (by omega)
        subst hv
        have HO := Lib.hid hown2; clear hown2
        have HG := Lib.hid hgr2; clear hgr2
        have hb3 := (hb1.mono (Nat.le_refl _)).trans ((below_new3 w1 (.cells #[.int .i64 kd, .int .i64 k, .int .i64 e] 40) (.cells #[.int .i64 0, .int .i64 0] 28) (.cells #[.int .i64 kd, .int .i64 k, .int .i64 e] 40)).mono hb1.size)
        have hltF : w.heap.size < wr.heap.size := blk_lt hF.out
        have hne : ∀ q, (Value.slice A' ts.length c').ownBlock = some q → w.heap.size + 1 ≤ q := fun q hq => (hown.out.lt q hq).1
        have hb4 : Below (w.heap.size + 1) wr w2 := (hb3.mono (by omega)).grown HG.out (by have := hb3.size; omega) hne
        have HF4 := Lib.hid (blk_later hF.out hb4 (by omega))
        have hblk : w2.heap[w1.heap.size]? = some (.cells #[.int .i64 kd, .int .i64 k, .int .i64 e] 40 (0, 0)) := by
          rw [HG.out.block w1.heap.size (by rw [size_new3]; omega) (fun h => by have h2 := (hown.out.lt w1.heap.size h.symm).2; have := hb1.size; omega)]
          rw [Below.heap_alloc _ _ _ (by simp; omega)]
          exact (heap_new2 w1 _ _).1
        have qv : w2.cell? ⟨w1.heap.size, 2, none⟩ = some (.int .i64 e) := blk_cell hblk 2
        clear hb3 hne hblk
        go_wp2
        go_roundg (l.length - e)
        case measure => have := hn.out; omega
        case rel => exact ⟨e, ts ++ [(TokF.mk kd k e 0 0)], some ⟨g, 0, none⟩, cap, rfl, by simp, hel, by simp; omega, rfl, read_on hlt he HT.out hr.out, by rw [rtokCells_snoc]; simpa [Hid, TokF.rcells] using HO.out, HF4, hbw.trans (hb4.mono (by omega))⟩
      · have HT := Lib.hid ht; clear ht
        have he2 : Hid (readM l 0 = (ts, 3, (e : Int))) := by
          show _ = _
          rw [hr.out, readM_err hlt HT.out]; simp
        have hle := own_le hown.out
        go_wp2_with (go_at_call 11; refine (rnext_t _ _ _ hlc k _ _ _ _ _ HT.out (by omega) _ ((HB.out.below hbw).mono hbw.size)).mono ?_; rintro e w1 ⟨rfl, hb1⟩)
        have hltF : w.heap.size < wr.heap.size := blk_lt hF.out
        have hF1 : w1.heap[w.heap.size]? = some (.cells #[.int .i64 0, .int .i64 0] 28 (0, 0)) := blk_later hF.out hb1 hltF
        have hltF1 : w.heap.size < w1.heap.size := blk_lt hF1
        have q1 : w1.cell? ⟨w.heap.size, 0, none⟩ = some (.int .i64 0) := blk_cell hF1 0
        have q2 : w1.cell? ⟨w.heap.size, 1, none⟩ = some (.int .i64 0) := blk_cell hF1 1
        have q3 : w1.frozen? ⟨w.heap.size, 0, none⟩ = false := blk_frozen hF1 0
        have q4 : w1.frozen? ⟨w.heap.size, 1, none⟩ = false := blk_frozen hF1 1
        clear hF1
        go_region
        all_goals (
          go_wp2
          refine bodyPost_ret (v := .tuple #[.slice A' ts.length c', .agg #[.int .i64 3, .int .i64 e]]) (by simp [results, Try.results9, go_sem, q1, q2, hltF1]) rfl ?_
          rw [he2.out]
          have hO := ((OwnS.of_own hown.out).keep hb1 (Nat.le_refl _))
          have hb4 : Below w.heap.size w w1 := hbw.trans (hb1.mono hbw.size)
          refine ⟨A', c', hle, rfl, OwnS.mono (base' := w.heap.size + 1) ?_ (by omega), ?_⟩
          · repeat (first | exact hO | refine OwnS.drew ?_ | refine OwnS.alloc ?_ _ | refine OwnS.set_ ?_ (by simp) _)
          · repeat (first | exact hb4 | refine Below.drew ?_ | refine Below.alloc ?_ (by simp; omega) _ | refine Below.setCell ?_ (by simp) _))
    · have he2 : Hid (readM l 0 = (ts, 0, 0)) := by
        show _ = _
        rw [hr.out, readM_end hlt]; simp
      have hle := own_le hown.out
      have q1 : wr.cell? ⟨w.heap.size, 0, none⟩ = some (.int .i64 0) := blk_cell hF.out 0
      have q2 : wr.cell? ⟨w.heap.size, 1, none⟩ = some (.int .i64 0) := blk_cell hF.out 1
      have q3 : wr.frozen? ⟨w.heap.size, 0, none⟩ = false := blk_frozen hF.out 0
      have q4 : wr.frozen? ⟨w.heap.size, 1, none⟩ = false := blk_frozen hF.out 1
      go_wp2
      refine bodyPost_ret (v := .tuple #[.slice A' ts.length c', .agg #[.int .i64 0, .int .i64 0]]) (by simp [results, Try.results9, go_sem, q1, q2]) rfl ?_
      rw [he2.out]
      refine ⟨A', c', hle, rfl, OwnS.mono (base' := w.heap.size + 1) ?_ (by omega), ?_⟩
      · repeat (first | exact OwnS.of_own hown.out | refine OwnS.drew ?_ | refine OwnS.alloc ?_ _ | refine OwnS.set_ ?_ (by simp) _)
      · repeat (first | exact hbw | refine Below.drew ?_ | refine Below.alloc ?_ (by simp; omega) _ | refine Below.setCell ?_ (by simp) _)

end Go.Proofs.Ytjiejpjdbimjkaa
