/- The walk of the law JtokensJoin; no statement of the seat is proved here. -/
import Derived.Test.YtjiejpjdbimjkaaJtCov
import Derived.Test.YtjiejpjdbimjkaaJtS
import Derived.Test.YtjiejpjdbimjkaaApp
namespace Go.Proofs.Ytjiejpjdbimjkaa
open Go.RowKit

theorem readM_fault (l : List UInt8) (k : Nat) (_hk : k ≤ l.length) : (readM l k).2 = (0, 0) ∨ ∃ e : Nat, (readM l k).2 = (3, (e : Int)) ∧ e ≤ l.length := by
  by_cases hlt : k < l.length
  · rcases (nextM_at hlt).cases with ⟨kd, e, h0, h4, ht, he, hel⟩ | ⟨e, ht, he, hel⟩
    · rw [readM_tok hlt he ht]; exact readM_fault l e hel
    · rw [readM_err hlt ht]; exact .inr ⟨e, rfl, hel⟩
  · rw [readM_end hlt]; exact .inl rfl
termination_by l.length - k
theorem readM_len (l : List UInt8) : (readM l 0).1.length ≤ l.length := by
  rcases cov_len (cov_all l 0 (by omega) (-1) (fun h => ⟨fun h => by omega, fun h => by omega⟩)) with h | h
  · omega
  · rw [h]; simp

theorem readM_toks (l : List UInt8) (k : Nat) (_hk : k ≤ l.length) : ∀ t ∈ (readM l k).1, t.code = 0 ∧ 0 ≤ t.from_ ∧ t.from_ ≤ l.length ∧ 0 ≤ t.to_ ∧ t.to_ ≤ l.length := by
  by_cases hlt : k < l.length
  · rcases (nextM_at hlt).cases with ⟨kd, e, h0, h4, ht, he, hel⟩ | ⟨e, ht, he, hel⟩
    · rw [readM_tok hlt he ht]
      intro t htm
      rcases List.mem_cons.1 htm with rfl | htm
      · simp; omega
      · exact readM_toks l e hel t htm
    · rw [readM_err hlt ht]; intro t h; simp at h
  · rw [readM_end hlt]; intro t h; simp at h
termination_by l.length - k
/-- The tokens of the joined text, one by one. -/
theorem join_at (ts us : List TokF) (mk : TokF) (n i : Nat) :
    (i < ts.length → (ts ++ mk :: us.map (TokF.sh n))[i]? = ts[i]?) ∧ (i = ts.length → (ts ++ mk :: us.map (TokF.sh n))[i]? = some mk) ∧
    (∀ j, i = ts.length + 1 + j → (ts ++ mk :: us.map (TokF.sh n))[i]? = us[j]?.map (TokF.sh n)) := by
  refine ⟨fun h => List.getElem?_append_left h, fun h => ?_, fun j h => ?_⟩
  · subst h; simp
  · subst h
    rw [List.getElem?_append_right (by omega), show ts.length + 1 + j - ts.length = j + 1 from by omega]
    simp

def marks6 : List UInt8 := [123, 125, 91, 93, 44, 58]
theorem byte_info : (Try.prog.info? 5).map (fun i => (i.zero, i.size, i.bytes)) = some (some (.int .u8 0), 1, 1) := by kernel_rfl

set_option maxRecDepth 100000 in
set_option maxHeartbeats 2000000 in
theorem join_walk (A B : Option Addr) (a b : List UInt8) (ca cb : Nat) (hca : a.length ≤ ca) (hcb : b.length ≤ cb) (m : UInt8) (w : World) (hA : BS w w.heap.size A a) (hB : BS w w.heap.size B b) :
    Calls Try.prog 5 #[.slice A a.length ca, .slice B b.length cb, .int .u8 ((m.toNat : Nat) : Int)] w fun e w' => e = .returned (.bool true) ∧ Below w.heap.size w w' := by
  have HA := Lib.hid hA; clear hA
  have HB := Lib.hid hB; clear hB
  by_cases hbig : 2000 < a.length
  · go_enter Try.func5, Try.ntmps5
    go_wp2_with (go_at_call 6; refine (lives_any _).mono ?_; rintro e w1 ⟨rfl, hb1⟩)
    go_ret
    exact ⟨rfl, hb1⟩
  by_cases hbig2 : 2000 < b.length
  · go_enter Try.func5, Try.ntmps5
    go_wp2_with (go_at_call 6; refine (lives_any _).mono ?_; rintro e w1 ⟨rfl, hb1⟩)
    go_ret
    exact ⟨rfl, hb1⟩
  obtain ⟨i0, hi, hz0, hz1, hz2⟩ := info_parts byte_info
  have kc := fun (w : World) (C : Array Value) (n c g : Nat) (hg : g = w.heap.size) => Joins.run_convert_bytes_const_at (P := Try.prog) w 22 5 C n c g hg Try.underlying22 Try.underlying5
  have hm6 : m.toNat % 6 < marks6.length := by simp [marks6]; omega
  obtain ⟨c, hc⟩ : ∃ c, Hid (c = marks6[m.toNat % 6]) := ⟨marks6[m.toNat % 6], rfl⟩
  have hcell : ∀ w : World, (w.alloc (.cells #[.int .u8 123, .int .u8 125, .int .u8 91, .int .u8 93, .int .u8 44, .int .u8 58] 5 (6, 7))).cell? ⟨w.heap.size, m.toNat % 6, none⟩ = some (.int .u8 ((c.toNat : Nat) : Int)) := fun w => by
    obtain ⟨_, e, _, h⟩ := BS.made w marks6 5 (6, 7) (m.toNat % 6) hm6
    cases e
    rw [add_plain, Nat.zero_add] at h
    rw [hc.out]
    exact h
  have hmark : Hid (isMark c = true) := by
    show _ = _
    rw [hc.out]
    have hk : ∀ k (h : k < marks6.length), isMark marks6[k] = true := by decide
    exact hk _ hm6
  go_enter Try.func5, Try.ntmps5
  go_wp2_with fail
  clear kc hcell
  have hb0 := below_new1 w (.cells #[.int .u8 123, .int .u8 125, .int .u8 91, .int .u8 93, .int .u8 44, .int .u8 58] 5 (6, 7))
  obtain ⟨ts, fa, hra⟩ : ∃ ts fa, Hid (readM a 0 = (ts, fa)) := ⟨(readM a 0).1, (readM a 0).2, rfl⟩
  obtain ⟨us, fb, hrb⟩ : ∃ us fb, Hid (readM b 0 = (us, fb)) := ⟨(readM b 0).1, (readM b 0).2, rfl⟩
  have hfa := readM_fault a 0 (by omega)
  have hfb := readM_fault b 0 (by omega)
  have hla := readM_len a
  have hlb := readM_len b
  rw [hra.out] at hfa hla
  rw [hrb.out] at hfb hlb
  dsimp only at hfa hfb hla hlb
  have HFA := Lib.hid hfa; clear hfa
  have HFB := Lib.hid hfb; clear hfb
  obtain ⟨fa1, fa2⟩ := fa
  obtain ⟨fb1, fb2⟩ := fb
  refine (read_known a _ _ _ ts.length hra.out rfl _ a.length ca rfl hca (by omega) _ (HA.out.later hb0) rfl).mono ?_
  rintro x w1 ⟨A1, rfl, hO1, hb1⟩
  replace hb1 : Below w.heap.size w w1 := hb0.trans (hb1.mono hb0.size)
  have HO1 := Lib.hid (hO1.mono hb0.size); clear hO1 hb0
  have hbF1 := below_new1 w1 (.cells #[.int .i64 fa1, .int .i64 fa2] 28)
  go_wp2_with fail
  refine (read_known b _ _ _ us.length hrb.out rfl _ b.length cb rfl hcb (by omega) _ (HB.out.later (hb1.trans (hbF1.mono hb1.size))) rfl).mono ?_
  rintro x w2 ⟨A2, rfl, hO2, hb2⟩
  have hF1 := blk_later (heap_new1 w1 _) hb2 (by simp)
  have hb12 : Below w1.heap.size w1 w2 := hbF1.trans (hb2.mono hbF1.size)
  have hbw2 : Below w.heap.size w w2 := hb1.trans (hb12.mono hb1.size)
  have HO2 := Lib.hid (hO2.mono (Nat.le_trans hb1.size hbF1.size)); clear hO2 hb2
  have HO1' := Lib.hid (HO1.out.keep hb12 (Nat.le_refl _))
  have hlt1 : w1.heap.size < w2.heap.size := blk_lt hF1
  have x1 : w2.cell? ⟨w1.heap.size, 0, none⟩ = some (.int .i64 fa1) := blk_cell hF1 0
  have y1 : w2.cell? ⟨w1.heap.size, 1, none⟩ = some (.int .i64 fa2) := blk_cell hF1 1
  clear hF1 hbF1 hb12 HO1
  rcases HFA.out with h0 | ⟨e, h0, he⟩
  · injection h0 with h1 h2
    subst h1 h2
    have hbF2 := below_new1 w2 (.cells #[.int .i64 fb1, .int .i64 fb2] 28)
    have hsF2 : (w2.alloc (.cells #[.int .i64 fb1, .int .i64 fb2] 28)).heap.size = w2.heap.size + 1 := size_new1 _ _
    obtain ⟨wF, hwF⟩ : ∃ wF, Hid (wF = w2.alloc (.cells #[.int .i64 fb1, .int .i64 fb2] 28)) := ⟨_, rfl⟩
    go_upto_region 10 with (first
      | (at_builtin; refine wpList_append_bs _ rfl (.const (.slice none 0 0)) (.tmp 47) 22 rfl (w2.heap.size + 1) 5 i0 _ Try.underlying22 hi hz0 hz1 hz2 rfl (.slice none 0 0) 0 [] rfl (World.ownsRow_nil _ _ _ _) _ A a.length a rfl ca rfl (HA.out.below (hbw2.trans (hbF2.mono hbw2.size))) (by omega) (by rw [hsF2]; omega) ?_; intro A5 c5 w5 ho5 hle5 hg5; simp only [Nat.zero_add, List.nil_append] at ho5 hle5; have hb5 : Below (w2.heap.size + 1) (w2.alloc (.cells #[.int .i64 fb1, .int .i64 fb2] 28)) w5 := (Below.refl _ _).grown hg5 (by rw [hsF2]; omega) (fun q hq => by simp [Value.ownBlock] at hq); have HO5 := Lib.hid ho5; clear ho5 hg5)
      | (at_builtin; refine wpList_append_bs _ rfl (.tmp 48) (.tmp 50) 22 rfl (w2.heap.size + 1) 5 i0 _ Try.underlying22 hi hz0 hz1 hz2 rfl (.slice A5 a.length c5) a.length (byteVals a) rfl (own_keep HO5.out (below_new1 w5 _) (Nat.le_refl _)) _ (some ⟨w5.heap.size, 0, none⟩) 1 [c] rfl 1 rfl (BS.made w5 [c] _ _) (by simp; omega) (by have := hb5.size; rw [size_new1]; omega) ?_; intro A6 c6 w6 ho6 hle6 hg6; have HO6 := Lib.hid ho6; clear ho6)
      | (at_builtin; refine wpList_append_bs _ rfl (.tmp 51) (.tmp 52) 22 rfl (w2.heap.size + 1) 5 i0 _ Try.underlying22 hi hz0 hz1 hz2 rfl (.slice A6 (a.length + 1) c6) (a.length + 1) (byteVals a ++ byteVals [c]) rfl HO6.out w6.heap.size B b.length b rfl cb rfl ?hb (by omega) ?hs ?_; rotate_left 2; intro A7 c7 w7 ho7 hle7 hg7; have HO7 := Lib.hid ho7; clear ho7))
    case hs => have h1 := hb5.size; have h2 := hg6.size; rw [size_new1] at h2; omega
    case hb =>
      have hn := below_new1 w5 (.cells #[.int .u8 ((c.toNat : Nat) : Int)] 5)
      have h6 : Below (w2.heap.size + 1) _ w6 := (Below.refl (w2.heap.size + 1) _).grown hg6 (by rw [size_new1]; have := hb5.size; omega) (fun q hq => (HO5.out.lt q hq).1)
      have h56 : Below (w2.heap.size + 1) w5 w6 := (hn.mono (by have := hb5.size; omega)).trans h6
      exact HB.out.later ((hbw2.trans (hbF2.mono hbw2.size)).trans ((hb5.trans h56).mono (by have := hbw2.size; omega)))
    have hb7 : Below w.heap.size w w7 := by
      have hn := below_new1 w5 (.cells #[.int .u8 ((c.toNat : Nat) : Int)] 5)
      have h6 : Below (w2.heap.size + 1) _ w6 := (Below.refl (w2.heap.size + 1) _).grown hg6 (by rw [size_new1]; have := hb5.size; omega) (fun q hq => (HO5.out.lt q hq).1)
      have h7 : Below (w2.heap.size + 1) w6 w7 := (Below.refl (w2.heap.size + 1) _).grown hg7 (by have h1 := hb5.size; have h2 := hg6.size; rw [size_new1] at h2; omega) (fun q hq => (HO6.out.lt q hq).1)
      have hn' : Below (w2.heap.size + 1) w5 (w5.alloc (.cells #[.int .u8 ((c.toNat : Nat) : Int)] 5)) := hn.mono (by have := hb5.size; omega)
      exact (hbw2.trans (hbF2.mono hbw2.size)).trans (((hb5.trans hn').trans (h6.trans h7)).mono (by have := hbw2.size; omega))
    have hb27 : Below (w2.heap.size + 1) (w2.alloc (.cells #[.int .i64 fb1, .int .i64 fb2] 28)) w7 := by
      have hn := below_new1 w5 (.cells #[.int .u8 ((c.toNat : Nat) : Int)] 5)
      have h6 : Below (w2.heap.size + 1) _ w6 := (Below.refl (w2.heap.size + 1) _).grown hg6 (by rw [size_new1]; have := hb5.size; omega) (fun q hq => (HO5.out.lt q hq).1)
      have h7 : Below (w2.heap.size + 1) w6 w7 := (Below.refl (w2.heap.size + 1) _).grown hg7 (by have h1 := hb5.size; have h2 := hg6.size; rw [size_new1] at h2; omega) (fun q hq => (HO6.out.lt q hq).1)
      have hn' : Below (w2.heap.size + 1) w5 (w5.alloc (.cells #[.int .u8 ((c.toNat : Nat) : Int)] 5)) := hn.mono (by have := hb5.size; omega)
      exact (hb5.trans hn').trans (h6.trans h7)
    have hF2 := blk_later (heap_new1 w2 _) hb27 (by omega)
    have HP1 := Lib.hid ((HO1'.out.alloc _).keep hb27 (by rw [hsF2]; omega))
    have HP2 := Lib.hid ((HO2.out.alloc _).keep hb27 (by rw [hsF2]; omega))
    have hall : byteVals a ++ byteVals [c] ++ byteVals b = byteVals (a ++ c :: b) := by simp [byteVals]
    have hown := HO7.out
    rw [hall] at hown
    obtain ⟨hnl, hBS⟩ := own_bs hown
    obtain ⟨mk, hmk⟩ : ∃ mk, Hid (mk = TokF.mk 1 (a.length : Nat) ((a.length + 1 : Nat) : Int) 0 0) := ⟨_, rfl⟩
    obtain ⟨Z, hZ⟩ : ∃ Z, Hid (Z = ts ++ mk :: us.map (TokF.sh (a.length + 1))) := ⟨_, rfl⟩
    obtain ⟨f31, f32, hf3⟩ : ∃ f31 f32, Hid (shF (a.length + 1) (fb1, fb2) = (f31, f32)) := ⟨_, _, rfl⟩
    have hjoin : readM (a ++ c :: b) 0 = (Z, f31, f32) := by
      rw [readM_join a b c hmark.out 0 (by omega) (by rw [hra.out]), hra.out, hrb.out, hZ.out, hmk.out, hf3.out]
    have hZl : Z.length = ts.length + 1 + us.length := by rw [hZ.out]; simp; omega
    have htok := readM_toks b 0 (by omega)
    rw [hrb.out] at htok
    have HTOK := Lib.hid htok
    clear htok hb5 hg6 hg7 HO5 HO6 HO7 hown hall hle5 hle6
    refine (read_known (a ++ c :: b) _ _ _ (ts.length + 1 + us.length) hjoin hZl _ (a.length + 1 + b.length) c7 (by simp; omega) hle7 (by omega) _ hBS rfl).mono ?_
    rintro x w8 ⟨A8, rfl, hO8, hb8⟩
    have HP1' := Lib.hid (HP1.out.keep hb8 (Nat.le_refl _))
    have HP2' := Lib.hid (HP2.out.keep hb8 (Nat.le_refl _))
    have hF2' := Lib.hid (blk_later hF2 hb8 (blk_lt hF2))
    have hlt28 : w2.heap.size < w8.heap.size := blk_lt hF2'.out
    have hbw8 : Below w.heap.size w w8 := hb7.trans (hb8.mono hb7.size)
    have HP8 := Lib.hid (hO8.mono (base := w.heap.size) hb7.size)
    clear HP1 HP2 hF2 hb8 hO8 hb7 hb27 hBS hnl x1 y1 hbF2 hsF2 hwF HO1' HO2 hjoin
    have HZl := Lib.hid hZl; clear hZl
    go_wp2_with fail
    have hF3 := Lib.hid (heap_new1 w8 (.cells #[.int .i64 f31, .int .i64 f32] 28))
    have hb9 := below_new1 w8 (.cells #[.int .i64 f31, .int .i64 f32] 28)
    have HP1 := Lib.hid (HP1'.out.keep hb9 (Nat.le_refl _))
    have HP2 := Lib.hid (HP2'.out.keep hb9 (Nat.le_refl _))
    have HP3 := Lib.hid (HP8.out.keep hb9 (Nat.le_refl _))
    have hF2 := Lib.hid (blk_later hF2'.out hb9 hlt28)
    have hbw9 := hbw8.trans (hb9.mono hbw8.size)
    clear HP1' HP2' HP8 hF2' hb9 hbw8
    go_loopg [16] (ts.length + 1 + us.length) (fun n s16 wr => ∃ i : Nat, s16 = .int .i64 i ∧ i ≤ ts.length + 1 + us.length ∧ Hid (n = ts.length + 1 + us.length - i) ∧ Hid (OwnS wr w.heap.size 36 3 A1 ts.length (tokCells ts)) ∧ Hid (OwnS wr w.heap.size 36 3 A2 us.length (tokCells us)) ∧ Hid (OwnS wr w.heap.size 36 3 A8 (ts.length + 1 + us.length) (tokCells Z)) ∧
      Hid (wr.heap[w2.heap.size]? = some (.cells #[.int .i64 fb1, .int .i64 fb2] 28 (0, 0))) ∧ Hid (wr.heap[w8.heap.size]? = some (.cells #[.int .i64 f31, .int .i64 f32] 28 (0, 0))) ∧ Below w.heap.size w wr)
    case atStart => exact ⟨0, rfl, by omega, rfl, HP1, HP2, HP3, hF2, hF3, hbw9⟩
    case round =>
      clear HP1 HP2 HP3 hF2 hF3 hbw9
      obtain ⟨i, rfl, hi, hn, HP1, HP2, HP3, hF2, hF3, hbw⟩ := hrel
      have hlt2 : w2.heap.size < wr.heap.size := blk_lt hF2.out
      have hlt8 : w8.heap.size < wr.heap.size := blk_lt hF3.out
      by_cases hlt : i < ts.length + 1 + us.length
      · obtain ⟨z, hz⟩ : ∃ z, Hid (Z[i]? = some z) := ⟨Z[i]'(by rw [HZl.out]; exact hlt), List.getElem?_eq_getElem _⟩
        have hja := join_at ts us mk (a.length + 1) i
        rw [← hZ.out] at hja
        have HJ := Lib.hid hja; clear hja
        obtain ⟨g8, rfl, hg8b, hg8, e0, e1, e2⟩ := tok_cells HZl.out.symm HP3.out hz.out
        by_cases hc1 : i < ts.length
        · -- a token of the first text
          have hzt : ts[i]? = some z := (HJ.out.1 hc1).symm.trans hz.out
          obtain ⟨g1, rfl, hg1b, hg1, d0, d1, d2⟩ := tok_cells rfl HP1.out hzt
          clear hzt
          have k1 : decide (ts.length < i) = false := by simp; omega
          go_upto_region 23 with fail
          go_big_quiet (fail)
          go_wp2
          have hbn := below_drewN (below_new1 wr (.cells #[.int .u8 z.kind, .int .i64 z.from_, .int .i64 z.to_] 36)) nq
          go_roundg (ts.length + 1 + us.length - (i + 1))
          case measure => have := hn.out; omega
          case rel => exact ⟨i + 1, by go_num, by omega, rfl, HP1.out.keep hbn (Nat.le_refl _), HP2.out.keep hbn (Nat.le_refl _), HP3.out.keep hbn (Nat.le_refl _), blk_later hF2.out hbn hlt2, blk_later hF3.out hbn hlt8, hbw.trans (hbn.mono hbw.size)⟩
        · by_cases hc2 : i = ts.length
          · -- the mark
            have hzm : z = TokF.mk 1 (a.length : Nat) ((a.length + 1 : Nat) : Int) 0 0 := by
              have := (HJ.out.2.1 hc2).symm.trans hz.out
              injection this with this
              rw [← this, hmk.out]
            subst hzm
            have hp : ((a.length + 1 : Nat) : Int) = (a.length : Int) + 1 := by omega
            simp only [hp] at e0 e1 e2
            have k1 : decide (i < ts.length) = false := by simp; omega
            have k2 : decide (ts.length < i) = false := by simp; omega
            clear hp hc2 hc1
            go_upto_region 23 with fail
            go_big_quiet (fail)
            go_wp2
            have hbn := below_drewN (below_new1 wr (.cells #[.int .u8 1, .int .i64 a.length, .int .i64 ((a.length : Int) + 1)] 36)) nq
            go_roundg (ts.length + 1 + us.length - (i + 1))
            case measure => have := hn.out; omega
            case rel => exact ⟨i + 1, by go_num, by omega, rfl, HP1.out.keep hbn (Nat.le_refl _), HP2.out.keep hbn (Nat.le_refl _), HP3.out.keep hbn (Nat.le_refl _), blk_later hF2.out hbn hlt2, blk_later hF3.out hbn hlt8, hbw.trans (hbn.mono hbw.size)⟩
          · -- a token of the second text
            obtain ⟨j, hj⟩ : ∃ j, i = ts.length + 1 + j := ⟨i - ts.length - 1, by omega⟩
            have hju : j < us.length := by omega
            obtain ⟨u, hu⟩ : ∃ u, Hid (us[j]? = some u) := ⟨us[j], List.getElem?_eq_getElem hju⟩
            have hzu : z = TokF.mk u.kind (u.from_ + ((a.length : Int) + 1)) (u.to_ + ((a.length : Int) + 1)) 0 0 := by
              have := (HJ.out.2.2 j hj).symm.trans hz.out
              rw [hu.out] at this
              injection this with this
              have hcode := (HTOK.out u (List.mem_of_getElem? hu.out)).1
              rw [← this, TokF.sh, if_pos hcode]
              simp
            subst hzu
            have hbd := (HTOK.out u (List.mem_of_getElem? hu.out)).2
            obtain ⟨b1, b2, b3, b4⟩ := hbd
            obtain ⟨g2, rfl, hg2b, hg2, d0, d1, d2⟩ := tok_cells rfl HP2.out hu.out
            have k1 : decide (i < ts.length) = false := by simp; omega
            have k2 : decide (ts.length < i) = true := by simp; omega
            have k3 : ((i : Int) - (ts.length : Int) - 1).toNat = j := by omega
            have k4 : (i : Int) - (ts.length : Int) - 1 = (j : Int) := by omega
            dsimp only at e0 e1 e2
            clear hc2 hc1
            have HJ' := Lib.hid hj; clear hj
            go_upto_region 23 with fail
            go_big_quiet (fail)
            go_wp2
            have hbn := below_drewN (below_new1 wr (.cells #[.int .u8 u.kind, .int .i64 (u.from_ + ((a.length : Int) + 1)), .int .i64 (u.to_ + ((a.length : Int) + 1))] 36)) nq
            go_roundg (ts.length + 1 + us.length - (i + 1))
            case measure => have := hn.out; omega
            case rel => exact ⟨i + 1, by go_num, by omega, rfl, HP1.out.keep hbn (Nat.le_refl _), HP2.out.keep hbn (Nat.le_refl _), HP3.out.keep hbn (Nat.le_refl _), blk_later hF2.out hbn hlt2, blk_later hF3.out hbn hlt8, hbw.trans (hbn.mono hbw.size)⟩
      · obtain rfl : i = ts.length + 1 + us.length := by omega
        have p0 := blk_cell hF2.out 0
        have p1 := blk_cell hF2.out 1
        have q0 := blk_cell hF3.out 0
        have q1 := blk_cell hF3.out 1
        rcases HFB.out with h0 | ⟨e, h0, he⟩
        · injection h0 with h1 h2
          subst h1 h2
          have h3 := hf3.out
          rw [shF, if_pos rfl] at h3
          injection h3 with h1 h2
          subst h1 h2
          go_wp2_with (go_at_call 6; refine (lives_any _).mono ?_; rintro x w9 ⟨rfl, hb9⟩)
          go_ret
          exact ⟨rfl, hbw.trans (hb9.mono hbw.size)⟩
        · injection h0 with h1 h2
          subst h1 h2
          have h3 := hf3.out
          rw [shF, if_neg (by simp)] at h3
          injection h3 with h1 h2
          subst h1
          have h2' : f32 = (e : Int) + ((a.length : Int) + 1) := by rw [← h2]; simp
          clear h2
          subst h2'
          go_wp2_with (go_at_call 6; refine (lives_any _).mono ?_; rintro x w9 ⟨rfl, hb9⟩)
          go_ret
          exact ⟨rfl, hbw.trans (hb9.mono hbw.size)⟩
  · injection h0 with h1 h2
    subst h1 h2
    go_wp2_with (go_at_call 6; refine (lives_any _).mono ?_; rintro x w3 ⟨rfl, hb3⟩)
    go_ret
    have h4 := below_new1 w2 (.cells #[.int .i64 fb1, .int .i64 fb2] 28)
    exact ⟨rfl, (hbw2.trans (h4.mono hbw2.size)).trans (hb3.mono (Nat.le_trans hbw2.size h4.size))⟩

end Go.Proofs.Ytjiejpjdbimjkaa
