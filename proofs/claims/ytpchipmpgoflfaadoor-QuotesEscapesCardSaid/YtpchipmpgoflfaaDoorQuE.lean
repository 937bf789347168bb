/- The walk over quotes.Read; no statement of the seat is proved here. (Printed by wip/tools/genQuE.py.) -/
import Derived.Test.YtpchipmpgoflfaaDoorQuD
import Derived.Test.YtpchipmpgoflfaaDoorBld
namespace Go.Proofs.YtpchipmpgoflfaaDoor
open Go.RowKit

/-- Read from a place on, with what has been told so far. -/
def rdQ (l : List UInt8) (a : Nat) (out : List UInt8) : List UInt8 × Int × Int :=
  if h : a < l.length then
    if l[a].toNat < 32 then ([], 3, (a : Int))
    else if l[a].toNat = 34 then (if a + 1 = l.length then (out, 0, 0) else ([], 3, (a : Int) + 1))
    else if l[a].toNat ≠ 92 then rdQ l (a + 1) (out ++ [l[a]])
    else if h2 : (escL l a).2.2.1 = 0 ∧ 0 < (escL l a).2.1 then rdQ l (a + (escL l a).2.1.toNat) (out ++ (escL l a).1) else ([], (escL l a).2.2.1, (escL l a).2.2.2)
  else ([], 3, (l.length : Int))
termination_by l.length - a
def readQ (l : List UInt8) : List UInt8 × Int × Int := if l.length = 0 then ([], 3, 0) else if bt l 0 ≠ 34 then ([], 3, 0) else rdQ l 1 []

theorem rdQ_end {l : List UInt8} {a : Nat} {out : List UInt8} (h : l.length ≤ a) : rdQ l a out = ([], 3, (l.length : Int)) := by rw [rdQ, dif_neg (by omega)]
theorem rdQ_ctl {s : ByteArray} {a : Nat} {out : List UInt8} (h : a < s.size) (h1 : s[a].toNat < 32) : rdQ s.data.toList a out = ([], 3, (a : Int)) := by
  have hl : a < s.data.toList.length := by simpa using h
  rw [rdQ, dif_pos hl]; exact if_pos h1
theorem rdQ_quote {s : ByteArray} {a : Nat} {out : List UInt8} (h : a < s.size) (h1 : s[a].toNat = 34) : rdQ s.data.toList a out = if a + 1 = s.size then (out, 0, 0) else ([], 3, (a : Int) + 1) := by
  have hl : a < s.data.toList.length := by simpa using h
  have e : s.data.toList[a] = s[a] := rfl
  rw [rdQ, dif_pos hl, e, if_neg (by omega), if_pos h1]; simp
theorem rdQ_byte {s : ByteArray} {a : Nat} {out : List UInt8} (h : a < s.size) (h0 : 32 ≤ s[a].toNat) (h1 : s[a].toNat ≠ 34) (h2 : s[a].toNat ≠ 92) : rdQ s.data.toList a out = rdQ s.data.toList (a + 1) (out ++ [s[a]]) := by
  have hl : a < s.data.toList.length := by simpa using h
  have e : s.data.toList[a] = s[a] := rfl
  conv => lhs; rw [rdQ, dif_pos hl, e, if_neg (by omega), if_neg h1, if_pos h2]
theorem rdQ_esc {s : ByteArray} {a : Nat} {out : List UInt8} (h : a < s.size) (h1 : s[a].toNat = 92) {t : List UInt8} {k : Nat} (he : escL s.data.toList a = (t, (k : Int), 0, 0)) (hk : 0 < k) : rdQ s.data.toList a out = rdQ s.data.toList (a + k) (out ++ t) := by
  have hl : a < s.data.toList.length := by simpa using h
  have e : s.data.toList[a] = s[a] := rfl
  conv => lhs; rw [rdQ, dif_pos hl, e, if_neg (by omega), if_neg (by omega), if_neg (by omega), he, dif_pos ⟨rfl, by simpa using hk⟩]
  simp
theorem rdQ_bad {s : ByteArray} {a : Nat} {out : List UInt8} (h : a < s.size) (h1 : s[a].toNat = 92) {t : List UInt8} {k co fa : Int} (he : escL s.data.toList a = (t, k, co, fa)) (hc : co ≠ 0) : rdQ s.data.toList a out = ([], co, fa) := by
  have hl : a < s.data.toList.length := by simpa using h
  have e : s.data.toList[a] = s[a] := rfl
  rw [rdQ, dif_pos hl, e, if_neg (by omega), if_neg (by omega), if_neg (by omega), he, dif_neg (by simp [hc])]

/-- An escape is one, or is told. -/
theorem esc_ways (l : List UInt8) (a : Nat) : (∃ t k, escL l a = (t, ((k : Nat) : Int), 0, 0) ∧ 2 ≤ k ∧ k ≤ 12 ∧ t.length ≤ k) ∨ (∃ t k co fa, escL l a = (t, k, co, fa) ∧ (co = 3 ∨ co = 6)) := by
  unfold escL
  split
  · exact .inr ⟨_, _, _, _, rfl, .inl rfl⟩
  · split
    · exact .inl ⟨_, 2, rfl, by omega, by omega, by simp⟩
    · have hp : ∀ r : Int, (putL [r]).length ≤ 4 := fun r => by simpa using putL_len [r]
      unfold runeL
      split
      · exact .inr ⟨_, _, _, _, rfl, .inl rfl⟩
      · split
        · exact .inl ⟨_, 6, rfl, by omega, by omega, by have := hp (unitL l a).1; show (putL [(unitL l a).1]).length ≤ 6; omega⟩
        · split
          · exact .inr ⟨_, _, _, _, rfl, .inr rfl⟩
          · exact .inl ⟨_, 12, rfl, by omega, by omega, Nat.le_trans (hp (65536 + ((unitL l a).1 - 55296) * 1024 + (unitL l (a + 6)).1 - 56320)) (by omega)⟩

/-- A scope whose label is jumped back to: what stands behind the label, once for all. -/
theorem wp_scope_back {P : Program} {c r : Code} {a : Act} {w : World} {Q : Exit → Act → World → Prop} (l : Nat) (J : Act → World → Prop) (μ : Act → World → Nat) (hf : findLabel c l = some (.seq .skip r))
    (pass : ∀ a w, J a w → r.wp P (Exit.jump l (fun a' w' => J a' w' ∧ μ a' w' < μ a w) Q) a w)
    (first : (∀ a w, J a w → r.wp P (Exit.jump l J Q) a w) → c.wp P (Exit.jump l J Q) a w) : (Code.scope c).wp P Q a w :=
  wp_scope_jumps l J μ hf (first fun a w h => Code.wp_mono (fun e a' w' q => by
    cases e
    case goto m => exact ⟨q.1, q.2.1⟩
    all_goals exact q) (pass a w h)) fun a w h => wp_seq (wp_skip (pass a w h))

/-- The frame at the label. -/
def QuJ (s : ByteArray) (w : World) (a' : Act) (w' : World) : Prop := ∃ (k : Nat) (out : List UInt8) (u : Nat → Value), a' = { tmps := #[.string s, undef, .string ⟨#[]⟩, .pointer (some ⟨w.heap.size, 0, none⟩), .pointer (some ⟨w.heap.size + 1, 0, none⟩), .int .i64 k, (u 6), (u 7), (u 8), (u 9), (u 10), (u 11), (u 12), (u 13), (u 14), (u 15), (u 16), (u 17), (u 18), (u 19), (u 20), (u 21), (u 22), (u 23), (u 24), (u 25), (u 26), (u 27), (u 28), (u 29), (u 30), (u 31), (u 32), (u 33), (u 34), (u 35), (u 36), (u 37), (u 38), (u 39), (u 40), (u 41), (u 42), (u 43), (u 44), (u 45), (u 46), (u 47), (u 48), (u 49), (u 50), (u 51), (u 52), (u 53), (u 54), (u 55), (u 56), (u 57), (u 58), (u 59), (u 60), (u 61), (u 62), (u 63), (u 64), (u 65), (u 66), (u 67), (u 68), (u 69), (u 70), (u 71), (u 72), (u 73), (u 74), (u 75), (u 76), (u 77), (u 78), (u 79), (u 80)], defers := [] } ∧ 1 ≤ k ∧ k ≤ s.size + 12 ∧ out.length ≤ k ∧ Hid (rdQ s.data.toList k out = rdQ s.data.toList 1 []) ∧ Hid (Lib.IsBuilder 40 5 (w.heap.size + 1) (w.heap.size + 1) (byteVals out) w') ∧ Hid (w'.heap[w.heap.size]? = some (.cells #[.int .i64 0, .int .i64 0] 26 (0, 0))) ∧ Below w.heap.size w w'
def QuM (s : ByteArray) (a' : Act) (_ : World) : Nat := s.size - (intOf (a'.tmps.getD 5 undef)).toNat

theorem builder_at' {w : World} (p : Obj) (b : Nat) (hb : b = w.heap.size) (hp : p = .cells #[.pointer none, .slice none 0 0] 40 := by rfl) : Lib.IsBuilder 40 5 b b (byteVals []) (w.alloc p) := by
  subst hb; exact builder_new w p hp

theorem str_empty (s : ByteArray) : s.toList.isEmpty = decide (s.size = 0) := by
  rw [ByteArray.toList_eq]
  rcases s with ⟨⟨l⟩⟩
  cases l <;> simp [ByteArray.size]
/-- What Read returns. -/
def RdPost (R : List UInt8 × Int × Int) (w : World) (e : Ending) (w' : World) : Prop :=
  e = .returned (.tuple #[.string ⟨R.1.toArray⟩, .agg #[.int .i64 R.2.1, .int .i64 R.2.2]]) ∧ Below w.heap.size w w'

set_option maxRecDepth 100000 in
set_option maxHeartbeats 2000000 in
theorem qread_any (s : ByteArray) (hs : s.size ≤ 16777216) (w : World) (hG : Glob w) :
    Calls Tryd.prog 9 #[.string s] w (RdPost (readQ s.data.toList) w) := by
  have HG := Lib.hid hG; clear hG
  by_cases hne : s.size = 0
  · have hR : Hid (readQ s.data.toList = ([], 3, 0)) := by
      show _ = _
      rw [readQ, if_pos (by simpa using hne)]
    have hem : s.toList.isEmpty = true := by rw [str_empty]; simpa using hne
    have hF := (heap_new2 w (.cells #[.int .i64 0, .int .i64 0] 26) (.cells #[.pointer none, .slice none 0 0] 40)).1
    have hltF := Lib.hid (blk_lt hF)
    have HF := Lib.hid hF; clear hF
    go_enter Tryd.func9, Tryd.ntmps9
    go_wp2
    go_step3
    go_wp2_with (go_at_call 17; (with_reducible refine (wrong_any _ _).mono ?_); rintro e w2 ⟨rfl, hb2⟩; have hF2 := blk_later HF.out hb2 hltF.out; have f0 : w2.cell? ⟨w.heap.size, 0, none⟩ = some (.int .i64 0) := blk_cell hF2 0; have f1 : w2.cell? ⟨w.heap.size, 1, none⟩ = some (.int .i64 0) := blk_cell hF2 1; have g0 := blk_frozen hF2 0; have g1 := blk_frozen hF2 1; have hlt2 := blk_lt hF2)
    rw [Exit.noGoto_ret]
    refine bodyPost_ret (v := .tuple #[.string ⟨#[]⟩, .agg #[.int .i64 3, .int .i64 0]]) (by simp [results, Tryd.results9, go_sem, f0, f1]) rfl ?_
    rw [hR.out]
    exact ⟨rfl, (((below_new2 w _ _).trans (hb2.mono (by simp; omega))).setCell (by simp) _).setCell (by simp) _⟩
  have hne' : s.toList.isEmpty = false := by rw [str_empty]; simpa using hne
  by_cases hq : s[0].toNat = 34
  · have b0 : ((s[0].toNat : Int) != 34) = false := by simp; omega
    have hR : Hid (readQ s.data.toList = rdQ s.data.toList 1 []) := by
      show _ = _
      rw [readQ, if_neg (by simpa using hne), if_neg (by rw [bt_str (by omega)]; simpa using hq)]
    clear hq
    go_enter Tryd.func9, Tryd.ntmps9
    go_wp2
    refine wp_scope_back 0 (QuJ s w) (QuM s) rfl ?_ ?_
    · rintro a' w' ⟨k, out, u, rfl, hk1, hk2, hol, hr, hb, hF, hbw⟩
      have hltF := blk_lt hF.out
      by_cases hin : k < s.size
      · by_cases hctl : s[k].toNat < 32
        · have hres : Hid (readQ s.data.toList = ([], 3, (k : Int))) := by
            show _ = _
            rw [hR.out, ← hr.out, rdQ_ctl hin hctl]
          go_wp2_with (go_at_call 17; (with_reducible refine (wrong_any _ _).mono ?_); rintro e w2 ⟨rfl, hb2⟩; have hF2 := blk_later hF.out hb2 hltF; have f0 : w2.cell? ⟨w.heap.size, 0, none⟩ = some (.int .i64 0) := blk_cell hF2 0; have f1 : w2.cell? ⟨w.heap.size, 1, none⟩ = some (.int .i64 0) := blk_cell hF2 1; have g0 := blk_frozen hF2 0; have g1 := blk_frozen hF2 1; have hlt2 := blk_lt hF2)
          rw [jump_ret]
          refine bodyPost_ret (v := .tuple #[.string ⟨#[]⟩, .agg #[.int .i64 3, .int .i64 k]]) (by simp [results, Tryd.results9, go_sem, f0, f1]) rfl ?_
          rw [hres.out]
          exact ⟨rfl, ((hbw.trans (hb2.mono hbw.size)).setCell (by simp) _).setCell (by simp) _⟩
        by_cases hqu : s[k].toNat = 34
        · have bq : ((s[k].toNat : Int) == 34) = true := by simp; omega
          by_cases hlast : k + 1 = s.size
          · have bl : (((k : Int) + 1) == (s.size : Int)) = true := by simp; omega
            have hres : Hid (readQ s.data.toList = (out, 0, 0)) := by
              show _ = _
              rw [hR.out, ← hr.out, rdQ_quote hin hqu, if_pos hlast]
            clear hqu hlast
            have f0 : w'.cell? ⟨w.heap.size, 0, none⟩ = some (.int .i64 0) := blk_cell hF.out 0
            have f1 : w'.cell? ⟨w.heap.size, 1, none⟩ = some (.int .i64 0) := blk_cell hF.out 1
            have g0 := blk_frozen hF.out 0
            have g1 := blk_frozen hF.out 1
            have hFk : ∀ w2, Below (w.heap.size + 1) w' w2 → w2.heap[w.heap.size]? = some (.cells #[.int .i64 0, .int .i64 0] 26 (0, 0)) := fun w2 h => blk_later hF.out h (by omega)
            have HFK := Lib.hid hFk; clear hFk
            go_wp2
            go_region_with (go_at_call 18; refine (Tryd.Builder_String_any (w.heap.size + 1) (w.heap.size + 1) out _ (by exact hb.out) (by first | omega | (simp; omega))).mono ?_; rintro e w2 ⟨rfl, hb2⟩; have hF2 := HFK.out w2 (by first | exact hb2 | exact Below.trans (Below.drew (Below.refl _ _)) hb2 | exact Below.trans (Below.drew (Below.drew (Below.refl _ _))) hb2); have r0 : w2.cell? ⟨w.heap.size, 0, none⟩ = some (.int .i64 0) := blk_cell hF2 0; have r1 : w2.cell? ⟨w.heap.size, 1, none⟩ = some (.int .i64 0) := blk_cell hF2 1; have k0 := blk_frozen hF2 0; have k1 := blk_frozen hF2 1; have hlt2 := blk_lt hF2)
            all_goals (
              go_wp2
              rw [jump_ret]
              refine bodyPost_ret (v := .tuple #[.string ⟨out.toArray⟩, .agg #[.int .i64 0, .int .i64 0]]) (by simp [results, Tryd.results9, go_sem, r0, r1]) rfl ?_
              rw [hres.out]
              refine ⟨rfl, ?_⟩
              repeat (first | refine Below.drew ?_ | refine Below.setCell ?_ (by simp) _)
              exact hbw.trans (Below.mono (B' := w.heap.size) (by first | exact hb2 | exact Below.trans (Below.drew (Below.refl _ _)) hb2 | exact Below.trans (Below.drew (Below.drew (Below.refl _ _))) hb2) (Nat.le_succ _)))
          · have bl : (((k : Int) + 1) == (s.size : Int)) = false := by simp; omega
            have hres : Hid (readQ s.data.toList = ([], 3, (k : Int) + 1)) := by
              show _ = _
              rw [hR.out, ← hr.out, rdQ_quote hin hqu, if_neg hlast]
            clear hqu hlast
            go_wp2_with (go_at_call 17; (with_reducible refine (wrong_any _ _).mono ?_); rintro e w2 ⟨rfl, hb2⟩; have hF2 := blk_later hF.out hb2 hltF; have f0 : w2.cell? ⟨w.heap.size, 0, none⟩ = some (.int .i64 0) := blk_cell hF2 0; have f1 : w2.cell? ⟨w.heap.size, 1, none⟩ = some (.int .i64 0) := blk_cell hF2 1; have g0 := blk_frozen hF2 0; have g1 := blk_frozen hF2 1; have hlt2 := blk_lt hF2)
            rw [jump_ret]
            refine bodyPost_ret (v := .tuple #[.string ⟨#[]⟩, .agg #[.int .i64 3, .int .i64 ((k : Int) + 1)]]) (by simp [results, Tryd.results9, go_sem, f0, f1]) rfl ?_
            rw [hres.out]
            exact ⟨rfl, ((hbw.trans (hb2.mono hbw.size)).setCell (by simp) _).setCell (by simp) _⟩
        have bq : ((s[k].toNat : Int) == 34) = false := by simp; omega
        by_cases hes : s[k].toNat = 92
        · have be : ((s[k].toNat : Int) != 92) = false := by simp; omega
          have hsz : k < 1073741000 := by omega
          rcases esc_ways s.data.toList k with ⟨t, n, he, hn2, hn12, htl⟩ | ⟨t, n, co, fa, he, hco⟩
          · have hr' : Hid (rdQ s.data.toList (k + n) (out ++ t) = rdQ s.data.toList 1 []) := by
              show _ = _
              rw [← hr.out, rdQ_esc hin hes he (by omega)]
            have HE := Lib.hid he; clear he
            clear hqu hes
            go_wp2_with (go_at_call 20; (with_reducible refine (escaped_any s (by omega) k hin _ (HG.out.keep hbw (Nat.le_refl _))).mono ?_); rw [HE.out]; rintro e w2 ⟨A2, m2, rfl, hO2, hb2⟩; dsimp only at hO2 ⊢)
            have hbF := below_new1 w2 (.cells #[.int .i64 0, .int .i64 0] 26)
            have hbl := builder_lt hb.out
            have hB2 := builder_keep (builder_keep hb.out hb2 (Nat.le_refl _)) hbF (Nat.le_refl _)
            obtain ⟨hm2, hBS⟩ := (hO2.keep hbF (Nat.le_refl _)).bs
            have hdis : ∀ a, A2 = some a → 0 < t.length → a.block ≠ w.heap.size + 1 := fun a ea ht => by
              obtain ⟨g, eg, hg, _⟩ := hO2.cell (j := 0) (by omega)
              rw [ea] at eg; cases eg
              show g ≠ _
              omega
            have HB2 := Lib.hid hB2; have HBS := Lib.hid hBS; have HD := Lib.hid hdis; have HM := Lib.hid hm2
            clear hB2 hBS hdis hm2
            have hs2 := hb2.size
            go_wp2_with (go_at_call 21; refine (write_any (w.heap.size + 1) (w.heap.size + 1) out A2 m2 t HM.out _ _ HBS.out HB2.out HD.out (by omega) (by simp; omega)).mono ?_; rintro e w3 ⟨rfl, hb3, hbl3⟩)
            go_step3
            go_wp2
            refine jump_goto ⟨⟨k + n, out ++ t, fun i => ([_, _, _, _, _, _, _, _, _, _, _, _, _, _, _, _, _, _, _, _, _, _, _, _, _, _, _, _, _, _, _, _, _, _, _, _, _, _, _, _, _, _, _, _, _, _, _, _, _, _, _, _, _, _, _, _, _, _, _, _, _, _, _, _, _, _, _, _, _, _, _, _, _, _, _] : List Value).getD (i - 6) undef, rfl, by omega, by omega, by simp; omega, hr', hb3, ?_, ?_⟩, ?_⟩
            · exact blk_later (blk_later (blk_later hF.out hb2 hltF) hbF (by omega)) hbl3 (by omega)
            · have h1 := hbw.trans (hb2.mono hbw.size)
              have h2 := h1.trans (hbF.mono h1.size)
              exact h2.trans (hbl3.mono (by omega))
            · simp [QuM, intOf]; omega
          · have hres : Hid (readQ s.data.toList = ([], co, fa)) := by
              show _ = _
              rw [hR.out, ← hr.out, rdQ_bad hin hes he (by omega)]
            have HE := Lib.hid he; clear he
            clear hqu hes
            rcases hco with rfl | rfl
            · go_wp2_with (go_at_call 20; (with_reducible refine (escaped_any s (by omega) k hin _ (HG.out.keep hbw (Nat.le_refl _))).mono ?_); rw [HE.out]; rintro e w2 ⟨A2, m2, rfl, hO2, hb2⟩; dsimp only at hO2 ⊢; have hF2 := blk_later hF.out hb2 hltF; have f0 : w2.cell? ⟨w.heap.size, 0, none⟩ = some (.int .i64 0) := blk_cell hF2 0; have f1 : w2.cell? ⟨w.heap.size, 1, none⟩ = some (.int .i64 0) := blk_cell hF2 1; have g0 := blk_frozen hF2 0; have g1 := blk_frozen hF2 1; have hlt2 := blk_lt hF2)
              go_region
              all_goals (
                go_wp2
                rw [jump_ret]
                refine bodyPost_ret (v := .tuple #[.string ⟨#[]⟩, .agg #[.int .i64 3, .int .i64 fa]]) (by simp [results, Tryd.results9, go_sem, f0, f1, hlt2]) rfl ?_
                rw [hres.out]
                refine ⟨rfl, ?_⟩
                have h1 := hbw.trans (hb2.mono hbw.size)
                repeat (first | exact h1 | refine Below.drew ?_ | refine Below.alloc ?_ (by first | omega | (simp; omega) | simp) _ | refine Below.setCell ?_ (by simp) _))
            · go_wp2_with (go_at_call 20; (with_reducible refine (escaped_any s (by omega) k hin _ (HG.out.keep hbw (Nat.le_refl _))).mono ?_); rw [HE.out]; rintro e w2 ⟨A2, m2, rfl, hO2, hb2⟩; dsimp only at hO2 ⊢; have hF2 := blk_later hF.out hb2 hltF; have f0 : w2.cell? ⟨w.heap.size, 0, none⟩ = some (.int .i64 0) := blk_cell hF2 0; have f1 : w2.cell? ⟨w.heap.size, 1, none⟩ = some (.int .i64 0) := blk_cell hF2 1; have g0 := blk_frozen hF2 0; have g1 := blk_frozen hF2 1; have hlt2 := blk_lt hF2)
              go_region
              all_goals (
                go_wp2
                rw [jump_ret]
                refine bodyPost_ret (v := .tuple #[.string ⟨#[]⟩, .agg #[.int .i64 6, .int .i64 fa]]) (by simp [results, Tryd.results9, go_sem, f0, f1, hlt2]) rfl ?_
                rw [hres.out]
                refine ⟨rfl, ?_⟩
                have h1 := hbw.trans (hb2.mono hbw.size)
                repeat (first | exact h1 | refine Below.drew ?_ | refine Below.alloc ?_ (by first | omega | (simp; omega) | simp) _ | refine Below.setCell ?_ (by simp) _))
        · have be : ((s[k].toNat : Int) != 92) = true := by simp; omega
          have hr' : Hid (rdQ s.data.toList (k + 1) (out ++ [s[k]]) = rdQ s.data.toList 1 []) := by
            show _ = _
            rw [← hr.out, rdQ_byte hin (by omega) hqu hes]
          clear hqu hes
          have hbs := hbw.size
          go_wp2_with (go_at_call 19; refine (writeByte_any (w.heap.size + 1) (w.heap.size + 1) out s[k] _ hb.out (by omega) (by omega)).mono ?_; rintro e w2 ⟨rfl, hb2, hbl2⟩)
          go_step3
          go_wp2
          refine jump_goto ⟨⟨k + 1, out ++ [s[k]], fun i => ([_, _, _, _, _, _, _, _, _, _, _, _, _, _, _, _, _, _, _, _, _, _, _, _, _, _, _, _, _, _, _, _, _, _, _, _, _, _, _, _, _, _, _, _, _, _, _, _, _, _, _, _, _, _, _, _, _, _, _, _, _, _, _, _, _, _, _, _, _, _, _, _, _, _, _] : List Value).getD (i - 6) undef, rfl, by omega, by omega, by simp; omega, hr', hb2, ?_, ?_⟩, ?_⟩
          · exact blk_later hF.out hbl2 (by omega)
          · exact hbw.trans (hbl2.mono (by omega))
          · simp [QuM, intOf]; omega
      · have hres : Hid (readQ s.data.toList = ([], 3, (s.size : Int))) := by
          show _ = _
          rw [hR.out, ← hr.out, rdQ_end (by simp; omega)]; simp
        go_wp2_with (go_at_call 17; (with_reducible refine (wrong_any _ _).mono ?_); rintro e w2 ⟨rfl, hb2⟩; have hF2 := blk_later hF.out hb2 hltF; have f0 : w2.cell? ⟨w.heap.size, 0, none⟩ = some (.int .i64 0) := blk_cell hF2 0; have f1 : w2.cell? ⟨w.heap.size, 1, none⟩ = some (.int .i64 0) := blk_cell hF2 1; have g0 := blk_frozen hF2 0; have g1 := blk_frozen hF2 1; have hlt2 := blk_lt hF2)
        rw [jump_ret]
        refine bodyPost_ret (v := .tuple #[.string ⟨#[]⟩, .agg #[.int .i64 3, .int .i64 s.size]]) (by simp [results, Tryd.results9, go_sem, f0, f1]) rfl ?_
        rw [hres.out]
        exact ⟨rfl, ((hbw.trans (hb2.mono hbw.size)).setCell (by simp) _).setCell (by simp) _⟩
    · intro hrest
      go_wp2
      go_step3
      rename_i K hK
      refine hK _ _ (hrest _ _ ?_)
      refine ⟨1, [], fun i => ([_, _, _, _, _, _, _, _, _, _, _, _, _, _, _, _, _, _, _, _, _, _, _, _, _, _, _, _, _, _, _, _, _, _, _, _, _, _, _, _, _, _, _, _, _, _, _, _, _, _, _, _, _, _, _, _, _, _, _, _, _, _, _, _, _, _, _, _, _, _, _, _, _, _, _] : List Value).getD (i - 6) undef, rfl, by omega, by omega, by simp, rfl, ?_, ?_, ?_⟩
      · exact builder_at' _ _ (by simp)
      · exact (heap_new2 w _ _).1
      · exact below_new2 _ _ _
  · have hR : Hid (readQ s.data.toList = ([], 3, 0)) := by
      show _ = _
      rw [readQ, if_neg (by simpa using hne), if_pos (by rw [bt_str (by omega)]; simpa using hq)]
    have b0 : ((s[0].toNat : Int) != 34) = true := by simp; omega
    have hF := (heap_new2 w (.cells #[.int .i64 0, .int .i64 0] 26) (.cells #[.pointer none, .slice none 0 0] 40)).1
    have hltF := Lib.hid (blk_lt hF)
    have HF := Lib.hid hF; clear hF
    go_enter Tryd.func9, Tryd.ntmps9
    go_wp2
    go_step3
    go_wp2_with (go_at_call 17; (with_reducible refine (wrong_any _ _).mono ?_); rintro e w2 ⟨rfl, hb2⟩; have hF2 := blk_later HF.out hb2 hltF.out; have f0 : w2.cell? ⟨w.heap.size, 0, none⟩ = some (.int .i64 0) := blk_cell hF2 0; have f1 : w2.cell? ⟨w.heap.size, 1, none⟩ = some (.int .i64 0) := blk_cell hF2 1; have g0 := blk_frozen hF2 0; have g1 := blk_frozen hF2 1; have hlt2 := blk_lt hF2)
    rw [Exit.noGoto_ret]
    refine bodyPost_ret (v := .tuple #[.string ⟨#[]⟩, .agg #[.int .i64 3, .int .i64 0]]) (by simp [results, Tryd.results9, go_sem, f0, f1]) rfl ?_
    rw [hR.out]
    exact ⟨rfl, (((below_new2 w _ _).trans (hb2.mono (by simp; omega))).setCell (by simp) _).setCell (by simp) _⟩

end Go.Proofs.YtpchipmpgoflfaaDoor
