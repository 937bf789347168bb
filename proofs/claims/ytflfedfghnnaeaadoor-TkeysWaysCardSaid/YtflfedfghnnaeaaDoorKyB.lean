/- Walks over package tquotes: the steps of a long literal string, Read of one; no statement of the seat is proved here. -/
import Derived.Test.YtflfedfghnnaeaaDoorKyA
namespace Go.Proofs.YtflfedfghnnaeaaDoor
open Go.RowKit

/-- What common has to say. -/
def ComC (R : Nat) (s : ByteArray) (i q : Nat) (out : List UInt8) (Pr : Nat → Prop) (tk ov : Bool) (c a : Int) (j : Nat) (out' : List UInt8) : Prop :=
  ∀ w1 : World, RI w1 R s i q out Pr → Calls Tryd.prog 112 #[.pointer (some ⟨R, 0, none⟩)] w1 fun e w' => e = .returned (.tuple #[.bool tk, .bool ov, .agg #[.int .i64 c, .int .i64 a]]) ∧ RI w' R s j q out' Pr ∧ To R Pr w1 w'
/-- What itself has to say. -/
def ItsC (R : Nat) (s : ByteArray) (i q : Nat) (out : List UInt8) (Pr : Nat → Prop) (c a : Int) (j : Nat) (out' : List UInt8) : Prop :=
  ∀ w1 : World, RI w1 R s i q out Pr → Calls Tryd.prog 77 #[.pointer (some ⟨R, 0, none⟩)] w1 fun e w' => e = .returned (.tuple #[.bool false, .agg #[.int .i64 c, .int .i64 a]]) ∧ RI w' R s j q out' Pr ∧ To R Pr w1 w'

set_option maxRecDepth 100000 in
set_option maxHeartbeats 4000000 in
theorem longLiteral_took (R : Nat) (s : ByteArray) (i q : Nat) (out : List UInt8) (Pr : Nat → Prop) (w : World) (hR : RI w R s i q out Pr) (ov : Bool) (c a : Int) (j : Nat) (out' : List UInt8) (hC : ComC R s i q out (fun k => k = w.heap.size + 1 ∨ (k = w.heap.size ∨ Pr k)) true ov c a j out') :
    Calls Tryd.prog 111 #[.agg #[.pointer (some ⟨R, 0, none⟩)]] w fun e w' => e = .returned (.tuple #[.bool ov, .agg #[.int .i64 c, .int .i64 a]]) ∧ RI w' R s j q out' Pr ∧ To R Pr w w' := by
  have hR1 := (hR.new (.cells #[.pointer (some ⟨R, 0, none⟩)] 96)).new (.cells #[.int .i64 0, .int .i64 0] 33)
  rw [size_new1] at hR1
  have hRlt := hR.lt
  have hprl := Lib.hid hR.pr_lt
  have HR1 := Lib.hid hR1; clear hR1 hR
  have hF0 := FB.new (w.alloc (.cells #[.pointer (some ⟨R, 0, none⟩)] 96)) 0 0
  rw [size_new1] at hF0
  have HF := Lib.hid hF0; clear hF0
  have HC := Lib.hid hC; clear hC
  go_enter Tryd.func111, Tryd.ntmps111
  go_wp2_with fail
  refine (HC.out _ HR1.out).mono ?_
  rintro e w2 ⟨rfl, hR2, hT2⟩
  have hF2 := FB.prot HF.out hT2.prot (.inl rfl)
  have hT3 := (step_to _ _ hRlt hprl.out hT2).alloc (by simp; omega) (fun k hk => by rcases hk with rfl | hk; simp; have := hprl.out k hk; simp; omega) (.cells #[.int .i64 c, .int .i64 a] 33)
  have hR3 := hR2.keep (below_new1 w2 (.cells #[.int .i64 c, .int .i64 a] 33)) (Nat.le_refl _)
  have hFF := hF2.keep (below_new1 w2 (.cells #[.int .i64 c, .int .i64 a] 33)) (Nat.le_refl _)
  have hFf := FB.new w2 c a
  clear hR2 hT2 hF2
  go_wp2_with fail
  obtain ⟨w3, hw3⟩ : ∃ w3, w3 = w2.alloc (.cells #[.int .i64 c, .int .i64 a] 33) := ⟨_, rfl⟩
  rw [← hw3] at hT3 hR3 hFF hFf ⊢
  clear hw3
  obtain ⟨f0, f1, g0, g1, hltF⟩ := hFF.cells
  obtain ⟨k0, k1, _, _, _⟩ := hFf.cells
  have HR3 := Lib.hid hR3; clear hR3
  have HT3 := Lib.hid hT3; clear hT3 hFF hFf
  go_region
  all_goals (
    go_wp2
    refine bodyPost_ret (v := .tuple #[.bool ov, .agg #[.int .i64 c, .int .i64 a]]) (by simp [results, Tryd.results111, go_sem, f0, f1]) rfl ⟨rfl, ?_⟩
    have hfin := step_fin (.cells #[.pointer (some ⟨R, 0, none⟩)] 96) hRlt hprl.out HR3.out HT3.out (.int .i64 c) (.int .i64 a)
    exact ⟨hfin.1.keep (Below.refl _ _).drew (Nat.le_refl _), ⟨hfin.2.below.drew, hfin.2.prot⟩⟩)

set_option maxRecDepth 100000 in
set_option maxHeartbeats 4000000 in
theorem longLiteral_pass (R : Nat) (s : ByteArray) (i q : Nat) (out : List UInt8) (Pr : Nat → Prop) (w : World) (hR : RI w R s i q out Pr) (hC : ComC R s i q out (fun k => k = w.heap.size + 1 ∨ (k = w.heap.size ∨ Pr k)) false false 0 0 i out) (c a : Int) (j : Nat) (out' : List UInt8) (hI : ItsC R s i q out (fun k => k = w.heap.size + 1 ∨ (k = w.heap.size ∨ Pr k)) c a j out') :
    Calls Tryd.prog 111 #[.agg #[.pointer (some ⟨R, 0, none⟩)]] w fun e w' => e = .returned (.tuple #[.bool false, .agg #[.int .i64 c, .int .i64 a]]) ∧ RI w' R s j q out' Pr ∧ To R Pr w w' := by
  have hR1 := (hR.new (.cells #[.pointer (some ⟨R, 0, none⟩)] 96)).new (.cells #[.int .i64 0, .int .i64 0] 33)
  rw [size_new1] at hR1
  have hRlt := hR.lt
  have hprl := Lib.hid hR.pr_lt
  have HR1 := Lib.hid hR1; clear hR1 hR
  have hF0 := FB.new (w.alloc (.cells #[.pointer (some ⟨R, 0, none⟩)] 96)) 0 0
  rw [size_new1] at hF0
  have HF := Lib.hid hF0; clear hF0
  have HB := Lib.hid ((BX.new w R 96).keep (below_new1 _ (.cells #[.int .i64 0, .int .i64 0] 33)) (Nat.le_refl _))
  have HC := Lib.hid hC; have HI := Lib.hid hI; clear hC hI
  go_enter Tryd.func111, Tryd.ntmps111
  go_wp2_with fail
  refine (HC.out _ HR1.out).mono ?_
  rintro e w2 ⟨rfl, hR2, hT2⟩
  have hF2 := FB.prot HF.out hT2.prot (.inl rfl)
  have hB2 := BX.prot HB.out hT2.prot (.inr (.inl rfl))
  have hT3 : To R (fun k => k = w.heap.size + 1 ∨ (k = w.heap.size ∨ Pr k)) ((w.alloc (.cells #[.pointer (some ⟨R, 0, none⟩)] 96)).alloc (.cells #[.int .i64 0, .int .i64 0] 33)) (w2.alloc (.cells #[.int .i64 0, .int .i64 0] 33)) := step_on hT2 (To.new hR2.lt hR2.pr_lt _)
  have hR3 := hR2.keep (below_new1 w2 (.cells #[.int .i64 0, .int .i64 0] 33)) (Nat.le_refl _)
  have hFF := hF2.keep (below_new1 w2 (.cells #[.int .i64 0, .int .i64 0] 33)) (Nat.le_refl _)
  have hBB := hB2.keep (below_new1 w2 (.cells #[.int .i64 0, .int .i64 0] 33)) (Nat.le_refl _)
  clear hR2 hT2 hF2 hB2
  have x0 := hBB.cell
  have HR3 := Lib.hid hR3; clear hR3
  have HF3 := Lib.hid hFF; clear hFF
  have HB3 := Lib.hid hBB; clear hBB
  have HT3 := Lib.hid hT3; clear hT3
  go_wp2_with fail
  refine (HI.out _ HR3.out).mono ?_
  rintro e w5 ⟨rfl, hR5, hT5⟩
  clear x0
  obtain ⟨f0, f1, g0, g1, hltF⟩ := (FB.prot HF3.out hT5.prot (.inl rfl)).cells
  have HT5 := Lib.hid (step_on HT3.out hT5); clear hT5
  have HR5 := Lib.hid hR5; clear hR5
  go_wp2
  exact bodyPost_ret (v := .tuple #[.bool false, .agg #[.int .i64 c, .int .i64 a]]) (by simp [results, Tryd.results111, go_sem, f0, f1]) rfl ⟨rfl, step_fin (.cells #[.pointer (some ⟨R, 0, none⟩)] 96) hRlt hprl.out HR5.out (step_to _ _ hRlt hprl.out HT5.out) _ _⟩

theorem ext_one {s : ByteArray} {i : Nat} (h : i < s.size) : (s.extract i (i + 1)).data.toList = [s[i]] := by rw [one_byte s i h]; rfl
theorem ext_two {s : ByteArray} {i : Nat} (h : i + 1 < s.size) : (s.extract i (i + 2)).data.toList = [s[i], s[i + 1]] := by
  rw [ByteArray.data_extract, Array.toList_extract]
  have h0 : i < s.data.toList.length := by show i < s.size; omega
  have h1 : i + 1 < s.data.toList.length := h
  show (s.data.toList.drop i).take (i + 2 - i) = _
  rw [show i + 2 - i = 2 by omega, List.drop_eq_getElem_cons h0, List.drop_eq_getElem_cons h1]
  rfl
theorem longLiteral_steps {s : ByteArray} (hs : s.size ≤ 1073740000) {w0 : World} {R F : Nat} : StepsAre 111 R s 39 true w0 F := by
  intro i out w hin ho hRI hB
  have hb : bt s.data.toList i = s[i].toNat := bt_str hin
  by_cases h1 : s[i].toNat = 39
  · have e : stepT s.data.toList 39 true i = marksT s.data.toList 39 i := by unfold stepT; rw [hb, if_pos h1, if_pos rfl]
    rw [e]
    refine (longLiteral_took R s i 39 out _ w hRI _ _ _ _ _ (fun w1 h => common_mark R s i 39 out _ w1 h (by decide) hin (by omega) (by omega) _ rfl h1)).mono ?_
    rintro e w' ⟨g1, g2, g3⟩
    refine ⟨g3, ?_⟩
    unfold marksT
    by_cases h3 : 3 ≤ runB s.data.toList 39 5 i
    · rw [if_pos h3] at g2
      rw [decide_eq_true h3] at g1
      rw [if_pos h3]
      exact .inr (.inl ⟨rfl, g1, g2⟩)
    · rw [if_neg h3] at g2
      rw [decide_eq_false h3] at g1
      rw [if_neg h3]
      exact .inl ⟨rfl, g1, g2⟩
  by_cases h10 : s[i].toNat = 10
  · have e : stepT s.data.toList 39 true i = (0, i + 1, [s[i]]) := by
      unfold stepT
      rw [hb, if_neg h1, if_neg (fun h => by cases h.2), if_pos ⟨rfl, h10⟩, show s[i] = 10 from UInt8.toNat_inj.1 h10]
    rw [e]
    have hf : feedT s.data.toList i = (1, -1) := by unfold feedT; rw [hb, if_pos h10]
    have := longLiteral_took R s i 39 out _ w hRI _ _ _ _ _ (fun w1 h => common_line R s i 39 out _ w1 h hin (by omega) (by omega) 1 (by omega) (by omega) hf (by omega) h1)
    rw [ext_one hin] at this
    exact this.mono fun e w' ⟨h1, h2, h3⟩ => ⟨h3, .inl ⟨rfl, h1, h2⟩⟩
  by_cases h13 : s[i].toNat = 13
  · by_cases hn : bt s.data.toList (i + 1) = 10
    · have hi1 : i + 1 < s.size := by
        rcases Nat.lt_or_ge (i + 1) s.size with h | h
        · exact h
        · rw [bt_str_ge h] at hn; cases hn
      have e : stepT s.data.toList 39 true i = (0, i + 2, [s[i], s[i + 1]]) := by
        unfold stepT
        rw [hb, if_neg h1, if_neg (fun h => by cases h.2), if_neg (fun h => h10 h.2), if_pos ⟨rfl, h13⟩, if_pos hn, show s[i] = 13 from UInt8.toNat_inj.1 h13, show s[i + 1] = 10 from UInt8.toNat_inj.1 (by rw [← bt_str hi1]; exact hn)]
      rw [e]
      have hf : feedT s.data.toList i = (2, -1) := by unfold feedT; rw [hb, if_neg h10, if_pos h13, if_pos hn]
      have := longLiteral_took R s i 39 out _ w hRI _ _ _ _ _ (fun w1 h => common_line R s i 39 out _ w1 h hin (by omega) (by omega) 2 (by omega) (by omega) hf (by omega) h1)
      rw [ext_two hi1] at this
      exact this.mono fun e w' ⟨h1, h2, h3⟩ => ⟨h3, .inl ⟨rfl, h1, h2⟩⟩
    · have e : stepT s.data.toList 39 true i = (2, i + 1, []) := by
        unfold stepT
        rw [hb, if_neg h1, if_neg (fun h => by cases h.2), if_neg (fun h => h10 h.2), if_pos ⟨rfl, h13⟩, if_neg hn]
      rw [e]
      have hf : feedT s.data.toList i = (0, (i : Int) + 1) := by unfold feedT; rw [hb, if_neg h10, if_pos h13, if_neg hn]
      have hc : ComC R s i 39 out (fun k => k = w.heap.size + 1 ∨ (k = w.heap.size ∨ k = F)) true false 3 ((i : Int) + 1) i out := fun w1 h => by
        have := common_none R s i 39 out _ w1 h hin (by omega) ((i : Int) + 1) (.inr (by omega)) hf h1
        rw [decide_eq_true (by omega), if_neg (by omega), if_neg (by omega)] at this
        exact this
      exact (longLiteral_took R s i 39 out _ w hRI _ _ _ _ _ hc).mono fun e w' ⟨h1, h2, h3⟩ => ⟨h3, .inr (.inr ⟨rfl, h1⟩)⟩
  have hf : feedT s.data.toList i = (0, -1) := by unfold feedT; rw [hb, if_neg h10, if_neg h13]
  have hc : ComC R s i 39 out (fun k => k = w.heap.size + 1 ∨ (k = w.heap.size ∨ k = F)) false false 0 0 i out := fun w1 h => by
    have := common_none R s i 39 out _ w1 h hin (by omega) (-1) (.inl rfl) hf h1
    rw [decide_eq_false (by omega), if_pos (by omega), if_pos (by omega)] at this
    exact this
  by_cases hp : plainB s[i].toNat = true
  · have e : stepT s.data.toList 39 true i = (0, i + 1, [s[i]]) := by
      unfold stepT
      rw [hb, if_neg h1, if_neg (fun h => by cases h.2), if_neg (fun h => h10 h.2), if_neg (fun h => h13 h.2), if_pos hp]
      simp
    rw [e]
    exact (longLiteral_pass R s i 39 out _ w hRI hc _ _ _ _ (fun w1 h => itself_ok R s i 39 out _ w1 h hin (by omega) (by omega) hp)).mono fun e w' ⟨h1, h2, h3⟩ => ⟨h3, .inl ⟨rfl, h1, h2⟩⟩
  · have hp' : plainB s[i].toNat = false := by simpa using hp
    have e : stepT s.data.toList 39 true i = (2, i, []) := by
      unfold stepT
      rw [hb, if_neg h1, if_neg (fun h => by cases h.2), if_neg (fun h => h10 h.2), if_neg (fun h => h13 h.2), if_neg hp]
    rw [e]
    exact (longLiteral_pass R s i 39 out _ w hRI hc _ _ _ _ (fun w1 h => itself_bad R s i 39 out _ w1 h hin (by omega) hp')).mono fun e w' ⟨h1, h2, h3⟩ => ⟨h3, .inr (.inr ⟨rfl, h1⟩)⟩

set_option maxRecDepth 100000 in
set_option maxHeartbeats 4000000 in
theorem read_longL (s : ByteArray) (i : Nat) (hin : i < s.size) (hs : s.size ≤ 1073740000) (q : Nat) (hq : s[i].toNat = q) (hq2 : q = 39) (hl : longT s.data.toList i = true) (n : Nat) (hn2 : n ≤ 2) (h3 : i + 3 < s.size ∧ feedT s.data.toList (i + 3) = (n, -1)) (w : World)
    (hst : StepsAre 111 (w.heap.size + 1) s q true w w.heap.size) :
    Calls Tryd.prog 12 #[.string s, .int .i64 (i : Int)] w (RdPost (rdT s.data.toList q true (i + 3 + n) []) w) := by
  have hF0 := FB.new w 0 0
  have HF0 := Lib.hid hF0; clear hF0
  have hop := Lib.hid (open_long s i hin (by omega) q hq (.inr hq2) hl (fun k => k = w.heap.size) (w.alloc (.cells #[.int .i64 0, .int .i64 0] 33)) (fun k hk => by subst hk; simp))
  have HL := Lib.hid (fun w1 => long_is s i (by omega) (by omega) true hl w1)
  have HS := Lib.hid hst; clear hst hl
  have hi1 : (i : Int) < s.size := by omega
  have b34 : ((s[i].toNat : Int) != 34) = true := by simp; omega
  have b39 : ((s[i].toNat : Int) != 39) = false := by simp; omega
  have be : ((i : Int) == (s.size : Int)) = false := by simp; omega
  have HQ2 := Lib.hid hq2; clear hq2 hq
  go_enter Tryd.func12, Tryd.ntmps12
  go_wp2_with fail
  refine hop.out.mono ?_
  rintro e w1 ⟨rfl, hR1, hb1⟩
  rw [size_new1] at hR1 hb1
  rw [size_new1, if_neg (by rw [HQ2.out]; decide)]
  have HR1 := Lib.hid hR1; clear hR1
  have HF1 := Lib.hid (HF0.out.keep hb1 (by simp))
  have HB1 := Lib.hid ((below_new1 w (.cells #[.int .i64 0, .int .i64 0] 33)).trans (hb1.mono (by omega))); clear hb1
  clear be b34 b39
  obtain ⟨h3a, h3b⟩ := h3
  have HFD := Lib.hid (fun w1 (h : RI w1 (w.heap.size + 1) s (i + 3) q [] (fun k => k = w.heap.size)) => feed_is (w.heap.size + 1) s (i + 3) q [] _ w1 h h3a (by omega) n (-1) h3b)
  clear h3b
  obtain ⟨_, c1, _, _⟩ := HR1.out.cells0
  have h3I : ((i + 3 : Nat) : Int) < (s.size : Int) := by omega
  have h3I' : (i : Int) + 3 < (s.size : Int) := by omega
  go_wp2_with fail
  refine (HL.out _).mono ?_
  rintro e w2 ⟨rfl, rfl⟩
  go_wp2_with fail
  refine (HFD.out _ HR1.out).mono ?_
  rintro e w3 ⟨rfl, hR3, hT3⟩
  clear c1
  have hF3 := FB.prot (F := w.heap.size) HF1.out hT3.prot rfl
  have hB3 := HB1.out.trans (hT3.below.mono (by omega))
  have hFf := FB.new w3 0 0
  have hR4 := hR3.keep (below_new1 w3 (.cells #[.int .i64 0, .int .i64 0] 33)) (Nat.le_refl _)
  have hF4 := hF3.keep (below_new1 w3 (.cells #[.int .i64 0, .int .i64 0] 33)) (Nat.le_refl _)
  have hB4 := hB3.trans ((below_new1 w3 (.cells #[.int .i64 0, .int .i64 0] 33)).mono hB3.size)
  clear hR3 hT3 hF3 hB3
  obtain ⟨k0, k1, _, _, _⟩ := hFf.cells
  obtain ⟨_, d1, _, dz⟩ := hR4.cells0
  have dlt := hR4.lt
  rw [size_new1] at dlt
  have HR4 := Lib.hid (hR4.setAt (i + 3 + n) (.int .i64 ((i : Int) + 3 + (n : Int))) (by go_num))
  have HF4 : Hid (FB ((w3.alloc (.cells #[.int .i64 0, .int .i64 0] 33)).setCell ⟨w.heap.size + 1, 1, none⟩ (.int .i64 ((i : Int) + 3 + (n : Int)))) w.heap.size 0 0) := (Below.heap_setCell _ ⟨w.heap.size + 1, 1, none⟩ _ w.heap.size (by show w.heap.size ≠ w.heap.size + 1; omega)).trans hF4
  have HB4 := Lib.hid (hB4.setCell (p := ⟨w.heap.size + 1, 1, none⟩) (by show w.heap.size ≤ w.heap.size + 1; omega) (.int .i64 ((i : Int) + 3 + (n : Int))))
  clear hR4 hF4 hB4 hFf h3I h3I'
  go_wp2_with fail
  clear k0 k1 d1 dz dlt
  go_loopg [11] (s.size + 13 - (i + 3 + n)) (fun g s11 wr => ∃ (j : Nat) (o : List UInt8), o.length ≤ j ∧ j ≤ s.size + 12 ∧ Hid (g = s.size + 13 - j) ∧ Hid (RI wr (w.heap.size + 1) s j q o (fun k => k = w.heap.size)) ∧ Hid (rdT s.data.toList q true j o = rdT s.data.toList q true (i + 3 + n) []) ∧ Hid (FB wr w.heap.size 0 0) ∧ Hid (Below w.heap.size w wr))
  case atStart => exact ⟨i + 3 + n, [], by simp, by omega, rfl, HR4.out, rfl, HF4.out, HB4.out⟩
  case round =>
    obtain ⟨j, o, hoj, hj, hg, hR, hrd, hF, hB⟩ := hrel
    obtain ⟨c0, c1, _, _⟩ := hR.out.cells0
    by_cases hlt : j < s.size
    · obtain ⟨T0, T1, T2, hT⟩ : ∃ T0 T1 T2, stepT s.data.toList q true j = (T0, T1, T2) := ⟨_, _, _, rfl⟩
      have hlj : j < s.data.toList.length := hlt
      have hways := stepT_ways s.data.toList q true j hlj
      rw [hT] at hways
      have hstp := HS.out j o wr hlt hoj hR.out hB.out
      rw [hT] at hstp
      have HW := Lib.hid hways; clear hways
      have HT := Lib.hid hT; clear hT
      have HST := Lib.hid hstp; clear hstp
      have hm := meth_longLiteral ⟨w.heap.size + 1, 0, none⟩
      go_wp2_with fail
      refine HST.out.mono ?_
      rintro e w2 ⟨hTo, h⟩
      have hF2 := FB.prot (F := w.heap.size) hF.out hTo.prot rfl
      have HB2 := Lib.hid (hB.out.trans (hTo.below.mono (by omega)))
      have HF2 := Lib.hid hF2; clear hF2 hTo hm
      rcases h with ⟨rfl, rfl, hR2⟩ | ⟨rfl, rfl, hR2⟩ | ⟨rfl, rfl⟩
      · have hlt' : j < T1 ∧ T1 ≤ s.size + 12 ∧ (o ++ T2).length ≤ T1 := by
          have h := HW.out
          have hl : s.data.toList.length = s.size := rfl
          rw [hl] at h
          rw [List.length_append]
          omega
        obtain ⟨k1, k2, k3⟩ := hlt'
        have hrd2 := Lib.hid ((rdT_on (out := o) hlj HT.out k1).symm.trans hrd.out)
        have HR2 := Lib.hid hR2; clear hR2
        go_wp2
        go_roundg (s.size + 13 - T1)
        case measure => have := hg.out; omega
        case rel => exact ⟨T1, o ++ T2, k3, k2, rfl, HR2.out.keep (below_new1 w2 _) (Nat.le_refl _), hrd2.out, HF2.out.keep (below_new1 w2 _) (Nat.le_refl _), HB2.out.trans ((below_new1 w2 _).mono HB2.out.size)⟩
      · have hres := Lib.hid ((hrd.out.symm.trans (rdT_over (out := o) hlj HT.out)))
        have hR3 := hR2.keep (below_new1 w2 (.cells #[.int .i64 0, .int .i64 0] 33)) (Nat.le_refl _)
        clear hR2 c0 c1
        obtain ⟨A, n, cp, h1, hO, _⟩ := hR3
        have hlt3 := blk_lt h1
        rw [size_new1] at hlt3
        have hRs : w.heap.size + 1 < w2.heap.size ∨ w.heap.size + 1 = w2.heap.size := by omega
        have hn := hO.len
        have e1 : (w2.alloc (.cells #[.int .i64 0, .int .i64 0] 33)).cell? ⟨w.heap.size + 1, 1, none⟩ = some (.int .i64 (T1 : Int)) := blk_cell h1 1
        have e3 : (w2.alloc (.cells #[.int .i64 0, .int .i64 0] 33)).cell? ⟨w.heap.size + 1, 3, none⟩ = some (.slice A n cp) := blk_cell h1 3
        have hcv : ∀ w3 : World, w3 = w2.alloc (.cells #[.int .i64 0, .int .i64 0] 33) → (convert 40 9 (.slice A n cp)).run Tryd.prog w3.drew = .ok (.string ⟨(o ++ T2).toArray⟩) w3.drew := fun w3 hw3 => by
          subst hw3
          have := conv_bs (P := Tryd.prog) (w2.alloc (.cells #[.int .i64 0, .int .i64 0] 33)).drew 40 9 5 Tryd.underlying40 Tryd.underlying5 Tryd.underlying9 (hO.keep (Below.refl _ _).drew (Nat.le_refl _)).bs cp
          rwa [← hn] at this
        have HN := Lib.hid hn; clear hn hO h1
        have hFF := HF2.out.keep (below_new1 w2 (.cells #[.int .i64 0, .int .i64 0] 33)) (Nat.le_refl _)
        have hFf := FB.new w2 0 0
        have hB3 := HB2.out.trans ((below_new1 w2 (.cells #[.int .i64 0, .int .i64 0] 33)).mono HB2.out.size)
        have HCV := Lib.hid hcv; clear hcv
        go_wp2_with fail
        obtain ⟨w3, hw3⟩ : ∃ w3, w3 = w2.alloc (.cells #[.int .i64 0, .int .i64 0] 33) := ⟨_, rfl⟩
        have hcv := HCV.out w3 hw3
        rw [← hw3] at e1 e3 hFF hFf hB3 ⊢
        clear hw3 HCV
        obtain ⟨f0, f1, g0, g1, hltF⟩ := hFF.cells
        obtain ⟨k0, k1, _, _, _⟩ := hFf.cells
        have HB3 := Lib.hid hB3; clear hB3 hFF hFf
        go_region
        all_goals (
          go_wp2
          refine bodyPost_ret (v := .tuple #[.string ⟨(o ++ T2).toArray⟩, .int .i64 (T1 : Int), .agg #[.int .i64 0, .int .i64 0]]) (by simp [results, Tryd.results12, go_sem, f0, f1]) rfl ?_
          rw [hres.out]
          exact ⟨rfl, ((HB3.out.setCell (p := ⟨w.heap.size, 0, none⟩) (Nat.le_refl _) _).setCell (p := ⟨w.heap.size, 1, none⟩) (Nat.le_refl _) _).drew⟩)
      · have hres := Lib.hid ((hrd.out.symm.trans (rdT_bad (out := o) hlj HT.out)))
        clear c0 c1
        have hFF := HF2.out.keep (below_new1 w2 (.cells #[.int .i64 3, .int .i64 (T1 : Int)] 33)) (Nat.le_refl _)
        have hFf := FB.new w2 3 (T1 : Int)
        have hB3 := HB2.out.trans ((below_new1 w2 (.cells #[.int .i64 3, .int .i64 (T1 : Int)] 33)).mono HB2.out.size)
        go_wp2_with fail
        obtain ⟨w3, hw3⟩ : ∃ w3, w3 = w2.alloc (.cells #[.int .i64 3, .int .i64 (T1 : Int)] 33) := ⟨_, rfl⟩
        rw [← hw3] at hFF hFf hB3 ⊢
        clear hw3
        obtain ⟨f0, f1, g0, g1, hltF⟩ := hFF.cells
        obtain ⟨k0, k1, _, _, _⟩ := hFf.cells
        have HB3 := Lib.hid hB3; clear hB3 hFF hFf
        go_region
        all_goals (
          go_wp2
          refine bodyPost_ret (v := .tuple #[.string ⟨#[]⟩, .int .i64 0, .agg #[.int .i64 3, .int .i64 (T1 : Int)]]) (by simp [results, Tryd.results12, go_sem, f0, f1]) rfl ?_
          rw [hres.out]
          exact ⟨rfl, ((HB3.out.setCell (p := ⟨w.heap.size, 0, none⟩) (Nat.le_refl _) _).setCell (p := ⟨w.heap.size, 1, none⟩) (Nat.le_refl _) _).drew⟩)
    · have hres := Lib.hid (hrd.out.symm.trans (rdT_end (l := s.data.toList) (q := q) (long := true) (out := o) (by have h : s.data.toList.length = s.size := rfl; omega : s.data.toList.length ≤ j)))
      go_wp2_with fail
      refine (wrong_any _ _).mono ?_
      rintro e w3 ⟨rfl, hb3⟩
      have hF3 := hF.out.keep hb3 (Nat.le_refl _)
      obtain ⟨f0, f1, g0, g1, hlt3⟩ := hF3.cells
      go_wp2
      refine bodyPost_ret (v := .tuple #[.string ⟨#[]⟩, .int .i64 0, .agg #[.int .i64 3, .int .i64 (s.size : Int)]]) (by simp [results, Tryd.results12, go_sem, f0, f1]) rfl ?_
      rw [hres.out]
      exact ⟨rfl, ((hB.out.trans (hb3.mono hB.out.size)).setCell (p := ⟨w.heap.size, 0, none⟩) (Nat.le_refl _) _).setCell (p := ⟨w.heap.size, 1, none⟩) (Nat.le_refl _) _⟩

set_option maxRecDepth 100000 in
set_option maxHeartbeats 4000000 in
theorem read_longF (s : ByteArray) (i : Nat) (hin : i < s.size) (hs : s.size ≤ 1073740000) (q : Nat) (hq : s[i].toNat = q) (hq2 : q = 39) (hl : longT s.data.toList i = true) (b : Int) (hb0 : 0 ≤ b) (h3 : i + 3 < s.size ∧ feedT s.data.toList (i + 3) = (0, b)) (w : World) :
    Calls Tryd.prog 12 #[.string s, .int .i64 (i : Int)] w (RdPost ([], 0, 3, b) w) := by
  have hF0 := FB.new w 0 0
  have HF0 := Lib.hid hF0; clear hF0
  have hop := Lib.hid (open_long s i hin (by omega) q hq (.inr hq2) hl (fun k => k = w.heap.size) (w.alloc (.cells #[.int .i64 0, .int .i64 0] 33)) (fun k hk => by subst hk; simp))
  have HL := Lib.hid (fun w1 => long_is s i (by omega) (by omega) true hl w1)
  clear hl
  have hi1 : (i : Int) < s.size := by omega
  have b34 : ((s[i].toNat : Int) != 34) = true := by simp; omega
  have b39 : ((s[i].toNat : Int) != 39) = false := by simp; omega
  have be : ((i : Int) == (s.size : Int)) = false := by simp; omega
  have HQ2 := Lib.hid hq2; clear hq2 hq
  go_enter Tryd.func12, Tryd.ntmps12
  go_wp2_with fail
  refine hop.out.mono ?_
  rintro e w1 ⟨rfl, hR1, hb1⟩
  rw [size_new1] at hR1 hb1
  rw [size_new1, if_neg (by rw [HQ2.out]; decide)]
  have HR1 := Lib.hid hR1; clear hR1
  have HF1 := Lib.hid (HF0.out.keep hb1 (by simp))
  have HB1 := Lib.hid ((below_new1 w (.cells #[.int .i64 0, .int .i64 0] 33)).trans (hb1.mono (by omega))); clear hb1
  clear be b34 b39
  obtain ⟨h3a, h3b⟩ := h3
  have HFD := Lib.hid (fun w1 (h : RI w1 (w.heap.size + 1) s (i + 3) q [] (fun k => k = w.heap.size)) => (feed_is (w.heap.size + 1) s (i + 3) q [] _ w1 h h3a (by omega) 0 b h3b).mono fun e w2 hp => (by rw [if_neg (by omega), if_neg (by omega)] at hp; exact hp : e = .returned (.tuple #[.int .i64 0, .agg #[.int .i64 3, .int .i64 b]]) ∧ RI w2 (w.heap.size + 1) s (i + 3) q [] (fun k => k = w.heap.size) ∧ To (w.heap.size + 1) (fun k => k = w.heap.size) w1 w2))
  clear h3b
  obtain ⟨_, c1, _, _⟩ := HR1.out.cells0
  have h3I : ((i + 3 : Nat) : Int) < (s.size : Int) := by omega
  have h3I' : (i : Int) + 3 < (s.size : Int) := by omega
  go_wp2_with fail
  refine (HL.out _).mono ?_
  rintro e w2 ⟨rfl, rfl⟩
  go_wp2_with fail
  refine (HFD.out _ HR1.out).mono ?_
  rintro e w3 ⟨rfl, hR3, hT3⟩
  clear c1
  have hF3 := FB.prot (F := w.heap.size) HF1.out hT3.prot rfl
  have hB3 := HB1.out.trans (hT3.below.mono (by omega))
  have hFf := FB.new w3 3 b
  have hF4 := hF3.keep (below_new1 w3 (.cells #[.int .i64 3, .int .i64 b] 33)) (Nat.le_refl _)
  have hB4 := hB3.trans ((below_new1 w3 (.cells #[.int .i64 3, .int .i64 b] 33)).mono hB3.size)
  clear hR3 hT3 hF3 hB3 h3I h3I'
  go_wp2_with fail
  obtain ⟨w4, hw4⟩ : ∃ w4, w4 = w3.alloc (.cells #[.int .i64 3, .int .i64 b] 33) := ⟨_, rfl⟩
  rw [← hw4] at hF4 hFf hB4 ⊢
  clear hw4
  obtain ⟨f0, f1, g0, g1, hltF⟩ := hF4.cells
  obtain ⟨k0, k1, _, _, _⟩ := hFf.cells
  have HB4 := Lib.hid hB4; clear hB4 hF4 hFf
  go_region
  all_goals (
    go_wp2
    refine bodyPost_ret (v := .tuple #[.string ⟨#[]⟩, .int .i64 0, .agg #[.int .i64 3, .int .i64 b]]) (by simp [results, Tryd.results12, go_sem, f0, f1]) rfl ?_
    exact ⟨rfl, ((HB4.out.setCell (p := ⟨w.heap.size, 0, none⟩) (Nat.le_refl _) _).setCell (p := ⟨w.heap.size, 1, none⟩) (Nat.le_refl _) _).drew⟩)

set_option maxRecDepth 100000 in
set_option maxHeartbeats 4000000 in
theorem read_longE (s : ByteArray) (i : Nat) (hin : i < s.size) (hs : s.size ≤ 1073740000) (q : Nat) (hq : s[i].toNat = q) (hq2 : q = 39) (hl : longT s.data.toList i = true) (h3 : s.size ≤ i + 3) (w : World) :
    Calls Tryd.prog 12 #[.string s, .int .i64 (i : Int)] w (RdPost ([], 0, 3, (s.size : Int)) w) := by
  have hF0 := FB.new w 0 0
  have HF0 := Lib.hid hF0; clear hF0
  have hop := Lib.hid (open_long s i hin (by omega) q hq (.inr hq2) hl (fun k => k = w.heap.size) (w.alloc (.cells #[.int .i64 0, .int .i64 0] 33)) (fun k hk => by subst hk; simp))
  have HL := Lib.hid (fun w1 => long_is s i (by omega) (by omega) true hl w1)
  clear hl
  have hi1 : (i : Int) < s.size := by omega
  have b34 : ((s[i].toNat : Int) != 34) = true := by simp; omega
  have b39 : ((s[i].toNat : Int) != 39) = false := by simp; omega
  have be : ((i : Int) == (s.size : Int)) = false := by simp; omega
  have HQ2 := Lib.hid hq2; clear hq2 hq
  go_enter Tryd.func12, Tryd.ntmps12
  go_wp2_with fail
  refine hop.out.mono ?_
  rintro e w1 ⟨rfl, hR1, hb1⟩
  rw [size_new1] at hR1 hb1
  rw [size_new1, if_neg (by rw [HQ2.out]; decide)]
  have HR1 := Lib.hid hR1; clear hR1
  have HF1 := Lib.hid (HF0.out.keep hb1 (by simp))
  have HB1 := Lib.hid ((below_new1 w (.cells #[.int .i64 0, .int .i64 0] 33)).trans (hb1.mono (by omega))); clear hb1
  clear be b34 b39
  obtain ⟨_, c1, _, _⟩ := HR1.out.cells0
  have h3I : (s.size : Int) ≤ (i : Int) + 3 := by omega
  go_wp2_with fail
  refine (HL.out _).mono ?_
  rintro e w2 ⟨rfl, rfl⟩
  go_wp2_with fail
  refine wp_loop_rounds 1 ?_
  rw [rounds_succ]
  go_wp2_with fail
  refine (wrong_any _ _).mono ?_
  rintro e w3 ⟨rfl, hb3⟩
  have hF3 := HF1.out.keep hb3 (Nat.le_refl _)
  obtain ⟨f0, f1, g0, g1, hlt3⟩ := hF3.cells
  go_wp2
  refine bodyPost_ret (v := .tuple #[.string ⟨#[]⟩, .int .i64 0, .agg #[.int .i64 3, .int .i64 (s.size : Int)]]) (by simp [results, Tryd.results12, go_sem, f0, f1]) rfl ?_
  exact ⟨rfl, ((HB1.out.trans (hb3.mono HB1.out.size)).setCell (p := ⟨w.heap.size, 0, none⟩) (Nat.le_refl _) _).setCell (p := ⟨w.heap.size, 1, none⟩) (Nat.le_refl _) _⟩

theorem feed_ways (l : List UInt8) (i : Nat) : (∃ n, n ≤ 2 ∧ feedT l i = (n, -1)) ∨ ∃ b : Int, 0 ≤ b ∧ feedT l i = (0, b) := by
  unfold feedT
  split
  · exact .inl ⟨1, by omega, rfl⟩
  · split
    · split
      · exact .inl ⟨2, by omega, rfl⟩
      · exact .inr ⟨_, by omega, rfl⟩
    · exact .inl ⟨0, by omega, rfl⟩
/-- tquotes.Read at a single mark, whatever stands behind. -/
theorem read_single (s : ByteArray) (i : Nat) (hin : i < s.size) (hs : s.size ≤ 1073740000) (hq : s[i].toNat = 39) (w : World) :
    Calls Tryd.prog 12 #[.string s, .int .i64 (i : Int)] w (RdPost (readT s.data.toList (i : Int)) w) := by
  have hb : bt s.data.toList i = 39 := by rw [bt_str hin, hq]
  have hlen : s.data.toList.length = s.size := rfl
  have e : readT s.data.toList (i : Int) = readAt s.data.toList i := by rw [readT, if_neg (by rw [hlen]; omega), Int.toNat_natCast]
  rw [e, readAt, hb, if_neg (by omega)]
  cases hl : longT s.data.toList i
  · rw [if_neg (by simp)]
    exact read_literal s i hin hs 39 hq rfl hl w (literal_steps hs)
  · rw [if_pos rfl]
    rcases Nat.lt_or_ge (i + 3) s.size with h3 | h3
    · rcases feed_ways s.data.toList (i + 3) with ⟨n, hn, hf⟩ | ⟨b, hb0, hf⟩
      · rw [hf, if_neg (show ¬ (0 : Int) ≤ -1 by decide)]
        exact read_longL s i hin hs 39 hq rfl hl n hn ⟨h3, hf⟩ w (longLiteral_steps hs)
      · rw [hf, if_pos hb0]
        exact read_longF s i hin hs 39 hq rfl hl b hb0 ⟨h3, hf⟩ w
    · have hf : feedT s.data.toList (i + 3) = (0, -1) := by unfold feedT; rw [bt_str_ge h3]; rfl
      rw [hf, if_neg (show ¬ (0 : Int) ≤ -1 by decide), rdT_end (by rw [hlen]; exact h3)]
      exact read_longE s i hin hs 39 hq rfl hl h3 w

end Go.Proofs.YtflfedfghnnaeaaDoor
