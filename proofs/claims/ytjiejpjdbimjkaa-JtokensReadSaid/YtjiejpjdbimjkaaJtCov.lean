/- The walk of the law JtokensCover; no statement of the seat is proved here. -/
import Derived.Test.YtjiejpjdbimjkaaJtL
import Derived.Test.YtjiejpjdbimjkaaRow
namespace Go.Proofs.Ytjiejpjdbimjkaa
open Go.RowKit

theorem tok_at {ts : List TokF} {i : Nat} {t : TokF} {rest : List TokF} (h : ts.drop i = t :: rest) : i < ts.length ∧ ts.drop (i + 1) = rest ∧ ts[i]? = some t := by
  have hi : i < ts.length := by
    rcases Nat.lt_or_ge i ts.length with h' | h'
    · exact h'
    · rw [List.drop_eq_nil_of_le h'] at h; cases h
  rw [List.drop_eq_getElem_cons hi] at h
  injection h with h1 h2
  exact ⟨hi, h2, by rw [List.getElem?_eq_getElem hi, h1]⟩
theorem tokCells_at {ts : List TokF} {i : Nat} {t : TokF} (h : ts[i]? = some t) : (tokCells ts)[i * 3]? = some (.int .u8 t.kind) ∧ (tokCells ts)[i * 3 + 1]? = some (.int .i64 t.from_) ∧ (tokCells ts)[i * 3 + 2]? = some (.int .i64 t.to_) := by
  obtain ⟨hi, he⟩ := List.getElem?_eq_some_iff.1 h
  have hs : ts = ts.take i ++ t :: ts.drop (i + 1) := by
    conv => lhs; rw [← List.take_append_drop i ts, List.drop_eq_getElem_cons hi, he]
  have hl : (tokCells (ts.take i)).length = i * 3 := by rw [tokCells_len]; simp; omega
  have hc : tokCells ts = tokCells (ts.take i) ++ ([.int .u8 t.kind, .int .i64 t.from_, .int .i64 t.to_] ++ tokCells (ts.drop (i + 1))) := by
    conv => lhs; rw [hs]
    simp [tokCells, TokF.cells]
  refine ⟨?_, ?_, ?_⟩ <;> rw [hc, List.getElem?_append_right (by omega), hl] <;> simp
/-- The cells of the token number i of a slice of tokens. -/
theorem tok_cells {w : World} {base : Nat} {A : Option Addr} {ts : List TokF} {n : Nat} (hn : n = ts.length) (h : OwnS w base 36 3 A n (tokCells ts)) {i : Nat} {t : TokF} (hi : ts[i]? = some t) :
    ∃ g, A = some ⟨g, 0, none⟩ ∧ base ≤ g ∧ g < w.heap.size ∧ w.cell? ⟨g, i * 3, none⟩ = some (.int .u8 t.kind) ∧ w.cell? ⟨g, i * 3 + 1, none⟩ = some (.int .i64 t.from_) ∧ w.cell? ⟨g, i * 3 + 2, none⟩ = some (.int .i64 t.to_) := by
  subst hn
  have hlt : i < ts.length := (List.getElem?_eq_some_iff.1 hi).1
  obtain ⟨c0, c1, c2⟩ := tokCells_at hi
  obtain ⟨g, e, hb, hg, q0⟩ := h.cell (j := i * 3) (by omega)
  obtain ⟨_, e1, _, _, q1⟩ := h.cell (j := i * 3 + 1) (by omega); rw [e] at e1; cases e1
  obtain ⟨_, e2, _, _, q2⟩ := h.cell (j := i * 3 + 2) (by omega); rw [e] at e2; cases e2
  refine ⟨g, e, hb, hg, ?_, ?_, ?_⟩
  · rw [q0, ← c0, List.getElem?_eq_getElem]
  · rw [q1, ← c1, List.getElem?_eq_getElem]
  · rw [q2, ← c2, List.getElem?_eq_getElem]

theorem cov_len {l : List UInt8} {k : Nat} {pk : Int} {ts : List TokF} {f : Int × Int} (h : Cov l k pk ts f) : ts.length + k ≤ l.length ∨ ts = [] := by
  induction ts generalizing k pk with
  | nil => exact .inr rfl
  | cons t ts ih =>
    obtain ⟨kd, e, _, _, _, he, hel, _, _, hr⟩ := h
    rcases ih hr with h1 | h1
    · left; simp; omega
    · left; subst h1; simp; omega

set_option maxRecDepth 100000 in
set_option maxHeartbeats 1000000 in
theorem cover_walk (A : Option Addr) (l : List UInt8) (c : Nat) (hlc : l.length ≤ c) (w : World) (hB : BS w w.heap.size A l) :
    Calls Try.prog 4 #[.slice A l.length c] w fun e w' => e = .returned (.bool true) ∧ Below w.heap.size w w' := by
  have HB := Lib.hid hB; clear hB
  by_cases hbig : 5000 < l.length
  · go_enter Try.func4, Try.ntmps4
    go_wp2_with (go_at_call 6; refine (lives_any _).mono ?_; rintro e w1 ⟨rfl, hb1⟩)
    go_ret
    exact ⟨rfl, hb1⟩
  · obtain ⟨R, hR⟩ : ∃ R, Hid (R = readM l 0) := ⟨_, rfl⟩
    obtain ⟨ts, co, at_⟩ := R
    have hcov := cov_all l 0 (by omega) (-1) (fun h => ⟨fun h => by omega, fun h => by omega⟩)
    rw [← hR.out] at hcov
    dsimp only at hcov
    have hts : ts.length ≤ 5000 := by
      rcases cov_len hcov with h | h
      · omega
      · rw [h]; simp
    have HC := Lib.hid hcov; clear hcov
    go_enter Try.func4, Try.ntmps4
    go_wp2_with (go_at_call 8; refine (read_any _ l c hlc (by omega) _ HB.out).mono ?_; rw [← hR.out]; rintro e w1 ⟨A1, rfl, hO1, hb1⟩; dsimp only at hO1 ⊢)
    have HO := Lib.hid hO1; clear hO1
    go_loopg [5, 6] ts.length (fun n s5 s6 wr => ∃ i k : Nat, ∃ pk : Int, s6 = .int .i64 i ∧ s5 = .int .i64 k ∧ i ≤ ts.length ∧ Hid (n = ts.length - i) ∧ Hid (Cov l k pk (ts.drop i) (co, at_)) ∧ Hid ((i = 0 → pk = -1) ∧ (∀ m, i = m + 1 → ∃ t, ts[m]? = some t ∧ t.kind = pk)) ∧ Hid (OwnS wr w.heap.size 36 3 A1 ts.length (tokCells ts)) ∧
      Hid (wr.heap[w1.heap.size]? = some (.cells #[.int .i64 co, .int .i64 at_] 28 (0, 0))) ∧ Below w.heap.size w wr)
    case atStart => exact ⟨0, 0, -1, rfl, rfl, by omega, rfl, HC, ⟨fun _ => rfl, fun m h => by omega⟩, HO.out.alloc _, heap_new1 _ _, hb1.alloc hb1.size _⟩
    case round =>
      clear HO hb1
      obtain ⟨i, k, pk, rfl, rfl, hi, hn, hcov, hpk, hO, hF, hbw⟩ := hrel
      by_cases hlt : i < ts.length
      · have hd : ts.drop i = ts[i] :: ts.drop (i + 1) := List.drop_eq_getElem_cons hlt
        have hcov := hcov.out
        rw [hd] at hcov
        obtain ⟨kd, e, ht, hk0, hk4, hke, hel, hne, hone, hrest⟩ := hcov
        have hti : ts[i]? = some ⟨kd, k, e, 0, 0⟩ := by rw [List.getElem?_eq_getElem hlt, ht]
        obtain ⟨g, rfl, hgb, hglt, c0, c1, c2⟩ := tok_cells rfl hO.out hti
        have HT := Lib.hid hti; clear hti
        have HONE := Lib.hid hone; clear hone
        have HREST := Lib.hid hrest; clear hrest
        have HNE := Lib.hid hne; clear hne
        clear ht hd
        have hb1 : decide (e ≤ k) = false := by simp; omega
        have hb2 : decide (l.length < e) = false := by simp; omega
        go_upto_region 9 with fail
        go_cut [71] from 29 to 71 (fun s w' => s = .bool false ∧ Hid (w'.heap[wr.heap.size]? = some (.cells #[.int .u8 kd, .int .i64 k, .int .i64 e] 36 (0, 0))) ∧ Below wr.heap.size wr w')
        case first =>
          have hnew : ∀ n, ((wr.alloc (.cells #[.int .u8 kd, .int .i64 k, .int .i64 e] 36)).drewN n).heap[wr.heap.size]? = some (.cells #[.int .u8 kd, .int .i64 k, .int .i64 e] 36 (0, 0)) := fun n => heap_new1 wr _
          have hbn : ∀ n, Below wr.heap.size wr ((wr.alloc (.cells #[.int .u8 kd, .int .i64 k, .int .i64 e] 36)).drewN n) := fun n => below_drewN (below_new1 wr _) n
          have HN := Lib.hid hnew; clear hnew
          have HBN := Lib.hid hbn; clear hbn
          by_cases h0 : i = 0
          · have hg : decide (0 < i) = false := by simp [h0]
            clear h0
            go_big_quiet (fail)
            go_wp2_with fail
            go_meet
            case rel => exact ⟨rfl, HN.out _, HBN.out _⟩
          · have hg : decide (0 < i) = true := by simp; omega
            have j0 : 0 < i := by omega
            clear h0
            have d0 : wr.cell? ⟨g, (i - 1) * 3, none⟩ = some (.int .u8 pk) := by
              obtain ⟨t, ht, htk⟩ := hpk.out.2 (i - 1) (by omega)
              obtain ⟨_, eg, _, _, d0, _, _⟩ := tok_cells rfl hO.out ht
              cases eg
              rw [htk] at d0
              exact d0
            by_cases hkk : kd = pk
            · have e1 : (kd == pk) = true := by simpa using hkk
              have e2 : (kd == 0) = false := by simpa using (HNE.out hkk).1
              have e3 : (kd == 2) = false := by simpa using (HNE.out hkk).2
              clear hkk
              go_big_quiet (fail)
              go_wp2_with fail
              go_meet
              case rel => exact ⟨rfl, HN.out _, HBN.out _⟩
            · have e1 : (kd == pk) = false := by simpa using hkk
              clear hkk
              go_big_quiet (fail)
              go_wp2_with fail
              go_meet
              case rel => exact ⟨rfl, HN.out _, HBN.out _⟩
        case rest =>
          obtain ⟨rfl, hT, hbt⟩ := hcut
          clear c0 c1 c2
          have hltF : w1.heap.size < wr.heap.size := blk_lt hF.out
          have hltT : wr.heap.size < wc.heap.size := blk_lt hT.out
          have q0 : wc.cell? ⟨wr.heap.size, 0, none⟩ = some (.int .u8 kd) := blk_cell hT.out 0
          have q1 : wc.cell? ⟨wr.heap.size, 1, none⟩ = some (.int .i64 k) := blk_cell hT.out 1
          have q2 : wc.cell? ⟨wr.heap.size, 2, none⟩ = some (.int .i64 e) := blk_cell hT.out 2
          have hsl := fun w => run_slice_cut (P := Try.prog) 22 5 Try.underlying22 (fun w => by kernel_rfl) A l.length c k e (by omega) (by omega) w
          have hcut := (HB.out.below (hbw.trans (hbt.mono hbw.size))).cut (cap := c) (Nat.le_of_lt hke) hel hlc
          have HCUT := Lib.hid hcut; clear hcut
          go_upto_region 12 with (go_at_call 8; refine (read_known (cutL l k e) _ _ _ 1 HONE.out rfl _ (e - k) (c - k) (cut_length hel) (by omega) (by omega) _ (HCUT.out.mono (B' := wc.heap.size) (by have := hbw.size; have := hbt.size; omega)) rfl).mono ?_; rintro x w2 ⟨A2, rfl, hO2, hb2⟩)
          have hek : (((e - k : Nat) : Int)) = (e : Int) - (k : Int) := by omega
          obtain ⟨g2, rfl, hg2b, hg2, d0, d1, d2⟩ := tok_cells (ts := [TokF.mk kd 0 ((e - k : Nat) : Int) 0 0]) rfl hO2 (i := 0) (t := TokF.mk kd 0 ((e - k : Nat) : Int) 0 0) rfl
          simp only [hek, Nat.zero_mul, Nat.zero_add] at d0 d1 d2
          replace q0 := cell_later hb2 q0
          replace q1 := cell_later hb2 q1
          replace q2 := cell_later hb2 q2
          have hltw2 : wr.heap.size < w2.heap.size := Nat.lt_of_lt_of_le hltT hb2.size
          have hbw2 : Below wr.heap.size wr w2 := hbt.trans (hb2.mono hbt.size)
          have hO3 := Lib.hid (hO.out.keep hbw2 (Nat.le_refl _))
          have hF3 := Lib.hid (blk_later hF.out hbw2 hltF)
          have hbw3 : Below w.heap.size w w2 := hbw.trans (hbw2.mono hbw.size)
          clear hO2 hb2 hbt hT hek hbw2
          go_cut [103] from 82 to 103 (fun s w' => s = .bool false ∧ Below w2.heap.size w2 w')
          case first =>
            have hbn : ∀ n, Below w2.heap.size w2 ((w2.alloc (.cells #[.int .i64 0, .int .i64 0] 28)).drewN n) := fun n => below_drewN (below_new1 w2 _) n
            have HBN := Lib.hid hbn; clear hbn
            go_big_quiet (fail)
            go_wp2_with fail
            go_meet
            case rel => exact ⟨rfl, HBN.out _⟩
          case rest =>
            obtain ⟨rfl, hb4⟩ := hcut
            replace q0 := cell_later hb4 q0
            replace q1 := cell_later hb4 q1
            replace q2 := cell_later hb4 q2
            go_wp2
            go_roundg (ts.length - (i + 1))
            case measure => have := hn.out; omega
            case rel => exact ⟨i + 1, e, kd, by go_num, rfl, by omega, rfl, HREST.out, ⟨fun h => by omega, fun m hm => ⟨TokF.mk kd k e 0 0, by rw [show m = i from by omega]; exact HT.out, rfl⟩⟩, hO3.out.keep hb4 (Nat.le_refl _), blk_later hF3.out hb4 (by omega), hbw3.trans (hb4.mono hbw3.size)⟩
      · have hend : ts.drop i = [] := List.drop_eq_nil_of_le (by omega)
        have hcov := hcov.out
        rw [hend] at hcov
        have hc0 := blk_cell hF.out 0
        have hc1 := blk_cell hF.out 1
        rcases hcov with ⟨hf, rfl⟩ | ⟨hf, e, he, hke, hel⟩
        · injection hf with h1 h2
          subst h1 h2
          clear hend
          go_wp2_with (go_at_call 6; refine (lives_any _).mono ?_; rintro x w2 ⟨rfl, hb2⟩)
          go_ret
          exact ⟨rfl, hbw.trans (hb2.mono hbw.size)⟩
        · dsimp only at hf he
          subst hf he
          clear hend
          have x1 : decide (k ≤ e) = true := by simp; omega
          have x2 : decide (e ≤ l.length) = true := by simp; omega
          go_wp2_with (go_at_call 6; refine (lives_any _).mono ?_; rintro x w2 ⟨rfl, hb2⟩)
          go_ret
          exact ⟨rfl, hbw.trans (hb2.mono hbw.size)⟩

end Go.Proofs.Ytjiejpjdbimjkaa
