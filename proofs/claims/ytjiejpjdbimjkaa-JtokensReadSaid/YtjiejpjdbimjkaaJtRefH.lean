/- The law's helper Same: the tokens of both are the same; no statement of the seat is proved here. -/
import Derived.Test.YtjiejpjdbimjkaaJtRefG
import Derived.Test.YtjiejpjdbimjkaaJtCov
namespace Go.Proofs.Ytjiejpjdbimjkaa
open Go.RowKit

theorem rtokCells_at {ts : List TokF} {i : Nat} {t : TokF} (h : ts[i]? = some t) : (rtokCells ts)[i * 3]? = some (.int .i64 t.kind) ∧ (rtokCells ts)[i * 3 + 1]? = some (.int .i64 t.from_) ∧ (rtokCells ts)[i * 3 + 2]? = some (.int .i64 t.to_) := by
  obtain ⟨hi, he⟩ := List.getElem?_eq_some_iff.1 h
  have hs : ts = ts.take i ++ t :: ts.drop (i + 1) := by
    conv => lhs; rw [← List.take_append_drop i ts, List.drop_eq_getElem_cons hi, he]
  have hl : (rtokCells (ts.take i)).length = i * 3 := by rw [rtokCells_len]; simp; omega
  have hc : rtokCells ts = rtokCells (ts.take i) ++ ([.int .i64 t.kind, .int .i64 t.from_, .int .i64 t.to_] ++ rtokCells (ts.drop (i + 1))) := by
    conv => lhs; rw [hs]
    simp [rtokCells, TokF.rcells]
  refine ⟨?_, ?_, ?_⟩ <;> rw [hc, List.getElem?_append_right (by omega), hl] <;> simp
theorem rtok_cells {w : World} {base : Nat} {A : Option Addr} {ts : List TokF} {n : Nat} (hn : n = ts.length) (h : OwnS w base 40 3 A n (rtokCells ts)) {i : Nat} {t : TokF} (hi : ts[i]? = some t) :
    ∃ g, A = some ⟨g, 0, none⟩ ∧ base ≤ g ∧ g < w.heap.size ∧ w.cell? ⟨g, i * 3, none⟩ = some (.int .i64 t.kind) ∧ w.cell? ⟨g, i * 3 + 1, none⟩ = some (.int .i64 t.from_) ∧ w.cell? ⟨g, i * 3 + 2, none⟩ = some (.int .i64 t.to_) := by
  subst hn
  have hlt : i < ts.length := (List.getElem?_eq_some_iff.1 hi).1
  obtain ⟨c0, c1, c2⟩ := rtokCells_at hi
  obtain ⟨g, e, hb, hg, q0⟩ := h.cell (j := i * 3) (by omega)
  obtain ⟨_, e1, _, _, q1⟩ := h.cell (j := i * 3 + 1) (by omega); rw [e] at e1; cases e1
  obtain ⟨_, e2, _, _, q2⟩ := h.cell (j := i * 3 + 2) (by omega); rw [e] at e2; cases e2
  refine ⟨g, e, hb, hg, ?_, ?_, ?_⟩
  · rw [q0, ← c0, List.getElem?_eq_getElem]
  · rw [q1, ← c1, List.getElem?_eq_getElem]
  · rw [q2, ← c2, List.getElem?_eq_getElem]

set_option maxHeartbeats 1000000 in
theorem sames_any (A C : Option Addr) (ts : List TokF) (n c c' : Nat) (hn : ts.length = n) (hl : n ≤ 16777216) (hk : ∀ t ∈ ts, 0 ≤ t.kind ∧ t.kind ≤ 255) (w : World) {b1 b2 : Nat}
    (hA : OwnS w b1 36 3 A n (tokCells ts)) (hC : OwnS w b2 40 3 C n (rtokCells ts)) :
    Calls Try.prog 12 #[.slice A n c, .slice C n c'] w fun e w' => e = .returned (.bool true) ∧ Below w.heap.size w w' := by
  have HA := Lib.hid hA; clear hA
  have HC := Lib.hid hC; clear hC
  have HK := Lib.hid hk; clear hk
  go_enter Try.func12, Try.ntmps12
  go_wp2
  go_loopg [5] n (fun m s5 wr => ∃ k : Nat, s5 = .int .i64 k ∧ k ≤ n ∧ Hid (m = n - k) ∧ Below w.heap.size w wr)
  case atStart => exact ⟨0, rfl, by omega, rfl, Below.refl _ _⟩
  case round =>
    obtain ⟨k, rfl, hkn, hm, hbw⟩ := hrel
    by_cases hlt : k < n
    · have hk0 : k < ts.length := by omega
      obtain ⟨t, ht⟩ : ∃ t, ts[k]? = some t := ⟨_, List.getElem?_eq_getElem hk0⟩
      obtain ⟨g, rfl, _, hg1, c0, c1, c2⟩ := tok_cells hn.symm (HA.out.keep hbw (Nat.le_refl _)) ht
      obtain ⟨g', rfl, _, hg2, d0, d1, d2⟩ := rtok_cells hn.symm (HC.out.keep hbw (Nat.le_refl _)) ht
      have hkd := HK.out t (List.mem_of_getElem? ht)
      clear ht hk0
      obtain ⟨tk, tf, te, tc, ta⟩ := t
      dsimp only at c0 c1 c2 d0 d1 d2 hkd
      go_upto_region 6 with fail
      go_cut [26] from 17 to 26 (fun s w' => s = .bool false ∧ Below wr.heap.size wr w')
      case first =>
        go_region_with (go_at_call 13; refine (same_any tk tf te tk tf te hkd rfl rfl rfl _).mono ?_; rintro e w2 ⟨rfl, hb2⟩)
        all_goals (
          go_wp2_with fail
          go_meet
          exact ⟨rfl, by first | exact hb2 | exact (below_drewN (Below.refl _ _) _).trans hb2⟩)
      case rest =>
        obtain ⟨rfl, hb3⟩ := hcut
        clear c0 c1 c2 d0 d1 d2
        go_wp2
        go_roundg (n - (k + 1))
        case measure => have := hm.out; omega
        case rel => exact ⟨k + 1, by simp, by omega, rfl, hbw.trans (hb3.mono hbw.size)⟩
    · go_wp2
      go_ret
      exact ⟨rfl, hbw⟩

end Go.Proofs.Ytjiejpjdbimjkaa
