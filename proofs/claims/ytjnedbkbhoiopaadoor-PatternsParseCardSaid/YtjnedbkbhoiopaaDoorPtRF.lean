/- The walk over the reference's Match; no statement of the seat is proved here. -/
import Derived.Test.YtjnedbkbhoiopaaDoorPtRE
namespace Go.Proofs.YtjnedbkbhoiopaaDoor
open Go.RowKit

/-- Places reached up to now by one that takes just one step. -/
def accN (may : Nat → Bool) (p : Pat) (path : List PStep) (i j : Nat) : Bool := decide (1 ≤ j) && decide (j ≤ i) && may (j - 1) && (match path[j - 1]? with | some s => p.takes s | none => false)
theorem accN_zero (may : Nat → Bool) (p : Pat) (path : List PStep) : accN may p path 0 = fun _ => false := by
  funext j
  unfold accN
  by_cases h : 1 ≤ j
  · rw [decide_eq_false (show ¬ j ≤ 0 by omega)]; simp
  · rw [decide_eq_false h]; rfl
theorem accN_end {p : Pat} (hp : p.any = false) (may : Nat → Bool) (path : List PStep) (j : Nat) (hj : j ≤ path.length) : accN may p path (path.length + 1) j = nxt p may path j := by
  rw [nxt_one hp]
  cases j with
  | zero => rfl
  | succ k =>
    unfold accN
    rw [decide_eq_true (show 1 ≤ k + 1 by omega), decide_eq_true (show k + 1 ≤ path.length + 1 by omega), Nat.add_sub_cancel]
    cases h : path[k]? with
    | none => simp [h]
    | some s => simp [h, Bool.and_comm]
theorem accN_step {may : Nat → Bool} {p : Pat} {path : List PStep} {i : Nat} {s : PStep} (h1 : may i = true) (h2 : path[i]? = some s) (h3 : p.takes s = true) : (fun j => if j = i + 1 then true else accN may p path i j) = accN may p path (i + 1) := by
  funext j
  by_cases hj : j = i + 1
  · subst hj; rw [if_pos rfl]; unfold accN; simp [h1, h2, h3]
  · rw [if_neg hj]; unfold accN
    rw [show decide (j ≤ i + 1) = decide (j ≤ i) by rw [decide_eq_decide]; omega]
theorem accN_skip {may : Nat → Bool} {p : Pat} {path : List PStep} {i : Nat} (h : may i = false ∨ ∀ s, path[i]? = some s → p.takes s = false) : accN may p path i = accN may p path (i + 1) := by
  funext j
  unfold accN
  by_cases hj : j = i + 1
  · subst hj
    rw [decide_eq_false (show ¬ i + 1 ≤ i by omega), Nat.add_sub_cancel]
    rcases h with h | h
    · rw [h]; simp
    · cases e : path[i]? with
      | none => simp
      | some s => simp [h s e]
  · rw [show decide (j ≤ i + 1) = decide (j ≤ i) by rw [decide_eq_decide]; omega]
def accS (may : Nat → Bool) : Nat → Nat → Bool
  | 0, _ => false
  | i + 1, j => accS may i j || (may i && decide (i ≤ j))
theorem accS_iff (may : Nat → Bool) (j : Nat) : ∀ i, accS may i j = true ↔ ∃ a, a < i ∧ a ≤ j ∧ may a = true
  | 0 => by simp [accS]
  | i + 1 => by
    rw [accS, Bool.or_eq_true, accS_iff may j i, Bool.and_eq_true, decide_eq_true_iff]
    constructor
    · rintro (⟨a, h1, h2, h3⟩ | ⟨h1, h2⟩)
      · exact ⟨a, by omega, h2, h3⟩
      · exact ⟨i, by omega, h2, h1⟩
    · rintro ⟨a, h1, h2, h3⟩
      by_cases ha : a = i
      · subst ha; exact .inr ⟨h3, h2⟩
      · exact .inl ⟨a, by omega, h2, h3⟩
theorem accS_end (may : Nat → Bool) (path : List PStep) (j : Nat) (hj : j ≤ path.length) : accS may (path.length + 1) j = nxt .stars may path j := by
  rw [Bool.eq_iff_iff, accS_iff, nxt_stars _ _ _ hj]
  constructor
  · rintro ⟨a, _, h2, h3⟩; exact ⟨a, h2, h3⟩
  · rintro ⟨a, h2, h3⟩; exact ⟨a, by omega, h2, h3⟩
theorem accS_skip {may : Nat → Bool} {i : Nat} (h : may i = false) : accS may i = accS may (i + 1) := by
  funext j; rw [accS, h]; simp
theorem kind_two {p : Pat} (h : p ≠ .stars) : (kindR p == 2) = false ∧ p.any = false := by
  cases p <;> first | exact ⟨rfl, rfl⟩ | exact absurd rfl h

set_option maxRecDepth 100000 in
set_option maxHeartbeats 16000000 in
theorem rmatch_is (A : Option Addr) (m c : Nat) (ps : List Pat) (hm : m = ps.length) (hm1 : m ≤ 1000000) (PA : Option Addr) (n pc : Nat) (path : List PS4) (hn : n = path.length) (hn1 : n ≤ 1000000) (w : World) (hM : RM w A ps) (hP : PM w PA path) :
    Calls Tryd.prog 19 #[.slice A m c, .slice PA n pc] w fun e w' => e = .returned (.bool (matchL ps (path.map PS4.step))) ∧ Below w.heap.size w w' := by
  have HM := Lib.hid hM; have HP := Lib.hid hP; have HN := Lib.hid hn; have HL := Lib.hid hm
  have ec : ((n + 1 : Nat) : Int) = (n : Int) + 1 := by omega
  have hpl : Hid ((path.map PS4.step).length = n) := by show _ = _; rw [List.length_map]; exact hn.symm
  have hmk := run_make_row' (P := Tryd.prog) 70 4 (.bool false) 1 Tryd.underlying70 bool_info rfl .i64 .i64 (n + 1) (by omega) (by omega)
  rw [ec, brow_made] at hmk
  have hb0 : (brow (n + 1) fun _ => false)[0]? = some (.bool false) := brow_get (by omega)
  clear hM hP hn hm ec
  go_enter Tryd.func19, Tryd.ntmps19
  go_wp2
  go_loopg [5, 6] m (fun g s5 s6 wr => ∃ k M : Nat, s6 = .int .i64 (k : Int) ∧ s5 = .slice (some ⟨M, 0, none⟩) (n + 1) (n + 1) ∧ k ≤ m ∧ w.heap.size ≤ M ∧ Hid (g = m - k) ∧
    Hid (BR wr M (n + 1) (mayL (ps.take k) (path.map PS4.step))) ∧ Hid (Below w.heap.size w wr))
  case atStart => exact ⟨0, w.heap.size, rfl, rfl, by omega, by omega, by show _ = _; omega, by
    show BR _ _ _ _
    have e : (fun j => if j = 0 then true else false) = mayL (ps.take 0) (path.map PS4.step) := by
      funext j
      show _ = decide (j = 0)
      by_cases hj : j = 0 <;> simp [hj]
    unfold BR
    rw [brow_set, ← e]
    exact heap_new1 w _, (below_new1 w _)⟩
  case round =>
    obtain ⟨k, M, rfl, rfl, hk, hMb, hg, HR, HB⟩ := hrel
    by_cases hlt : k < m
    · have hkl : k < ps.length := by have := HL.out; omega
      obtain ⟨g, rfl, hgl, hc⟩ := (HM.out.keep HB.out) k hkl
      obtain ⟨p, hp⟩ : ∃ p, ps[k] = p := ⟨_, rfl⟩
      have htk : Hid (ps.take (k + 1) = ps.take k ++ [p]) := by show _ = _; rw [List.take_succ_eq_append_getElem hkl, hp]
      rw [hp] at hc
      obtain ⟨may, hmay⟩ : ∃ may, mayL (ps.take k) (path.map PS4.step) = may := ⟨_, rfl⟩
      rw [hmay] at HR
      have HMay := Lib.hid hmay
      have e0 : wr.cell? ⟨g, k * 3, none⟩ = some (.int .i64 (kindR p)) := hc 0 (by omega)
      have e1 : wr.cell? ⟨g, k * 3 + 1, none⟩ = some (.string (baR (txtR p))) := hc 1 (by omega)
      have e2 : wr.cell? ⟨g, k * 3 + 2, none⟩ = some (.string (baR (idsR p))) := hc 2 (by omega)
      have E0 := Lib.hid e0; have E1 := Lib.hid e1; have E2 := Lib.hid e2
      clear hmay hc hp hkl e0 e1 e2
      go_wp2
      have hMl := blk_lt HR.out
      have hs2 := HB.out.size
      have hb1 : Below wr.heap.size wr (wr.alloc (.cells (brow (n + 1) fun _ => false) 4)) := below_new1 _ _
      have hn2 : BR (wr.alloc (.cells (brow (n + 1) fun _ => false) 4)) wr.heap.size (n + 1) fun _ => false := heap_new1 wr _
      obtain ⟨W1, hW1⟩ : ∃ W1, W1 = wr.alloc (.cells (brow (n + 1) fun _ => false) 4) := ⟨_, rfl⟩
      rw [← hW1] at hb1 hn2 ⊢
      have HB1 := Lib.hid hb1; have HN2 := Lib.hid hn2
      clear hW1 hb1 hn2
      obtain ⟨R, hR⟩ : ∃ R, R = wr.heap.size := ⟨_, rfl⟩
      rw [← hR] at HB1 HN2 hMl hs2 hgl ⊢
      obtain ⟨w0, hw0⟩ : ∃ w0, w0 = wr := ⟨wr, rfl⟩
      subst hw0
      have hRw := Lib.hid hR
      clear hR
      by_cases hst : p = .stars
      · subst hst
        go_loopg [8] (n + 1) (fun g s8 wr => ∃ i : Nat, s8 = .int .i64 (i : Int) ∧ i ≤ n + 1 ∧ Hid (g = n + 1 - i) ∧ Hid (BR wr R (n + 1) (accS may i)) ∧ Hid (Below R w0 wr))
        case atStart => exact ⟨0, rfl, by omega, rfl, HN2.out, HB1.out⟩
        case round =>
          obtain ⟨i, rfl, hi, hgi, HX, HBi⟩ := hrel
          have hXl := blk_lt HX.out
          have HMi := Lib.hid (HR.out.keep HBi.out (by rw [hRw.out]; exact Nat.le_refl _))
          by_cases hin : i < n + 1
          · have cm := HMi.out.cell hin
            obtain ⟨x1, hx1⟩ : ∃ x, may i = x := ⟨_, rfl⟩
            rw [hx1] at cm
            have k0 : wr.cell? ⟨g, k * 3, none⟩ = some (.int .i64 2) := (HBi.out.cell hgl).trans E0.out
            cases x1
            · have HSK := Lib.hid (accS_skip hx1)
              clear hx1
              go_wp2
              go_roundg (n + 1 - (i + 1))
              case measure => have := hgi.out; omega
              case rel => exact ⟨i + 1, by go_num, by omega, rfl, by show BR _ _ _ _; rw [← HSK.out]; exact HX.out, HBi.out⟩
            · have H1 := Lib.hid hx1
              clear hx1
              go_wp2
              obtain ⟨w3, hw3⟩ : ∃ w3, w3 = wr := ⟨wr, rfl⟩
              subst hw3
              go_loopg [9] (n + 1 - i) (fun g s9 wr => ∃ j : Nat, s9 = .int .i64 (j : Int) ∧ i ≤ j ∧ j ≤ n + 1 ∧ Hid (g = n + 1 - j) ∧ Hid (BR wr R (n + 1) (fun x => accS may i x || (decide (i ≤ x) && decide (x < j)))) ∧ Hid (Below R w0 wr))
              case atStart => exact ⟨i, rfl, by omega, by omega, by show _ = _; omega, by
                show BR _ _ _ _
                have e : (fun x => accS may i x || (decide (i ≤ x) && decide (x < i))) = accS may i := by
                  funext x
                  by_cases h : i ≤ x
                  · rw [decide_eq_false (show ¬ x < i by omega)]; simp
                  · rw [decide_eq_false h]; simp
                rw [e]; exact HX.out, HBi.out⟩
              case round =>
                obtain ⟨j, rfl, hij, hj, hgj, HY, HBj⟩ := hrel
                have hYl := blk_lt HY.out
                by_cases hjn : j < n + 1
                · have cy := HY.out.cell hjn
                  have fy := blk_frozen HY.out j
                  have HYs := Lib.hid (HY.out.set j true)
                  go_wp2
                  go_roundg (n + 1 - (j + 1))
                  case measure => have := hgj.out; omega
                  case rel =>
                    refine ⟨j + 1, by go_num, by omega, by omega, rfl, ?_, HBj.out.setCell (Nat.le_refl _) _⟩
                    show BR _ _ _ _
                    have e : (fun x => if x = j then true else (accS may i x || (decide (i ≤ x) && decide (x < j)))) = fun x => accS may i x || (decide (i ≤ x) && decide (x < j + 1)) := by
                      funext x
                      by_cases h : x = j
                      · subst h; rw [if_pos rfl, decide_eq_true hij, decide_eq_true (show x < x + 1 by omega)]; simp
                      · rw [if_neg h, show decide (x < j + 1) = decide (x < j) by rw [decide_eq_decide]; omega]
                    rw [← e]; exact HYs.out
                · obtain rfl : j = n + 1 := by omega
                  have HZ : Hid (BR wr R (n + 1) (accS may (i + 1))) := by
                    show BR _ _ _ _
                    have e : ∀ x, x < n + 1 → (accS may i x || (decide (i ≤ x) && decide (x < n + 1))) = accS may (i + 1) x := by
                      intro x hx
                      rw [accS, H1.out, decide_eq_true hx]; simp
                    have h := HY.out
                    unfold BR at *
                    rw [h]
                    congr 2
                    exact brow_congr e
                  go_wp2
                  go_roundg (n + 1 - (i + 1))
                  case measure => have := hgi.out; omega
                  case rel => exact ⟨i + 1, by go_num, by omega, rfl, HZ.out, HBj.out⟩
          · obtain rfl : i = n + 1 := by omega
            have hnew : Hid (BR wr R (n + 1) (mayL (ps.take (k + 1)) (path.map PS4.step))) := by
              show BR _ _ _ _
              have e : ∀ j, j < n + 1 → accS may (n + 1) j = mayL (ps.take (k + 1)) (path.map PS4.step) j := by
                intro j hj
                rw [htk.out, mayL_snoc, HMay.out, ← accS_end may (path.map PS4.step) j (by rw [hpl.out]; omega), hpl.out]
              have h := HX.out
              unfold BR at *
              rw [h]
              congr 2
              exact brow_congr e
            have HBn := Lib.hid (HB.out.trans (HBi.out.mono (by rw [hRw.out]; exact HB.out.size)))
            go_wp2
            go_roundg (m - (k + 1))
            case measure => have := hg.out; omega
            case rel => exact ⟨k + 1, R, by go_num, rfl, by omega, by omega, rfl, hnew.out, HBn.out⟩
      · obtain ⟨hk2, hany⟩ := kind_two hst
        have HANY := Lib.hid hany
        clear hst hany
        go_loopg [8] (n + 1) (fun g s8 wr => ∃ i : Nat, s8 = .int .i64 (i : Int) ∧ i ≤ n + 1 ∧ Hid (g = n + 1 - i) ∧ Hid (BR wr R (n + 1) (accN may p (path.map PS4.step) i)) ∧ Hid (Below R w0 wr))
        case atStart => exact ⟨0, rfl, by omega, rfl, by show BR _ _ _ _; rw [accN_zero]; exact HN2.out, HB1.out⟩
        case round =>
          obtain ⟨i, rfl, hi, hgi, HX, HBi⟩ := hrel
          have hXl := blk_lt HX.out
          have HMi := Lib.hid (HR.out.keep HBi.out (by rw [hRw.out]; exact Nat.le_refl _))
          by_cases hin : i < n + 1
          · have cm := HMi.out.cell hin
            obtain ⟨x1, hx1⟩ : ∃ x, may i = x := ⟨_, rfl⟩
            rw [hx1] at cm
            have k0 : wr.cell? ⟨g, k * 3, none⟩ = some (.int .i64 (kindR p)) := (HBi.out.cell hgl).trans E0.out
            cases x1
            · have HSK := Lib.hid (accN_skip (p := p) (path := path.map PS4.step) (Or.inl hx1))
              clear hx1
              go_wp2
              go_roundg (n + 1 - (i + 1))
              case measure => have := hgi.out; omega
              case rel => exact ⟨i + 1, by go_num, by omega, rfl, by show BR _ _ _ _; rw [← HSK.out]; exact HX.out, HBi.out⟩
            · have H1 := Lib.hid hx1
              clear hx1
              by_cases hil : i < n
              · have hip : i < path.length := by have := HN.out; omega
                have hbw : Below w.heap.size w wr := HB.out.trans (HBi.out.mono (by rw [hRw.out]; exact HB.out.size))
                obtain ⟨g2, off, rfl, hg2, m0, m1, m2, m3⟩ := (HP.out.keep hbw (Nat.le_refl _)) i hip
                obtain ⟨st, hst⟩ : ∃ st, path[i] = st := ⟨_, rfl⟩
                rw [hst] at m0 m1 m2 m3
                have hps : (path.map PS4.step)[i]? = some st.step := by rw [List.getElem?_map, List.getElem?_eq_getElem hip, hst]; rfl
                obtain ⟨tk, htkv⟩ : ∃ tk, p.takes st.step = tk := ⟨_, rfl⟩
                have HTK := Lib.hid htkv; have HPS := Lib.hid hps
                have C1 : Hid (∀ m : Later wr, Calls Tryd.prog 41 #[.agg #[.int .i64 (kindR p), .string (baR (txtR p)), .string (baR (idsR p))], .agg #[.int .u8 (st.k.toNat : Int), .string st.t, .string st.d, .int .i64 st.a]] m.at_ fun e w'' => e = .returned (.bool tk) ∧ ∃ m' : Later wr, w'' = m'.at_) := fun m => calls_later ((rtakes_is p st tk htkv m.at_).mono fun e w' h => ⟨h.1, onB m.below h.2⟩)
                have r0 := later_cell k0
                have r1 := later_cell (show wr.cell? ⟨g, k * 3 + 1, none⟩ = some (.string (baR (txtR p))) from (HBi.out.cell hgl).trans E1.out)
                have r2 := later_cell (show wr.cell? ⟨g, k * 3 + 2, none⟩ = some (.string (baR (idsR p))) from (HBi.out.cell hgl).trans E2.out)
                have l0 := later_cell m0; have l1 := later_cell m1; have l2 := later_cell m2; have l3 := later_cell m3
                have hii : (i : Int) < (n : Int) := by omega
                have hii0 : (0 : Int) ≤ (i : Int) := by omega
                have hkk : (k : Int) < (m : Int) := by omega
                have hkk0 : (0 : Int) ≤ (k : Int) := by omega
                clear htkv hps hst m0 m1 m2 m3 hbw hip
                go_wp2
                refine wp_region_later wr (by kernel_rfl) (by kernel_rfl) (Below.refl _ _) ?_
                repeat (go_big_quiet_step ((exact C1.out _)))
                refine wpQuiet_nil ?_
                intro w3 hw3
                obtain ⟨⟨w4, hb3⟩, e4⟩ := hw3
                have e5 : w3 = w4 := e4
                subst e5
                clear e4 l0 l1 l2 l3 r0 r1 r2 C1 cm k0
                have HX3 := Lib.hid (HX.out.keep hb3 (Nat.le_refl _))
                have HB3 := Lib.hid (HBi.out.trans (hb3.mono (Nat.le_of_lt hXl)))
                clear hb3
                have hX3l := blk_lt HX3.out
                have cx := HX3.out.cell (show i + 1 < n + 1 by omega)
                have fx := blk_frozen HX3.out (i + 1)
                cases tk
                · have HSK := Lib.hid (accN_skip (may := may) (p := p) (path := path.map PS4.step) (i := i) (Or.inr fun s hs => by rw [HPS.out] at hs; cases hs; exact HTK.out))
                  go_wp2
                  go_roundg (n + 1 - (i + 1))
                  case measure => have := hgi.out; omega
                  case rel => exact ⟨i + 1, by go_num, by omega, rfl, by show BR _ _ _ _; rw [← HSK.out]; exact HX3.out, HB3.out⟩
                · have HST := Lib.hid (accN_step H1.out HPS.out HTK.out)
                  have HXs := Lib.hid (HX3.out.set (i + 1) true)
                  go_wp2
                  go_roundg (n + 1 - (i + 1))
                  case measure => have := hgi.out; omega
                  case rel => exact ⟨i + 1, by go_num, by omega, rfl, by show BR _ _ _ _; rw [← HST.out]; exact HXs.out, HB3.out.setCell (Nat.le_refl _) _⟩
              · obtain rfl : i = n := by omega
                have HSK := Lib.hid (accN_skip (may := may) (p := p) (path := path.map PS4.step) (i := i) (Or.inr fun s hs => by
                  have := (List.getElem?_eq_some_iff.1 hs).1
                  rw [hpl.out] at this; omega))
                go_wp2
                refine wp_region_later wr (by kernel_rfl) (by kernel_rfl) (Below.refl _ _) ?_
                repeat (go_big_quiet_step (fail))
                refine wpQuiet_nil ?_
                intro w3 hw3
                obtain ⟨⟨w4, hb3⟩, e4⟩ := hw3
                have e5 : w3 = w4 := e4
                subst e5
                clear e4 cm k0
                have HX3 := Lib.hid (HX.out.keep hb3 (Nat.le_refl _))
                have HB3 := Lib.hid (HBi.out.trans (hb3.mono (Nat.le_of_lt hXl)))
                clear hb3
                go_wp2
                go_roundg (i + 1 - (i + 1))
                case measure => have := hgi.out; omega
                case rel => exact ⟨i + 1, by go_num, by omega, rfl, by show BR _ _ _ _; rw [← HSK.out]; exact HX3.out, HB3.out⟩
          · obtain rfl : i = n + 1 := by omega
            have hnew : Hid (BR wr R (n + 1) (mayL (ps.take (k + 1)) (path.map PS4.step))) := by
              show BR _ _ _ _
              have e : ∀ j, j < n + 1 → accN may p (path.map PS4.step) (n + 1) j = mayL (ps.take (k + 1)) (path.map PS4.step) j := by
                intro j hj
                rw [htk.out, mayL_snoc, HMay.out, ← accN_end HANY.out may (path.map PS4.step) j (by rw [hpl.out]; omega), hpl.out]
              have h := HX.out
              unfold BR at *
              rw [h]
              congr 2
              exact brow_congr e
            have HBn := Lib.hid (HB.out.trans (HBi.out.mono (by rw [hRw.out]; exact HB.out.size)))
            go_wp2
            go_roundg (m - (k + 1))
            case measure => have := hg.out; omega
            case rel => exact ⟨k + 1, R, by go_num, rfl, by omega, by omega, rfl, hnew.out, HBn.out⟩
    · have hkq : k = m := by omega
      have cr := HR.out.cell (show n < n + 1 by omega)
      have hres : Hid (mayL (ps.take k) (path.map PS4.step) n = matchL ps (path.map PS4.step)) := by
        show _ = _
        rw [hkq, List.take_of_length_le (Nat.le_of_eq HL.out.symm), matchL, hpl.out]
      rw [hres.out] at cr
      clear hkq
      go_wp2
      go_ret
      exact ⟨rfl, HB.out⟩

end Go.Proofs.YtjnedbkbhoiopaaDoor
