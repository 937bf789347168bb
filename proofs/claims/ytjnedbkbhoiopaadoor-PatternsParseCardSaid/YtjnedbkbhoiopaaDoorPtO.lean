/- The walk over patterns' Match; no statement of the seat is proved here. -/
import Derived.Test.YtjnedbkbhoiopaaDoorPtN
import Derived.Test.YtjnedbkbhoiopaaDoorLat
namespace Go.Proofs.YtjnedbkbhoiopaaDoor
open Go.RowKit

theorem bool_info : (Tryd.prog.info? 4).map (fun i => (i.zero, i.size, i.bytes)) = some (some (.bool false), 1, 1) := by kernel_rfl
/-- A step of a path, as it lies. -/
structure PS4 where
  k : UInt8
  t : ByteArray
  d : ByteArray
  a : Int
def PS4.val (x : PS4) : Value := stepV x.k x.t x.d x.a
def PS4.step (x : PS4) : PStep := pstep x.k x.t x.d
/-- A path in memory. -/
def PM (w : World) (PA : Option Addr) (path : List PS4) : Prop := ∀ j (h : j < path.length), ∃ g off, PA = some ⟨g, off, none⟩ ∧ g < w.heap.size ∧
  w.cell? ⟨g, off + j * 4, none⟩ = some (.int .u8 (path[j].k.toNat : Int)) ∧ w.cell? ⟨g, off + j * 4 + 1, none⟩ = some (.string path[j].t) ∧ w.cell? ⟨g, off + j * 4 + 2, none⟩ = some (.string path[j].d) ∧ w.cell? ⟨g, off + j * 4 + 3, none⟩ = some (.int .i64 path[j].a)
theorem PM.keep {w w' : World} {PA : Option Addr} {path : List PS4} (h : PM w PA path) {B : Nat} (hb : Below B w w') (hB : w.heap.size ≤ B) : PM w' PA path := by
  intro j hj
  obtain ⟨g, off, e, hg, h1, h2, h3, h4⟩ := h j hj
  have c : ∀ k, w'.cell? ⟨g, k, none⟩ = w.cell? ⟨g, k, none⟩ := fun k => hb.cell (by show g < B; omega)
  exact ⟨g, off, e, by have := hb.size; omega, by rw [c]; exact h1, by rw [c]; exact h2, by rw [c]; exact h3, by rw [c]; exact h4⟩
theorem rowQ_get {q : List (Pat × Value)} {k : Nat} (h : k < q.length) (r : Nat) (hr : r < 3) : (rowQ q)[k * 3 + r]? = (cellsQ q[k])[r]? := by
  induction q generalizing k with
  | nil => simp at h
  | cons x q ih =>
    have e : rowQ (x :: q) = cellsQ x ++ rowQ q := rfl
    have e3 : (cellsQ x).length = 3 := rfl
    rw [e]
    cases k with
    | zero => rw [List.getElem?_append_left (by omega)]; simp
    | succ k =>
      rw [List.getElem?_append_right (by omega), e3, show (k + 1) * 3 + r - 3 = k * 3 + r by omega]
      exact ih (by simpa using h)
/-- A step of a pattern, as it lies in its row. -/
theorem PB.step {w : World} {base b : Nat} {A : Option Addr} {c : Nat} {q : List (Pat × Value)} (h : PB w base b A c q) {k : Nat} (hk : k < q.length) : ∃ g, A = some ⟨g, 0, none⟩ ∧ g < w.heap.size ∧
    w.cell? ⟨g, k * 3, none⟩ = some (.string ⟨q[k].1.text.toArray⟩) ∧ w.cell? ⟨g, k * 3 + 1, none⟩ = some q[k].2 ∧ w.cell? ⟨g, k * 3 + 2, none⟩ = some (.bool q[k].1.any) := by
  have hO := OwnS.of_own h.2.1
  have cell : ∀ r, r < 3 → ∃ g, A = some ⟨g, 0, none⟩ ∧ g < w.heap.size ∧ w.cell? ⟨g, k * 3 + r, none⟩ = (cellsQ q[k])[r]? := by
    intro r hr
    obtain ⟨g, e, _, hg, hc⟩ := hO.cell (j := k * 3 + r) (by omega)
    refine ⟨g, e, hg, ?_⟩
    rw [hc, ← rowQ_get hk r hr]; simp
  obtain ⟨g, e, hg, h0⟩ := cell 0 (by omega)
  obtain ⟨g1, e1, _, h1⟩ := cell 1 (by omega)
  obtain ⟨g2, e2, _, h2⟩ := cell 2 (by omega)
  rw [e] at e1 e2
  cases e1; cases e2
  exact ⟨g, e, hg, h0, h1, h2⟩

theorem later_cell {W : World} {a : Addr} {v : Value} (h : W.cell? a = some v) (m : Later W) : m.at_.cell? a = some v := cell_later m.below h
theorem brow_congr {n : Nat} {f g : Nat → Bool} (h : ∀ j, j < n → f j = g j) : brow n f = brow n g := by
  apply Array.ext_getElem?
  intro j
  rcases Nat.lt_or_ge j n with hj | hj
  · rw [brow_get hj, brow_get hj, h j hj]
  · rw [brow_out hj, brow_out hj]
theorem BR.fin {w : World} {N n i : Nat} {f : Nat → Bool} {y : Bool} (h : BR w N n fun j => if j = i then y else decide (j < i) && f j) (hy : y = f i) : BR w N n fun j => decide (j < i + 1) && f j := by
  have e : (fun j => if j = i then y else decide (j < i) && f j) = fun j => decide (j < i + 1) && f j := by
    funext j
    by_cases h1 : j = i
    · subst h1; rw [if_pos rfl, hy]; simp
    · rw [if_neg h1]
      have : decide (j < i) = decide (j < i + 1) := by rw [decide_eq_decide]; omega
      rw [this]
  rwa [e] at h
theorem BR.fin2 {w : World} {N n i : Nat} {f : Nat → Bool} {x y : Bool} (h : BR w N n fun j => if j = i then y else if j = i then x else decide (j < i) && f j) (hy : y = f i) : BR w N n fun j => decide (j < i + 1) && f j := by
  refine BR.fin (y := y) ?_ hy
  have e : (fun j => if j = i then y else if j = i then x else decide (j < i) && f j) = fun j => if j = i then y else decide (j < i) && f j := by
    funext j
    by_cases h1 : j = i
    · rw [if_pos h1, if_pos h1]
    · rw [if_neg h1, if_neg h1, if_neg h1]
  rwa [e] at h
theorem SB.other {w : World} {n N i : Nat} {x y z : Value} (h : SB w n x y z) (hn : n ≠ N) (v : Value) : SB (w.setCell ⟨N, i, none⟩ v) n x y z := (Below.heap_setCell w ⟨N, i, none⟩ v n hn).trans h

set_option maxRecDepth 100000 in
set_option maxHeartbeats 16000000 in
theorem match_is (base b : Nat) (A : Option Addr) (c : Nat) (q : List (Pat × Value)) (w : World) (hP : PB w base b A c q) (PA : Option Addr) (pc : Nat) (path : List PS4) (hM : PM w PA path) (hl : path.length ≤ 1000000) (hql : q.length ≤ 1000000) (n : Nat) (hn : n = path.length) :
    Calls Tryd.prog 10 #[.pointer (some ⟨b, 0, none⟩), .slice PA n pc] w fun e w' => e = .returned (.bool (matchL (q.map (·.1)) (path.map PS4.step))) ∧ Below w.heap.size w w' := by
  obtain ⟨c0, c1, _, hb⟩ := hP.cells
  have HP := Lib.hid hP; have HM := Lib.hid hM
  have ec : ((n + 1 : Nat) : Int) = (n : Int) + 1 := by omega
  have hmk := run_make_row' (P := Tryd.prog) 70 4 (.bool false) 1 Tryd.underlying70 bool_info rfl .i64 .i64 (n + 1) (by omega) (by omega)
  rw [ec, brow_made] at hmk
  have HN := Lib.hid hn
  have hb0 : (brow (n + 1) fun _ => false)[0]? = some (.bool false) := brow_get (by omega)
  have hn1 : n ≤ 1000000 := by omega
  clear hP hM ec hn hl
  go_enter Tryd.func10, Tryd.ntmps10
  go_wp2
  go_loopg [5, 30] q.length (fun g s5 s30 wr => ∃ k M : Nat, s30 = .int .i64 (k : Int) ∧ s5 = .slice (some ⟨M, 0, none⟩) (n + 1) (n + 1) ∧ k ≤ q.length ∧ w.heap.size ≤ M ∧ Hid (g = q.length - k) ∧
    Hid (BR wr M (n + 1) (mayL ((q.take k).map (·.1)) (path.map PS4.step))) ∧ Hid (Below w.heap.size w wr))
  case atStart => exact ⟨0, w.heap.size, rfl, rfl, by omega, by omega, by show _ = _; omega, by
    show BR _ _ _ _
    have e : (fun j => if j = 0 then true else false) = mayL ((q.take 0).map (·.1)) (path.map PS4.step) := by
      funext j
      show _ = decide (j = 0)
      by_cases hj : j = 0 <;> simp [hj]
    unfold BR
    rw [brow_set, ← e]
    exact heap_new1 w _, (below_new1 w _)⟩
  case round =>
    obtain ⟨k, M, rfl, rfl, hk, hMb, hg, HR, HB⟩ := hrel
    by_cases hlt : k < q.length
    · obtain ⟨g, rfl, hgl, e0, e1, e2⟩ := (HP.out.keep HB.out (Nat.le_refl _)).step hlt
      have ht := HP.out.2.2 q[k] (List.getElem_mem hlt)
      have htk : Hid (q.take (k + 1) = q.take k ++ [q[k]]) := List.take_succ_eq_append_getElem hlt
      obtain ⟨⟨p, f⟩, hqk⟩ : ∃ x, q[k] = x := ⟨_, rfl⟩
      rw [hqk] at e0 e1 e2 ht htk
      obtain ⟨F, cap, hf, hcf, hcall⟩ := ht
      dsimp only at hf e0 e1 e2 hcall
      subst hf
      obtain ⟨S, hS⟩ : ∃ S : ByteArray, (⟨p.text.toArray⟩ : ByteArray) = S := ⟨_, rfl⟩
      obtain ⟨an, han⟩ : ∃ an, p.any = an := ⟨_, rfl⟩
      rw [hS] at e0
      rw [han] at e2
      have HA := Lib.hid han; have HC := Lib.hid hcall; have HE := Lib.hid hcf
      obtain ⟨may, hmay⟩ : ∃ may, mayL ((q.take k).map (·.1)) (path.map PS4.step) = may := ⟨_, rfl⟩
      rw [hmay] at HR
      have HMay := Lib.hid hmay
      clear hqk hcf hcall hS han hmay
      go_wp2
      have hMl := blk_lt HR.out
      have hs2 := HB.out.size
      have hb1 : Below wr.heap.size wr ((wr.alloc (.cells #[.string S, .func (.func F) #[] cap, .bool an] 65)).alloc (.cells (brow (n + 1) fun _ => false) 4)) := below_new2 _ _ _
      have hn1' : SB ((wr.alloc (.cells #[.string S, .func (.func F) #[] cap, .bool an] 65)).alloc (.cells (brow (n + 1) fun _ => false) 4)) wr.heap.size (.string S) (.func (.func F) #[] cap) (.bool an) := (heap_new2 wr _ _).1
      have hn2' : BR ((wr.alloc (.cells #[.string S, .func (.func F) #[] cap, .bool an] 65)).alloc (.cells (brow (n + 1) fun _ => false) 4)) (wr.heap.size + 1) (n + 1) fun _ => false := (heap_new2 wr _ _).2
      obtain ⟨W1, hW1⟩ : ∃ W1, W1 = (wr.alloc (.cells #[.string S, .func (.func F) #[] cap, .bool an] 65)).alloc (.cells (brow (n + 1) fun _ => false) 4) := ⟨_, rfl⟩
      rw [← hW1] at hb1 hn1' hn2' ⊢
      have HB1 := Lib.hid hb1; have HN1 := Lib.hid hn1'; have HN2 := Lib.hid hn2'
      clear hW1 hb1 hn1' hn2' e0 e1 e2
      obtain ⟨R, hR⟩ : ∃ R, R = wr.heap.size := ⟨_, rfl⟩
      rw [← hR] at HB1 HN1 HN2 hMl hs2 ⊢
      obtain ⟨w0, hw0⟩ : ∃ w0, w0 = wr := ⟨wr, rfl⟩
      subst hw0
      have hRw := Lib.hid hR
      clear hR
      go_loopg [40] (n + 1) (fun g s40 wr => ∃ i : Nat, s40 = .int .i64 (i : Int) ∧ i ≤ n + 1 ∧ Hid (g = n + 1 - i) ∧ Hid (BR wr (R + 1) (n + 1) (fun j => decide (j < i) && nxt p may (path.map PS4.step) j)) ∧
        Hid (SB wr R (.string S) (.func (.func F) #[] cap) (.bool an)) ∧ Hid (Below R w0 wr))
      case atStart => exact ⟨0, rfl, by omega, rfl, by
        show BR _ _ _ _
        have e : (fun j => decide (j < 0) && nxt p may (path.map PS4.step) j) = fun _ => false := by funext j; simp
        rw [e]; exact HN2.out, HN1.out, HB1.out⟩
      case round =>
        obtain ⟨i, rfl, hi, hgi, HX, HSb, HBi⟩ := hrel
        obtain ⟨s0, s1, s2, z0, z1, z2, hRl⟩ := HSb.out.cells
        have hXl := blk_lt HX.out
        have HMi := Lib.hid (HR.out.keep HBi.out (by rw [hRw.out]; exact Nat.le_refl _))
        by_cases hin : i < n + 1
        · have cm := HMi.out.cell hin
          have cx := HX.out.cell hin
          have fx := blk_frozen HX.out i
          cases i with
          | zero =>
            have hz : decide ((0 : Int) < ((0 : Nat) : Int)) = false := rfl
            cases an
            all_goals (
              go_wp2
              go_big_quiet (fail)
              go_wp2
              go_roundg (n + 1 - 1)
              case measure => have := hgi.out; omega
              case rel =>
                refine ⟨1, rfl, by omega, rfl, ?_, HSb.out.other (by omega) _, below_drewN (HBi.out.setCell (by show R ≤ R + 1; omega) _) _⟩
                refine BR.fin (i := 0) (HX.out.set 0 _) ?_
                simp [nxt, HA.out])
          | succ i =>
            have hil : i < path.length := by have := HN.out; omega
            obtain ⟨g2, off, rfl, hg2, m0, m1, m2, m3⟩ := (HM.out.keep (HB.out.trans (HBi.out.mono (by rw [hRw.out]; exact HB.out.size))) (Nat.le_refl _)) i hil
            obtain ⟨st, hst⟩ : ∃ st, path[i] = st := ⟨_, rfl⟩
            rw [hst] at m0 m1 m2 m3
            have hps : (path.map PS4.step)[i]? = some st.step := by rw [List.getElem?_map, List.getElem?_eq_getElem hil, hst]; rfl
            obtain ⟨tk, htkv⟩ : ∃ tk, p.takes st.step = tk := ⟨_, rfl⟩
            have HTK := Lib.hid htkv; have HPS := Lib.hid hps
            have cm' := HMi.out.cell (show i < n + 1 by omega)
            have cx' := HX.out.cell (show i < n + 1 by omega)
            have hpl : (path.map PS4.step).length = n := by rw [List.length_map, HN.out]
            clear htkv hps
            obtain ⟨x1, hx1⟩ : ∃ x, may i = x := ⟨_, rfl⟩
            obtain ⟨x0, hx0⟩ : ∃ x, may (i + 1) = x := ⟨_, rfl⟩
            obtain ⟨x2, hx2⟩ : ∃ x, nxt p may (path.map PS4.step) i = x := ⟨_, rfl⟩
            have cx2 : wr.cell? ⟨R + 1, i, none⟩ = some (.bool x2) := by rw [cx', hx2]; simp
            rw [hx1] at cm'
            rw [hx0] at cm
            have HN3 : Hid (nxt p may (path.map PS4.step) (i + 1) = ((an && x0) || (tk && (x1 || (an && x2))))) := by
              show _ = _
              rw [nxt, HPS.out]
              dsimp only
              rw [HTK.out, HA.out, hx0, hx1, hx2]
            have H1 := Lib.hid hx1; have H2 := Lib.hid hx2
            clear hx0 hx1 hx2 cx' hpl
            cases an
            · go_wp2
              have hX2 := HX.out.set (i + 1) false
              have hS2 := HSb.out.other (N := R + 1) (i := i + 1) (by omega) (.bool false)
              have hM2 := HMi.out.other (N := R + 1) (i := i + 1) (by omega) (.bool false)
              obtain ⟨W2, hW2⟩ : ∃ W2, W2 = wr.setCell ⟨R + 1, i + 1, none⟩ (.bool false) := ⟨_, rfl⟩
              have hb2 : Below R w0 W2 := by rw [hW2]; exact HBi.out.setCell (by show R ≤ R + 1; omega) _
              rw [← hW2] at hX2 hS2 hM2 ⊢
              have hbw : Below w.heap.size w W2 := HB.out.trans (hb2.mono (by rw [hRw.out]; exact HB.out.size))
              have C1 : Hid (∀ m : Later W2, Calls Tryd.prog F (#[stepV st.k st.t st.d st.a] ++ cap) m.at_ fun e w'' => e = .returned (.bool tk) ∧ ∃ m' : Later W2, w'' = m'.at_) := fun m => by
                have := HC.out m.at_ ((Keeps.of_below hbw (Nat.le_refl _)).trans (Keeps.of_below m.below (Nat.le_refl _))) st.k st.t st.d st.a
                rw [show p.takes (pstep st.k st.t st.d) = tk from HTK.out] at this
                exact this.mono fun e w'' ⟨h1, h2⟩ => ⟨h1, ⟨w'', m.below.trans (h2.mono m.below.size)⟩, rfl⟩
              have HX2 := Lib.hid hX2; have HS2 := Lib.hid hS2; have HM2 := Lib.hid hM2; have HB2 := Lib.hid hb2
              have r1 := later_cell hS2.cells.2.1
              have hRl2 : R < W2.heap.size := blk_lt hS2
              obtain ⟨g3, off3, e3, hg3, q0, q1, q2, q3⟩ := (HM.out.keep hbw (Nat.le_refl _)) i hil
              cases e3
              rw [hst] at q0 q1 q2 q3
              have l0 := later_cell q0; have l1 := later_cell q1; have l2 := later_cell q2; have l3 := later_cell q3
              have hin' : (i : Int) < (n : Int) := by omega
              clear hX2 hS2 hM2 hb2 hbw cx cx2 fx cm cm' s0 s1 s2 z0 z1 z2 m0 m1 m2 m3 hW2 q0 q1 q2 q3
              have hE := HE.out
              refine wp_region_later W2 (by kernel_rfl) (by kernel_rfl) (Below.refl _ _) ?_
              repeat (go_big_quiet_step ((exact C1.out _)))
              refine wpQuiet_nil ?_
              intro w3 hw3
              obtain ⟨⟨w4, hb3⟩, e4⟩ := hw3
              have e5 : w3 = w4 := e4
              subst e5
              clear e4
              have HX3 := Lib.hid (HX2.out.keep hb3 (Nat.le_refl _)); have HS3 := Lib.hid (blk_later HS2.out hb3 (blk_lt HS2.out)); have HM3 := Lib.hid (HM2.out.keep hb3 (Nat.le_refl _)); have HB3 := Lib.hid (HB2.out.trans (hb3.mono (Nat.le_of_lt hRl2)))
              clear l0 l1 l2 l3 r1 C1 hb3 hE
              have y0 : w3.cell? ⟨R + 1, i + 1, none⟩ = some (.bool false) := (HX3.out.cell hin).trans (by rw [if_pos rfl])
              have y1 : w3.cell? ⟨R + 1, i, none⟩ = some (.bool x2) := (HX3.out.cell (show i < n + 1 by omega)).trans (by rw [if_neg (by omega), H2.out]; simp)
              have y2 : w3.cell? ⟨M, i, none⟩ = some (.bool x1) := (HM3.out.cell (show i < n + 1 by omega)).trans (by rw [H1.out])
              have y3 := blk_frozen HX3.out (i + 1)
              obtain ⟨s0, s1, s2, z0, z1, z2, hR3⟩ := SB.cells HS3.out
              have hN3 := blk_lt HX3.out
              cases tk
              · go_wp2
                go_roundg (n + 1 - (i + 1 + 1))
                case measure => have := hgi.out; omega
                case rel => exact ⟨i + 1 + 1, by go_num, by omega, rfl, HX3.out.fin (by rw [HN3.out]; simp), HS3.out, HB3.out⟩
              · cases x1
                all_goals (
                  go_wp2
                  go_roundg (n + 1 - (i + 1 + 1))
                  case measure => have := hgi.out; omega
                  case rel => exact ⟨i + 1 + 1, by go_num, by omega, rfl, (HX3.out.set (i + 1) _).fin2 (by rw [HN3.out]; simp), SB.other HS3.out (by omega) _, HB3.out.setCell (by show R ≤ R + 1; omega) _⟩)
            · go_wp2
              have hX2 := HX.out.set (i + 1) x0
              have hS2 := HSb.out.other (N := R + 1) (i := i + 1) (by omega) (.bool x0)
              have hM2 := HMi.out.other (N := R + 1) (i := i + 1) (by omega) (.bool x0)
              obtain ⟨W2, hW2⟩ : ∃ W2, W2 = wr.setCell ⟨R + 1, i + 1, none⟩ (.bool x0) := ⟨_, rfl⟩
              have hb2 : Below R w0 W2 := by rw [hW2]; exact HBi.out.setCell (by show R ≤ R + 1; omega) _
              rw [← hW2] at hX2 hS2 hM2 ⊢
              have hbw : Below w.heap.size w W2 := HB.out.trans (hb2.mono (by rw [hRw.out]; exact HB.out.size))
              have C1 : Hid (∀ m : Later W2, Calls Tryd.prog F (#[stepV st.k st.t st.d st.a] ++ cap) m.at_ fun e w'' => e = .returned (.bool tk) ∧ ∃ m' : Later W2, w'' = m'.at_) := fun m => by
                have := HC.out m.at_ ((Keeps.of_below hbw (Nat.le_refl _)).trans (Keeps.of_below m.below (Nat.le_refl _))) st.k st.t st.d st.a
                rw [show p.takes (pstep st.k st.t st.d) = tk from HTK.out] at this
                exact this.mono fun e w'' ⟨h1, h2⟩ => ⟨h1, ⟨w'', m.below.trans (h2.mono m.below.size)⟩, rfl⟩
              have HX2 := Lib.hid hX2; have HS2 := Lib.hid hS2; have HM2 := Lib.hid hM2; have HB2 := Lib.hid hb2
              have r1 := later_cell hS2.cells.2.1
              have hRl2 : R < W2.heap.size := blk_lt hS2
              obtain ⟨g3, off3, e3, hg3, q0, q1, q2, q3⟩ := (HM.out.keep hbw (Nat.le_refl _)) i hil
              cases e3
              rw [hst] at q0 q1 q2 q3
              have l0 := later_cell q0; have l1 := later_cell q1; have l2 := later_cell q2; have l3 := later_cell q3
              have hin' : (i : Int) < (n : Int) := by omega
              clear hX2 hS2 hM2 hb2 hbw cx cx2 fx cm cm' s0 s1 s2 z0 z1 z2 m0 m1 m2 m3 hW2 q0 q1 q2 q3
              have hE := HE.out
              refine wp_region_later W2 (by kernel_rfl) (by kernel_rfl) (Below.refl _ _) ?_
              repeat (go_big_quiet_step ((exact C1.out _)))
              refine wpQuiet_nil ?_
              intro w3 hw3
              obtain ⟨⟨w4, hb3⟩, e4⟩ := hw3
              have e5 : w3 = w4 := e4
              subst e5
              clear e4
              have HX3 := Lib.hid (HX2.out.keep hb3 (Nat.le_refl _)); have HS3 := Lib.hid (blk_later HS2.out hb3 (blk_lt HS2.out)); have HM3 := Lib.hid (HM2.out.keep hb3 (Nat.le_refl _)); have HB3 := Lib.hid (HB2.out.trans (hb3.mono (Nat.le_of_lt hRl2)))
              clear l0 l1 l2 l3 r1 C1 hb3 hE
              have y0 : w3.cell? ⟨R + 1, i + 1, none⟩ = some (.bool x0) := (HX3.out.cell hin).trans (by rw [if_pos rfl])
              have y1 : w3.cell? ⟨R + 1, i, none⟩ = some (.bool x2) := (HX3.out.cell (show i < n + 1 by omega)).trans (by rw [if_neg (by omega), H2.out]; simp)
              have y2 : w3.cell? ⟨M, i, none⟩ = some (.bool x1) := (HM3.out.cell (show i < n + 1 by omega)).trans (by rw [H1.out])
              have y3 := blk_frozen HX3.out (i + 1)
              obtain ⟨s0, s1, s2, z0, z1, z2, hR3⟩ := SB.cells HS3.out
              have hN3 := blk_lt HX3.out
              cases tk
              · go_wp2
                go_roundg (n + 1 - (i + 1 + 1))
                case measure => have := hgi.out; omega
                case rel => exact ⟨i + 1 + 1, by go_num, by omega, rfl, HX3.out.fin (by rw [HN3.out]; simp), HS3.out, HB3.out⟩
              · cases x1 <;> cases x0 <;> cases x2
                all_goals (
                  go_wp2
                  go_roundg (n + 1 - (i + 1 + 1))
                  case measure => have := hgi.out; omega
                  case rel => exact ⟨i + 1 + 1, by go_num, by omega, rfl, (HX3.out.set (i + 1) _).fin2 (by rw [HN3.out]; simp), SB.other HS3.out (by omega) _, HB3.out.setCell (by show R ≤ R + 1; omega) _⟩)
        · have hie : i = n + 1 := by omega
          have hnew : Hid (BR wr (R + 1) (n + 1) (mayL ((q.take (k + 1)).map (·.1)) (path.map PS4.step))) := by
            show BR _ _ _ _
            have e : ∀ j, j < n + 1 → (decide (j < i) && nxt p may (path.map PS4.step) j) = mayL ((q.take (k + 1)).map (·.1)) (path.map PS4.step) j := by
              intro j hj
              rw [htk.out, List.map_append]
              show _ = mayL (_ ++ [p]) _ j
              rw [mayL_snoc, HMay.out, decide_eq_true (by omega : j < i), Bool.true_and]
            have h := HX.out
            unfold BR at *
            rw [h]
            congr 2
            exact brow_congr e
          have HBn := Lib.hid (HB.out.trans (HBi.out.mono (by rw [hRw.out]; exact HB.out.size)))
          clear hie
          go_wp2
          go_roundg (q.length - (k + 1))
          case measure => have := hg.out; omega
          case rel => exact ⟨k + 1, R + 1, by go_num, rfl, by omega, by omega, rfl, hnew.out, HBn.out⟩
    · have hkq : k = q.length := by omega
      have cr := HR.out.cell (show n < n + 1 by omega)
      have hres : Hid (mayL ((q.take k).map (·.1)) (path.map PS4.step) n = matchL (q.map (·.1)) (path.map PS4.step)) := by
        show _ = _
        rw [hkq, List.take_length, matchL, List.length_map, ← HN.out]
      rw [hres.out] at cr
      clear hkq
      go_wp2
      go_ret
      exact ⟨rfl, HB.out⟩

end Go.Proofs.YtjnedbkbhoiopaaDoor
