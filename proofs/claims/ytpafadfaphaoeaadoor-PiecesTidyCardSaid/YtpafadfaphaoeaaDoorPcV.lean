/- The walk over pieces.Tidy; no statement of the seat is proved here. -/
import Derived.Test.YtpafadfaphaoeaaDoorPcU
import Derived.Test.YtpafadfaphaoeaaDoorAp1
namespace Go.Proofs.YtpafadfaphaoeaaDoor
open Go.RowKit

def cellsL (l : List Pc) : List Value := l.flatMap fun p => p.cells.toList
theorem cellsL_app (l m : List Pc) : cellsL (l ++ m) = cellsL l ++ cellsL m := by unfold cellsL; rw [List.flatMap_append]
theorem cellsL_len : ∀ l : List Pc, (cellsL l).length = l.length * 5
  | [] => rfl
  | p :: l => by
    have := cellsL_len l
    have e : cellsL (p :: l) = p.cells.toList ++ cellsL l := rfl
    rw [e, List.length_append, this, List.length_cons]
    show 5 + _ = _
    omega
theorem cellsL_get (l : List Pc) (j : Nat) (h : j < l.length) (r : Nat) (hr : r < 5) : (cellsL l)[j * 5 + r]? = l[j].cells[r]? := by
  have e : l = l.take j ++ l[j] :: l.drop (j + 1) := by rw [List.getElem_cons_drop, List.take_append_drop]
  have hl : (cellsL (l.take j)).length = j * 5 := by rw [cellsL_len, List.length_take, Nat.min_eq_left (by omega)]
  obtain ⟨p, hp⟩ : ∃ p, l[j] = p := ⟨_, rfl⟩
  rw [hp] at e ⊢
  rw [e, cellsL_app, List.getElem?_append_right (by omega), hl, show j * 5 + r - j * 5 = r by omega]
  show (p.cells.toList ++ cellsL _)[r]? = _
  rw [List.getElem?_append_left (by show r < 5; exact hr)]
  simp
theorem tidy_take (l : List Pc) (k : Nat) (h : k < l.length) : tidyR (l.take (k + 1)) = stepP (tidyR (l.take k)) l[k] := by
  unfold tidyR; rw [List.take_succ_eq_append_getElem h, List.foldl_append]; rfl
theorem sumP_with {q p b : Pc} (h : withP q p = some b) : b.txt.size ≤ q.txt.size + p.txt.size := by
  unfold withP at h
  split at h
  · cases h; show (q.txt ++ p.txt).size ≤ _; rw [size_app]; omega
  · split at h
    · cases h; show q.txt.size ≤ _; omega
    · cases h
theorem sumP_step (r : List Pc) (p : Pc) : sumP (stepP r p) ≤ sumP r + 2 + p.txt.size := by
  unfold stepP
  split
  · omega
  · split
    · simp [sumP]
    · split
      · rename_i b hb
        have := sumP_with hb
        simp only [sumP]; omega
      · simp only [sumP]; omega
theorem sumP_tidy (l : List Pc) : ∀ k, k ≤ l.length → sumP (tidyR (l.take k)) ≤ sumP (l.take k)
  | 0, _ => by simp [tidyR, sumP]
  | k + 1, h => by
    have h1 := sumP_tidy l k (by omega)
    have h2 := sumP_take l k (by omega)
    have h3 := sumP_step (tidyR (l.take k)) l[k]
    rw [tidy_take l k (by omega)]; omega

theorem set5 (X : List Value) (a0 a1 a2 a3 a4 v0 v1 v2 v3 v4 : Value) (n : Nat) (hn : n = X.length) : (((((X ++ [a0, a1, a2, a3, a4]).set n v0).set (n + 1) v1).set (n + 2) v2).set (n + 3) v3).set (n + 4) v4 = X ++ [v0, v1, v2, v3, v4] := by
  subst hn
  simp

theorem step_empty {r : List Pc} {p : Pc} (h : emptyP p = true) : stepP r p = r := by unfold stepP; rw [if_pos h]
theorem step_nil {p : Pc} (h : emptyP p = false) : stepP [] p = [p] := by unfold stepP; rw [if_neg (by rw [h]; simp)]
theorem step_with {q p b : Pc} {r : List Pc} (h : emptyP p = false) (hb : withP q p = some b) : stepP (q :: r) p = b :: r := by unfold stepP; rw [if_neg (by rw [h]; simp)]; simp only [hb]
theorem step_none {q p : Pc} {r : List Pc} (h : emptyP p = false) (hb : withP q p = none) : stepP (q :: r) p = p :: q :: r := by unfold stepP; rw [if_neg (by rw [h]; simp)]; simp only [hb]
theorem piece_info : (Tryd.prog.info? 36).map (fun i => (i.zero, i.size, i.bytes)) = some (some (.agg #[.int .u8 0, .int .u8 0, .int .i64 0, .int .i64 0, .string ⟨#[]⟩]), 5, 40) := by kernel_rfl
theorem cells_one {p : Pc} (u : Value) (hu : u ∈ p.cells.toList) : u.oneCell' = true := by
  simp [Pc.cells] at hu
  rcases hu with rfl | rfl | rfl | rfl | rfl <;> rfl

theorem heap_set {w : World} {b i : Nat} {cs : Array Value} {T : TypeId} {fr : Nat × Nat} (hb : w.heap[b]? = some (.cells cs T fr)) (v : Value) : (w.setCell ⟨b, i, none⟩ v).heap[b]? = some (.cells (cs.setIfInBounds i v) T fr) := by
  simp [World.setCell, Array.getElem?_modify, hb]
theorem own_set5 {W : World} {g m c base : Nat} {l : List Pc} {q b : Pc} (h : W.ownsRow base 36 5 (.slice (some ⟨g, 0, none⟩) (m + 1) c) (m + 1) (cellsL (l ++ [q]))) (hl : l.length = m) {v0 v1 v2 v3 v4 : Value} (hb : b.cells = #[v0, v1, v2, v3, v4]) :
    (((((W.setCell ⟨g, m * 5, none⟩ v0).setCell ⟨g, m * 5 + 1, none⟩ v1).setCell ⟨g, m * 5 + 2, none⟩ v2).setCell ⟨g, m * 5 + 3, none⟩ v3).setCell ⟨g, m * 5 + 4, none⟩ v4).ownsRow base 36 5 (.slice (some ⟨g, 0, none⟩) (m + 1) c) (m + 1) (cellsL (l ++ [b])) := by
  rcases h.2 with ⟨hv, _⟩ | ⟨g', cap, cur, hv, hg, hh, h1, h2, h3, h4⟩
  · cases hv
  · injection hv with hA _ hc
    cases hA
    subst hc
    refine ⟨?_, .inr ⟨g, c, _, rfl, hg, heap_set (heap_set (heap_set (heap_set (heap_set hh v0) v1) v2) v3) v4, h1, h2, by simpa using h3, ?_⟩⟩
    · rw [cellsL_len]; simp [hl]
    · simp only [Array.toList_setIfInBounds, List.take_set]
      rw [h4, cellsL_app, cellsL_app, show cellsL [q] = [.int .u8 (q.kind.toNat : Int), .int .u8 (q.side.toNat : Int), .int .i64 q.lo, .int .i64 q.hi, .string q.txt] from rfl, set5 _ _ _ _ _ _ _ _ _ _ _ _ (by rw [cellsL_len, hl])]
      have : cellsL [b] = b.cells.toList := by simp [cellsL]
      rw [this, hb]

/-- What Tidy has put together. -/
def TI (w W : World) (A : Option Addr) (m c : Nat) (r : List Pc) : Prop := W.ownsRow w.heap.size 36 5 (.slice A m c) m (cellsL r.reverse) ∧ m = r.length ∧ Below w.heap.size w W
theorem TI.later {w W W' : World} {A : Option Addr} {m c : Nat} {r : List Pc} (h : TI w W A m c r) (hb : Below W.heap.size W W') : TI w W' A m c r :=
  ⟨own_keep h.1 hb (Nat.le_refl _), h.2.1, Below.on h.2.2 hb⟩

theorem TI.other {w W : World} {g m c : Nat} {r : List Pc} (h : TI w W (some ⟨g, 0, none⟩) m c r) {p : Addr} (hp : w.heap.size ≤ p.block) (hne : p.block ≠ g) (v : Value) : TI w (W.setCell p v) (some ⟨g, 0, none⟩) m c r :=
  ⟨ownsRow_setCell_other h.1 (by simp only [Value.ownBlock, ne_eq, Option.some.injEq]; exact fun e => hne e.symm) v, h.2.1, h.2.2.setCell hp v⟩
theorem TI.set5 {w W : World} {g m c : Nat} {r : List Pc} {q b : Pc} (h : TI w W (some ⟨g, 0, none⟩) (m + 1) c (q :: r)) (hg : w.heap.size ≤ g) {v0 v1 v2 v3 v4 : Value} (hb : b.cells = #[v0, v1, v2, v3, v4]) :
    TI w (((((W.setCell ⟨g, m * 5, none⟩ v0).setCell ⟨g, m * 5 + 1, none⟩ v1).setCell ⟨g, m * 5 + 2, none⟩ v2).setCell ⟨g, m * 5 + 3, none⟩ v3).setCell ⟨g, m * 5 + 4, none⟩ v4) (some ⟨g, 0, none⟩) (m + 1) c (b :: r) := by
  have hm : m + 1 = r.length + 1 := h.2.1
  refine ⟨?_, hm, ((((h.2.2.setCell hg v0).setCell hg v1).setCell hg v2).setCell hg v3).setCell hg v4⟩
  have h1 := h.1
  rw [List.reverse_cons] at h1 ⊢
  exact own_set5 h1 (by simp; omega) hb

theorem TI.formA {w W : World} {g m c : Nat} {r : List Pc} {q b : Pc} (h : TI w W (some ⟨g, 0, none⟩) (m + 1) c (q :: r)) (hg : w.heap.size ≤ g) {v0 v1 v2 v3 v4 : Value} (hb : b.cells = #[v0, v1, v2, v3, v4]) {o : Obj} :
    TI w ((((((W.setCell ⟨g, m * 5, none⟩ v0).setCell ⟨g, m * 5 + 1, none⟩ v1).setCell ⟨g, m * 5 + 2, none⟩ v2).setCell ⟨g, m * 5 + 3, none⟩ v3).setCell ⟨g, m * 5 + 4, none⟩ v4).alloc o) (some ⟨g, 0, none⟩) (m + 1) c (b :: r) :=
  (h.set5 hg hb).later (below_new1 _ _)
theorem TI.formB {w W : World} {g x m c : Nat} {r : List Pc} {q b : Pc} (h : TI w W (some ⟨g, 0, none⟩) (m + 1) c (q :: r)) (hx : w.heap.size ≤ x) (hne : x ≠ g) (hg : w.heap.size ≤ g) {u0 u1 u2 u3 u4 v0 v1 v2 v3 v4 : Value} (hb : b.cells = #[v0, v1, v2, v3, v4]) :
    TI w ((((((((((W.setCell ⟨x, 0, none⟩ u0).setCell ⟨x, 1, none⟩ u1).setCell ⟨x, 2, none⟩ u2).setCell ⟨x, 3, none⟩ u3).setCell ⟨x, 4, none⟩ u4).setCell ⟨g, m * 5, none⟩ v0).setCell ⟨g, m * 5 + 1, none⟩ v1).setCell ⟨g, m * 5 + 2, none⟩ v2).setCell ⟨g, m * 5 + 3, none⟩ v3).setCell ⟨g, m * 5 + 4, none⟩ v4) (some ⟨g, 0, none⟩) (m + 1) c (b :: r) :=
  (((((h.other (p := ⟨x, 0, none⟩) hx hne u0).other (p := ⟨x, 1, none⟩) hx hne u1).other (p := ⟨x, 2, none⟩) hx hne u2).other (p := ⟨x, 3, none⟩) hx hne u3).other (p := ⟨x, 4, none⟩) hx hne u4).set5 hg hb
/-- The same with nothing stored in the row. -/
theorem TI.five {w W : World} {g x m c : Nat} {r : List Pc} (h : TI w W (some ⟨g, 0, none⟩) m c r) (hx : w.heap.size ≤ x) (hne : x ≠ g) {u0 u1 u2 u3 u4 : Value} :
    TI w (((((W.setCell ⟨x, 0, none⟩ u0).setCell ⟨x, 1, none⟩ u1).setCell ⟨x, 2, none⟩ u2).setCell ⟨x, 3, none⟩ u3).setCell ⟨x, 4, none⟩ u4) (some ⟨g, 0, none⟩) m c r :=
  ((((h.other (p := ⟨x, 0, none⟩) hx hne u0).other (p := ⟨x, 1, none⟩) hx hne u1).other (p := ⟨x, 2, none⟩) hx hne u2).other (p := ⟨x, 3, none⟩) hx hne u3).other (p := ⟨x, 4, none⟩) hx hne u4
theorem TI.push {w W W' : World} {A A' : Option Addr} {m c c' : Nat} {r : List Pc} {p : Pc} (h : TI w W A m c r) (hown : W'.ownsRow w.heap.size 36 5 (.slice A' (m + 1) c') (m + 1) (cellsL r.reverse ++ p.cells.toList)) (hb : Below w.heap.size W W') : TI w W' A' (m + 1) c' (p :: r) := by
  refine ⟨?_, by rw [h.2.1]; rfl, h.2.2.trans hb⟩
  rw [List.reverse_cons, cellsL_app]
  rw [show cellsL [p] = p.cells.toList by simp [cellsL]]
  exact hown
theorem TI.mem {w W : World} {A : Option Addr} {m c : Nat} {r : List Pc} (h : TI w W A m c r) : PcM W A r.reverse := by
  intro j hj
  have hj' : j < m := by rw [h.2.1]; simpa using hj
  obtain ⟨g, cur, hA, _, hh, h4⟩ := (OwnS.of_own h.1).at_ (by omega)
  refine ⟨g, 0, hA, blk_lt hh, fun x hx => ?_⟩
  rw [blk_cell hh, Nat.zero_add, ← cellsL_get _ j hj x hx, ← h4, List.getElem?_take, if_pos (by omega)]
  simp

theorem clipP_is (A : Option Addr) (n c : Nat) (hc : n ≤ c) (w : World) : Calls Tryd.prog 19 #[.slice A n c] w fun e w' => e = .returned (.slice A n n) ∧ w = w' := by
  go_enter Tryd.func19, Tryd.ntmps19
  go_wp2
  go_ret
  exact ⟨rfl, rfl⟩

set_option maxRecDepth 100000 in
set_option maxHeartbeats 8000000 in
theorem tidy_is (LA : Option Addr) (n cap : Nat) (l : List Pc) (hn : n = l.length) (hs : sumP l < 3000) (w : World) (hM : PcM w LA l) :
    Calls Tryd.prog 9 #[.slice LA n cap] w fun e w' => ∃ A m, e = .returned (.slice A m m) ∧ m = (tidyL l).length ∧ PcM w' A (tidyL l) ∧ Below w.heap.size w w' := by
  have HM := Lib.hid hM; have HN := Lib.hid hn; have HS := Lib.hid hs
  have hn1 : n ≤ 3000 := by have := sumP_len l; omega
  have hT0 : TI w w none 0 0 [] := ⟨World.ownsRow_nil _ _ _ _, rfl, Below.refl _ _⟩
  have HT0 := Lib.hid hT0
  obtain ⟨i0, hi0, hz0, hz1, hz2⟩ := info_parts piece_info
  have Hi := Lib.hid hi0; have Hz0 := Lib.hid hz0; have Hz1 := Lib.hid hz1; have Hz2 := Lib.hid hz2
  clear hM hn hs hT0 hi0 hz0 hz1 hz2
  go_enter Tryd.func9, Tryd.ntmps9
  go_wp2
  go_loopg [2, 10] n (fun q s2 s10 wr => ∃ (k m : Nat) (A : Option Addr) (c : Nat), s10 = .int .i64 (k : Int) ∧ s2 = .slice A m c ∧ k ≤ n ∧ m ≤ 3000 ∧ Hid (q = n - k) ∧ Hid (TI w wr A m c (tidyR (l.take k))))
  case atStart => exact ⟨0, 0, none, 0, rfl, rfl, by omega, by omega, by show _ = _; omega, HT0.out⟩
  case round =>
    obtain ⟨k, m, A, c, rfl, rfl, hk, hm, hq, HT⟩ := hrel
    by_cases hlt : k < n
    · have hkl : k < l.length := by have := HN.out; omega
      obtain ⟨g, off, rfl, hg, hc⟩ := (HM.out.keep HT.out.2.2 (Nat.le_refl _)) k hkl
      have htk := tidy_take l k hkl
      have hsz : l[k].txt.size ≤ 3000 := by have := sumP_mem l l[k] (List.getElem_mem hkl); have := HS.out; omega
      obtain ⟨⟨kd, sd, lo, hi, tx⟩, hp⟩ : ∃ p, l[k] = p := ⟨_, rfl⟩
      rw [hp] at hc htk hsz
      have p0 : wr.cell? ⟨g, off + k * 5, none⟩ = some (.int .u8 (kd.toNat : Int)) := hc 0 (by omega)
      have p1 : wr.cell? ⟨g, off + k * 5 + 1, none⟩ = some (.int .u8 (sd.toNat : Int)) := hc 1 (by omega)
      have p2 : wr.cell? ⟨g, off + k * 5 + 2, none⟩ = some (.int .i64 lo) := hc 2 (by omega)
      have p3 : wr.cell? ⟨g, off + k * 5 + 3, none⟩ = some (.int .i64 hi) := hc 3 (by omega)
      have p4 : wr.cell? ⟨g, off + k * 5 + 4, none⟩ = some (.string tx) := hc 4 (by omega)
      have hpb := heap_new1 wr (.cells #[.int .u8 (kd.toNat : Int), .int .u8 (sd.toNat : Int), .int .i64 lo, .int .i64 hi, .string tx] 36)
      have HPB := Lib.hid hpb
      have em := fun w => empty_at kd sd lo hi tx w
      obtain ⟨z, hz⟩ : ∃ z, emptyP ⟨kd, sd, lo, hi, tx⟩ = z := ⟨_, rfl⟩
      rw [hz] at em
      have EM := Lib.hid em; have HZ := Lib.hid hz; have HTK := Lib.hid htk
      clear em hz hpb hc hp htk
      cases z
      · have hz : emptyP ⟨kd, sd, lo, hi, tx⟩ = false := HZ.out
        obtain ⟨r, hr⟩ : ∃ r, tidyR (l.take k) = r := ⟨_, rfl⟩
        have ht := HT.out
        rw [hr] at ht
        rw [hr] at HTK
        have HTR := Lib.hid ht
        have hsr : sumP r < 3000 := by have a := sumP_tidy l k (by omega); have b := sumP_le l k; have c := HS.out; rw [hr] at a; omega
        clear ht hr HT
        cases r with
        | nil =>
          obtain rfl : m = 0 := HTR.out.2.1
          have hst := step_nil hz
          have HST := Lib.hid hst
          clear hst hz
          go_wp2_with (first
            | (go_at_call 17; (with_reducible refine (EM.out _).mono ?_); rintro e w1 ⟨rfl, hb1⟩; have HP1 := Lib.hid (blk_later HPB.out hb1 (by rw [size_new1]; omega)); have k0 := blk_cell HP1.out 0; have k1 := blk_cell HP1.out 1; have k2 := blk_cell HP1.out 2; have k3 := blk_cell HP1.out 3; have k4 := blk_cell HP1.out 4; have HT1 := Lib.hid (HTR.out.later ((below_new1 wr _).trans (hb1.mono (by rw [size_new1]; omega)))); clear hb1)
            | (at_builtin; refine wpList_app1 _ rfl _ _ 22 rfl w.heap.size 36 i0 _ 5 40 Tryd.underlying22 Hi.out Hz0.out Hz1.out Hz2.out rfl (by decide) A 0 c (cellsL []) rfl HT1.out.1 (Pc.cells ⟨kd, sd, lo, hi, tx⟩).toList _ rfl rfl cells_one (by omega) (by decide) HT1.out.2.2.size ?_; intro A' c' w5 hown5 hc5 hb5))
          have HT5 := Lib.hid (show TI w w5 A' 1 c' [⟨kd, sd, lo, hi, tx⟩] from ⟨hown5, rfl, HT1.out.2.2.trans hb5⟩)
          clear hown5 hc5 hb5
          go_wp2
          go_roundg (n - (k + 1))
          case measure => have := hq.out; omega
          case rel => exact ⟨k + 1, 1, A', c', by go_num, rfl, by omega, by omega, rfl, by show TI _ _ _ _ _ _; rw [HTK.out, HST.out]; exact HT5.out⟩
        | cons q r' =>
          obtain rfl : m = r'.length + 1 := HTR.out.2.1
          obtain ⟨m1, hm1⟩ : ∃ m1, r'.length = m1 := ⟨_, rfl⟩
          have hqs : q.txt.size ≤ 3000 := by simp only [sumP] at hsr; omega
          have hts : tx.size ≤ 1000000 := by have : tx.size ≤ 3000 := hsz; omega
          have wc := fun W => with_at q ⟨kd, sd, lo, hi, tx⟩ (by omega) hts W
          rw [hm1] at HTR hm ⊢
          have cg : ∀ (W : World) (c' : Nat), W.ownsRow w.heap.size 36 5 (.slice A (m1 + 1) c') (m1 + 1) (cellsL (q :: r').reverse) → ∃ g' cur, A = some ⟨g', 0, none⟩ ∧ w.heap.size ≤ g' ∧ W.heap[g']? = some (.cells cur 36 (0, 0)) ∧ ∀ j, j < 5 → cur[m1 * 5 + j]? = q.cells[j]? := by
            intro W c' h
            obtain ⟨g', cur, hA, hg', hh, h4⟩ := (OwnS.of_own h).at_ (by omega)
            refine ⟨g', cur, hA, hg', hh, fun j hj => ?_⟩
            have := cellsL_get (q :: r').reverse m1 (by simp; omega) j hj
            rw [← h4, List.getElem?_take, if_pos (by omega)] at this
            rw [← Array.getElem?_toList, this]
            simp [hm1]
          have CG := Lib.hid cg
          clear cg
          obtain ⟨⟨kq, sq, lq, uq, xq⟩, hqq⟩ : ∃ p, p = q := ⟨_, rfl⟩
          unfold WithRes at wc
          rcases hwq : withP q ⟨kd, sd, lo, hi, tx⟩ with _ | b
          · rw [hwq] at wc
            have hst := step_none hz hwq (r := r')
            have HST := Lib.hid hst
            subst hqq
            unfold Pc.cells at wc
            have WC := Lib.hid wc
            clear hst hz wc hwq
            go_wp2_with (go_at_call 17; (with_reducible refine (EM.out _).mono ?_); rintro e w1 ⟨rfl, hb1⟩; have HP1 := Lib.hid (blk_later HPB.out hb1 (by rw [size_new1]; omega)); have k0 := blk_cell HP1.out 0; have k1 := blk_cell HP1.out 1; have k2 := blk_cell HP1.out 2; have k3 := blk_cell HP1.out 3; have k4 := blk_cell HP1.out 4; have HT1 := Lib.hid (HTR.out.later ((below_new1 wr _).trans (hb1.mono (by rw [size_new1]; omega)))); clear hb1)
            obtain ⟨g', cur, rfl, hg', hh, hcur⟩ := CG.out _ _ HT1.out.1
            have hglt := blk_lt hh
            have hplt := blk_lt HP1.out
            have q0 : w1.cell? ⟨g', m1 * 5, none⟩ = some (.int .u8 (kq.toNat : Int)) := (blk_cell hh _).trans (hcur 0 (by omega))
            have q1 : w1.cell? ⟨g', m1 * 5 + 1, none⟩ = some (.int .u8 (sq.toNat : Int)) := (blk_cell hh _).trans (hcur 1 (by omega))
            have q2 : w1.cell? ⟨g', m1 * 5 + 2, none⟩ = some (.int .i64 lq) := (blk_cell hh _).trans (hcur 2 (by omega))
            have q3 : w1.cell? ⟨g', m1 * 5 + 3, none⟩ = some (.int .i64 uq) := (blk_cell hh _).trans (hcur 3 (by omega))
            have q4 : w1.cell? ⟨g', m1 * 5 + 4, none⟩ = some (.string xq) := (blk_cell hh _).trans (hcur 4 (by omega))
            clear hcur
            have HH := Lib.hid hh
            have hw1 : IntKind.i64.wrap (m1 : Int) = (m1 : Int) := IntWalk.i64_in _ (by omega)
            have hw2 : (m1 : Int) < (m1 : Int) + 1 := by omega
            clear hh
            go_region_law (go_loud (go_simp; refine (WC.out _).mono ?_; rintro e w2 ⟨rfl, hb2⟩; (first | (have hbw : Below w1.heap.size w1 w2 := (Below.refl _ w1).drew.trans hb2) | (have hbw : Below w1.heap.size w1 w2 := (Below.refl _ w1).drew.trans ((below_new1 w1.drew (.cells #[.int .u8 0, .int .u8 0, .int .i64 0, .int .i64 0, .string ⟨#[]⟩] 36)).trans (hb2.mono (below_new1 w1.drew (.cells #[.int .u8 0, .int .u8 0, .int .i64 0, .int .i64 0, .string ⟨#[]⟩] 36)).size)); have hz2 := blk_later (heap_new1 w1.drew (.cells #[.int .u8 0, .int .u8 0, .int .i64 0, .int .i64 0, .string ⟨#[]⟩] 36)) hb2 (by simp); have z0 : w2.cell? ⟨w1.heap.size, 0, none⟩ = some (.int .u8 0) := blk_cell hz2 0; have z1 : w2.cell? ⟨w1.heap.size, 1, none⟩ = some (.int .u8 0) := blk_cell hz2 1; have z2 : w2.cell? ⟨w1.heap.size, 2, none⟩ = some (.int .i64 0) := blk_cell hz2 2; have z3 : w2.cell? ⟨w1.heap.size, 3, none⟩ = some (.int .i64 0) := blk_cell hz2 3; have z4 : w2.cell? ⟨w1.heap.size, 4, none⟩ = some (.string ⟨#[]⟩) := blk_cell hz2 4; have y0 : w2.frozen? ⟨w1.heap.size, 0, none⟩ = false := blk_frozen hz2 0; have y1 : w2.frozen? ⟨w1.heap.size, 1, none⟩ = false := blk_frozen hz2 1; have y2 : w2.frozen? ⟨w1.heap.size, 2, none⟩ = false := blk_frozen hz2 2; have y3 : w2.frozen? ⟨w1.heap.size, 3, none⟩ = false := blk_frozen hz2 3; have y4 : w2.frozen? ⟨w1.heap.size, 4, none⟩ = false := blk_frozen hz2 4)); have e0 : w2.cell? ⟨wr.heap.size, 0, none⟩ = some (.int .u8 (kd.toNat : Int)) := cell_later hbw k0; have e1 : w2.cell? ⟨wr.heap.size, 1, none⟩ = some (.int .u8 (sd.toNat : Int)) := cell_later hbw k1; have e2 : w2.cell? ⟨wr.heap.size, 2, none⟩ = some (.int .i64 lo) := cell_later hbw k2; have e3 : w2.cell? ⟨wr.heap.size, 3, none⟩ = some (.int .i64 hi) := cell_later hbw k3; have e4 : w2.cell? ⟨wr.heap.size, 4, none⟩ = some (.string tx) := cell_later hbw k4; have hh2 := blk_later HH.out hbw hglt; have HT2 := Lib.hid (HT1.out.later hbw); have hg2 := blk_lt hh2; have hp2 : wr.heap.size < w2.heap.size := Nat.lt_of_lt_of_le hplt hbw.size; clear hh2 hbw hb2))
            all_goals (
              have hgb := hg'
              have hgne : w1.heap.size ≠ g' := by omega
              have hwb := HT1.out.2.2.size
              have HTA := Lib.hid (fun o => HT2.out.later (below_new1 w2 o))
              have HTB := Lib.hid (fun u0 u1 u2 u3 u4 => HT2.out.five (u0 := u0) (u1 := u1) (u2 := u2) (u3 := u3) (u4 := u4) hwb hgne)
              have hszB : ∀ u0 u1 u2 u3 u4 : Value, (((((w2.setCell ⟨w1.heap.size, 0, none⟩ u0).setCell ⟨w1.heap.size, 1, none⟩ u1).setCell ⟨w1.heap.size, 2, none⟩ u2).setCell ⟨w1.heap.size, 3, none⟩ u3).setCell ⟨w1.heap.size, 4, none⟩ u4).heap.size = w2.heap.size := by intros; simp
              go_wp2_with (first
                | (have _z := z0; at_builtin; refine wpList_app1 _ rfl _ _ 22 rfl w.heap.size 36 i0 _ 5 40 Tryd.underlying22 Hi.out Hz0.out Hz1.out Hz2.out rfl (by decide) (some ⟨g', 0, none⟩) (m1 + 1) c (cellsL (List.reverse (⟨kq, sq, lq, uq, xq⟩ :: r'))) rfl (HTB.out _ _ _ _ _).1 (Pc.cells ⟨kd, sd, lo, hi, tx⟩).toList _ (by rw [hszB]; rfl) rfl cells_one (by omega) (by decide) (HTB.out _ _ _ _ _).2.2.size ?_; intro A' c' w5 hown5 hc5 hb5; have HT5 := Lib.hid ((HTB.out _ _ _ _ _).push (p := ⟨kd, sd, lo, hi, tx⟩) hown5 hb5); clear hown5 hc5 hb5)
                | (at_builtin; refine wpList_app1 _ rfl _ _ 22 rfl w.heap.size 36 i0 _ 5 40 Tryd.underlying22 Hi.out Hz0.out Hz1.out Hz2.out rfl (by decide) (some ⟨g', 0, none⟩) (m1 + 1) c (cellsL (List.reverse (⟨kq, sq, lq, uq, xq⟩ :: r'))) rfl (HTA.out _).1 (Pc.cells ⟨kd, sd, lo, hi, tx⟩).toList _ (by rw [size_new1]; rfl) rfl cells_one (by omega) (by decide) (HTA.out _).2.2.size ?_; intro A' c' w5 hown5 hc5 hb5; have HT5 := Lib.hid ((HTA.out _).push (p := ⟨kd, sd, lo, hi, tx⟩) hown5 hb5); clear hown5 hc5 hb5))
              go_wp2
              go_roundg (n - (k + 1))
              case measure => have := hq.out; omega
              case rel =>
                refine ⟨k + 1, m1 + 1 + 1, A', c', by go_num, by go_num, by omega, by have := sumP_len (⟨kq, sq, lq, uq, xq⟩ :: r'); simp at this; omega, rfl, ?_⟩
                show TI _ _ _ _ _ _
                rw [HTK.out, HST.out]
                exact HT5.out)
          · rw [hwq] at wc
            have hst := step_with hz hwq (r := r')
            have HST := Lib.hid hst
            obtain ⟨kb, sb, lb, ub, xb⟩ := b
            subst hqq
            unfold Pc.cells at wc
            have WC := Lib.hid wc
            clear hst hz wc hwq
            go_wp2_with (go_at_call 17; (with_reducible refine (EM.out _).mono ?_); rintro e w1 ⟨rfl, hb1⟩; have HP1 := Lib.hid (blk_later HPB.out hb1 (by rw [size_new1]; omega)); have k0 := blk_cell HP1.out 0; have k1 := blk_cell HP1.out 1; have k2 := blk_cell HP1.out 2; have k3 := blk_cell HP1.out 3; have k4 := blk_cell HP1.out 4; have HT1 := Lib.hid (HTR.out.later ((below_new1 wr _).trans (hb1.mono (by rw [size_new1]; omega)))); clear hb1)
            obtain ⟨g', cur, rfl, hg', hh, hcur⟩ := CG.out _ _ HT1.out.1
            have hglt := blk_lt hh
            have hplt := blk_lt HP1.out
            have q0 : w1.cell? ⟨g', m1 * 5, none⟩ = some (.int .u8 (kq.toNat : Int)) := (blk_cell hh _).trans (hcur 0 (by omega))
            have q1 : w1.cell? ⟨g', m1 * 5 + 1, none⟩ = some (.int .u8 (sq.toNat : Int)) := (blk_cell hh _).trans (hcur 1 (by omega))
            have q2 : w1.cell? ⟨g', m1 * 5 + 2, none⟩ = some (.int .i64 lq) := (blk_cell hh _).trans (hcur 2 (by omega))
            have q3 : w1.cell? ⟨g', m1 * 5 + 3, none⟩ = some (.int .i64 uq) := (blk_cell hh _).trans (hcur 3 (by omega))
            have q4 : w1.cell? ⟨g', m1 * 5 + 4, none⟩ = some (.string xq) := (blk_cell hh _).trans (hcur 4 (by omega))
            clear hcur
            have HH := Lib.hid hh
            have hw1 : IntKind.i64.wrap (m1 : Int) = (m1 : Int) := IntWalk.i64_in _ (by omega)
            have hw2 : (m1 : Int) < (m1 : Int) + 1 := by omega
            clear hh
            go_region_law (go_loud (go_simp; refine (WC.out _).mono ?_; rintro e w2 ⟨rfl, hb2⟩; (first | (have hbw : Below w1.heap.size w1 w2 := (Below.refl _ w1).drew.trans hb2) | (have hbw : Below w1.heap.size w1 w2 := (Below.refl _ w1).drew.trans ((below_new1 w1.drew (.cells #[.int .u8 0, .int .u8 0, .int .i64 0, .int .i64 0, .string ⟨#[]⟩] 36)).trans (hb2.mono (below_new1 w1.drew (.cells #[.int .u8 0, .int .u8 0, .int .i64 0, .int .i64 0, .string ⟨#[]⟩] 36)).size)); have hz2 := blk_later (heap_new1 w1.drew (.cells #[.int .u8 0, .int .u8 0, .int .i64 0, .int .i64 0, .string ⟨#[]⟩] 36)) hb2 (by simp); have z0 : w2.cell? ⟨w1.heap.size, 0, none⟩ = some (.int .u8 0) := blk_cell hz2 0; have z1 : w2.cell? ⟨w1.heap.size, 1, none⟩ = some (.int .u8 0) := blk_cell hz2 1; have z2 : w2.cell? ⟨w1.heap.size, 2, none⟩ = some (.int .i64 0) := blk_cell hz2 2; have z3 : w2.cell? ⟨w1.heap.size, 3, none⟩ = some (.int .i64 0) := blk_cell hz2 3; have z4 : w2.cell? ⟨w1.heap.size, 4, none⟩ = some (.string ⟨#[]⟩) := blk_cell hz2 4; have y0 : w2.frozen? ⟨w1.heap.size, 0, none⟩ = false := blk_frozen hz2 0; have y1 : w2.frozen? ⟨w1.heap.size, 1, none⟩ = false := blk_frozen hz2 1; have y2 : w2.frozen? ⟨w1.heap.size, 2, none⟩ = false := blk_frozen hz2 2; have y3 : w2.frozen? ⟨w1.heap.size, 3, none⟩ = false := blk_frozen hz2 3; have y4 : w2.frozen? ⟨w1.heap.size, 4, none⟩ = false := blk_frozen hz2 4)); have c0 : w2.cell? ⟨g', m1 * 5, none⟩ = some (.int .u8 (kq.toNat : Int)) := cell_later hbw q0; have c1 : w2.cell? ⟨g', m1 * 5 + 1, none⟩ = some (.int .u8 (sq.toNat : Int)) := cell_later hbw q1; have c2 : w2.cell? ⟨g', m1 * 5 + 2, none⟩ = some (.int .i64 lq) := cell_later hbw q2; have c3 : w2.cell? ⟨g', m1 * 5 + 3, none⟩ = some (.int .i64 uq) := cell_later hbw q3; have c4 : w2.cell? ⟨g', m1 * 5 + 4, none⟩ = some (.string xq) := cell_later hbw q4; have hh2 := blk_later HH.out hbw hglt; have f0 : w2.frozen? ⟨g', m1 * 5, none⟩ = false := blk_frozen hh2 _; have f1 : w2.frozen? ⟨g', m1 * 5 + 1, none⟩ = false := blk_frozen hh2 _; have f2 : w2.frozen? ⟨g', m1 * 5 + 2, none⟩ = false := blk_frozen hh2 _; have f3 : w2.frozen? ⟨g', m1 * 5 + 3, none⟩ = false := blk_frozen hh2 _; have f4 : w2.frozen? ⟨g', m1 * 5 + 4, none⟩ = false := blk_frozen hh2 _; have HT2 := Lib.hid (HT1.out.later hbw); have hg2 := blk_lt hh2; clear hh2 hbw hb2))
            all_goals (
              have hgb := hg'
              have hgne : w1.heap.size ≠ g' := by omega
              have hwb := HT1.out.2.2.size
              have hcb : (⟨kb, sb, lb, ub, xb⟩ : Pc).cells = #[.int .u8 (kb.toNat : Int), .int .u8 (sb.toNat : Int), .int .i64 lb, .int .i64 ub, .string xb] := rfl
              go_wp2
              go_roundg (n - (k + 1))
              case measure => have := hq.out; omega
              case rel =>
                refine ⟨k + 1, m1 + 1, some ⟨g', 0, none⟩, c, by go_num, by go_num, by omega, by omega, rfl, ?_⟩
                show TI _ _ _ _ _ _
                rw [HTK.out, HST.out]
                first
                  | (with_reducible exact TI.formB HT2.out hwb hgne hgb hcb)
                  | (with_reducible exact TI.formA HT2.out hgb hcb))
      · go_wp2_with (go_at_call 17; (with_reducible refine (EM.out _).mono ?_); rintro e w1 ⟨rfl, hb1⟩; have HT1 := Lib.hid (HT.out.later ((below_new1 wr _).trans (hb1.mono (by rw [size_new1]; omega)))); clear hb1)
        go_roundg (n - (k + 1))
        case measure => have := hq.out; omega
        case rel => exact ⟨k + 1, m, A, c, by go_num, rfl, by omega, hm, rfl, by show TI _ _ _ _ _ _; rw [HTK.out, step_empty HZ.out]; exact HT1.out⟩
    · have hkn : k = l.length := by have := HN.out; omega
      have ht := HT.out
      rw [hkn, List.take_length] at ht
      have hmc : m ≤ c := by
        obtain ⟨_, _, e, h⟩ := own_slice ht.1
        injection e with _ _ e; omega
      have HTE := Lib.hid ht
      clear hkn ht
      go_wp2_with (go_at_call 19; (with_reducible refine (clipP_is A m c hmc _).mono ?_); rintro e w2 ⟨rfl, rfl⟩)
      go_ret
      exact ⟨A, m, rfl, by rw [HTE.out.2.1]; simp [tidyL], HTE.out.mem, HTE.out.2.2⟩

end Go.Proofs.YtpafadfaphaoeaaDoor
