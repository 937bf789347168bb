/- The walk over tkeys.Read; no statement of the seat is proved here. -/
import Derived.Test.YtflfedfghnnaeaaDoorKyD
namespace Go.Proofs.YtflfedfghnnaeaaDoor
open Go.RowKit

theorem KeyR.inv {l : List UInt8} {n i : Nat} {r : List Ent × Int × Int × Int} (h : KeyR l n i r) : (n = 1 ∧ NoneAt l i ∧ r = ([], 0, 3, (i : Int))) ∨ ∃ t j, WordAt l i t j ∧ ((n = 1 ∧ bt l (blT l j) ≠ 46 ∧ r = ([(t, i, j)], (j : Int), 0, 0)) ∨
    ∃ m ws e c a, n = m + 1 ∧ bt l (blT l j) = 46 ∧ KeyR l m (blT l (blT l j + 1)) (ws, e, c, a) ∧ r = if c = 0 then ((t, i, j) :: ws, e, 0, 0) else ([], 0, c, a)) := by
  cases h with
  | last h hb => exact .inr ⟨_, _, h, .inl ⟨rfl, hb, rfl⟩⟩
  | bad h => exact .inl ⟨rfl, h, rfl⟩
  | more h hb hk => exact .inr ⟨_, _, h, .inr ⟨_, _, _, _, _, rfl, hb, hk, rfl⟩⟩
theorem KM.cells {w wr : World} {v1 v2 : Value} {es : List Ent} (h : KM w wr v1 v2 es) : wr.cell? ⟨w.heap.size, 0, none⟩ = some v1 ∧ wr.cell? ⟨w.heap.size, 1, none⟩ = some v2 ∧ wr.frozen? ⟨w.heap.size, 0, none⟩ = false ∧ wr.frozen? ⟨w.heap.size, 1, none⟩ = false :=
  ⟨blk_cell h.kb 0, blk_cell h.kb 1, blk_frozen h.kb 0, blk_frozen h.kb 1⟩
theorem blT_le {l : List UInt8} {k : Nat} (h : k ≤ l.length) : k ≤ blT l k ∧ blT l k ≤ l.length := by
  unfold blT
  have := (List.takeWhile_sublist (fun c : UInt8 => blB c.toNat) (l := l.drop k)).length_le
  rw [List.length_drop] at this
  omega
def TxM (w w' : World) (A : Option Addr) (es : List Ent) : Prop := ∃ g, A = some ⟨g, 0, none⟩ ∧ w.heap.size + 2 ≤ g ∧ g < w'.heap.size ∧ ∀ j (h : j < es.length), w'.cell? ⟨g, j, none⟩ = some (.string ⟨es[j].1.toArray⟩)
def SpM (w w' : World) (A : Option Addr) (es : List Ent) : Prop := ∃ g, A = some ⟨g, 0, none⟩ ∧ w.heap.size + 2 ≤ g ∧ g < w'.heap.size ∧ ∀ j (h : j < es.length), w'.cell? ⟨g, 2 * j, none⟩ = some (.int .i64 (es[j].2.1 : Int)) ∧ w'.cell? ⟨g, 2 * j + 1, none⟩ = some (.int .i64 (es[j].2.2 : Int))
theorem TxM.same {w w1 w2 : World} {A : Option Addr} {es : List Ent} (h : TxM w w1 A es) (hh : ∀ g, w.heap.size + 2 ≤ g → w2.heap[g]? = w1.heap[g]?) (hs : w1.heap.size ≤ w2.heap.size) : TxM w w2 A es := by
  obtain ⟨g, h1, h2, h3, h4⟩ := h
  exact ⟨g, h1, h2, by omega, fun j hj => (World.cell?_of_block (a := ⟨g, j, none⟩) (hh g h2)).trans (h4 j hj)⟩
theorem SpM.same {w w1 w2 : World} {A : Option Addr} {es : List Ent} (h : SpM w w1 A es) (hh : ∀ g, w.heap.size + 2 ≤ g → w2.heap[g]? = w1.heap[g]?) (hs : w1.heap.size ≤ w2.heap.size) : SpM w w2 A es := by
  obtain ⟨g, h1, h2, h3, h4⟩ := h
  exact ⟨g, h1, h2, by omega, fun j hj => ⟨(World.cell?_of_block (a := ⟨g, 2 * j, none⟩) (hh g h2)).trans (h4 j hj).1, (World.cell?_of_block (a := ⟨g, 2 * j + 1, none⟩) (hh g h2)).trans (h4 j hj).2⟩⟩
theorem spanV_at : ∀ (es : List Ent) (j : Nat) (h : j < es.length), (spanV es)[2 * j]? = some (.int .i64 (es[j].2.1 : Int)) ∧ (spanV es)[2 * j + 1]? = some (.int .i64 (es[j].2.2 : Int)) := by
  intro es
  induction es with
  | nil => intro j h; cases h
  | cons e es ih =>
    intro j h
    cases j with
    | zero => exact ⟨rfl, rfl⟩
    | succ j =>
      have := ih j (by simpa using h)
      exact ⟨this.1, this.2⟩
theorem KM.tx {w wr : World} {v1 v2 : Value} {es : List Ent} (h : KM w wr v1 v2 es) (h0 : 0 < es.length) : ∃ A B c1 c2, v1 = .slice A es.length c1 ∧ v2 = .slice B es.length c2 ∧ es.length ≤ c1 ∧ es.length ≤ c2 ∧ TxM w wr A es ∧ SpM w wr B es := by
  obtain ⟨_, h1⟩ := h.o1
  obtain ⟨_, h2⟩ := h.o2
  rcases h1 with ⟨_, h1⟩ | ⟨g1, cap1, cur1, hv1, hb1, hg1, hc1, _, hs1, ht1⟩
  · omega
  rcases h2 with ⟨_, h2⟩ | ⟨g2, cap2, cur2, hv2, hb2, hg2, hc2, _, hs2, ht2⟩
  · omega
  refine ⟨_, _, cap1, cap2, hv1, hv2, hc1, hc2, ⟨g1, rfl, hb1, blk_lt hg1, fun j hj => ?_⟩, ⟨g2, rfl, hb2, blk_lt hg2, fun j hj => ?_⟩⟩
  · have e : (textV es)[j]? = some (.string ⟨es[j].1.toArray⟩) := by simp [textV, hj]
    rw [← ht1, List.getElem?_take, if_pos (by omega)] at e
    rw [blk_cell hg1 j]
    simpa using e
  · obtain ⟨e1, e2⟩ := spanV_at es j hj
    rw [← ht2, List.getElem?_take, if_pos (by omega)] at e1 e2
    rw [blk_cell hg2, blk_cell hg2]
    exact ⟨by simpa using e1, by simpa using e2⟩
/-- What tkeys.Read hands back. -/
def KyPost (r : List Ent × Int × Int × Int) (w : World) (e : Ending) (w' : World) : Prop :=
  (r.2.2.1 = 0 ∧ ∃ A B, e = .returned (.tuple #[.agg #[.slice A r.1.length r.1.length, .slice B r.1.length r.1.length], .int .i64 r.2.1, .agg #[.int .i64 0, .int .i64 0]]) ∧ TxM w w' A r.1 ∧ SpM w w' B r.1 ∧ Below w.heap.size w w') ∨
  (r.2.2.1 ≠ 0 ∧ e = .returned (.tuple #[.agg #[.slice none 0 0, .slice none 0 0], .int .i64 0, .agg #[.int .i64 r.2.2.1, .int .i64 r.2.2.2]]) ∧ Below w.heap.size w w')
theorem TxM.keep {w w1 w2 : World} {A : Option Addr} {es : List Ent} (h : TxM w w1 A es) {B : Nat} (hb : Below B w1 w2) (hB : w1.heap.size ≤ B) : TxM w w2 A es := by
  obtain ⟨g, h1, h2, h3, h4⟩ := h
  exact ⟨g, h1, h2, by have := hb.size; omega, fun j hj => (hb.cell (p := ⟨g, j, none⟩) (by show g < B; omega)).trans (h4 j hj)⟩
theorem SpM.keep {w w1 w2 : World} {A : Option Addr} {es : List Ent} (h : SpM w w1 A es) {B : Nat} (hb : Below B w1 w2) (hB : w1.heap.size ≤ B) : SpM w w2 A es := by
  obtain ⟨g, h1, h2, h3, h4⟩ := h
  exact ⟨g, h1, h2, by have := hb.size; omega, fun j hj => ⟨(hb.cell (p := ⟨g, 2 * j, none⟩) (by show g < B; omega)).trans (h4 j hj).1, (hb.cell (p := ⟨g, 2 * j + 1, none⟩) (by show g < B; omega)).trans (h4 j hj).2⟩⟩
theorem ky_fin {w wc w4 : World} {A B : Option Addr} {es : List Ent} {j : Int} (hT : TxM w wc A es) (hS : SpM w wc B es) (hb : Below wc.heap.size wc w4) (hw : Below w.heap.size w w4) (x0 x1 y0 y1 : Value) :
    KyPost (es, j, 0, 0) w (.returned (.tuple #[.agg #[.slice A es.length es.length, .slice B es.length es.length], .int .i64 j, .agg #[.int .i64 0, .int .i64 0]])) ((((w4.setCell ⟨w.heap.size, 0, none⟩ x0).setCell ⟨w.heap.size, 1, none⟩ x1).setCell ⟨w.heap.size + 1, 0, none⟩ y0).setCell ⟨w.heap.size + 1, 1, none⟩ y1).drew := by
  have hh : ∀ g, w.heap.size + 2 ≤ g → ((((w4.setCell ⟨w.heap.size, 0, none⟩ x0).setCell ⟨w.heap.size, 1, none⟩ x1).setCell ⟨w.heap.size + 1, 0, none⟩ y0).setCell ⟨w.heap.size + 1, 1, none⟩ y1).drew.heap[g]? = w4.heap[g]? := fun g hg =>
    (Below.heap_setCell _ ⟨w.heap.size + 1, 1, none⟩ y1 g (by show g ≠ w.heap.size + 1; omega)).trans ((Below.heap_setCell _ ⟨w.heap.size + 1, 0, none⟩ y0 g (by show g ≠ w.heap.size + 1; omega)).trans ((Below.heap_setCell _ ⟨w.heap.size, 1, none⟩ x1 g (by show g ≠ w.heap.size; omega)).trans (Below.heap_setCell _ ⟨w.heap.size, 0, none⟩ x0 g (by show g ≠ w.heap.size; omega))))
  have hbw := ((((hw.setCell (p := ⟨w.heap.size, 0, none⟩) (Nat.le_refl _) x0).setCell (p := ⟨w.heap.size, 1, none⟩) (Nat.le_refl _) x1).setCell (p := ⟨w.heap.size + 1, 0, none⟩) (by simp) y0).setCell (p := ⟨w.heap.size + 1, 1, none⟩) (by simp) y1).drew
  exact .inl ⟨rfl, A, B, rfl, (hT.keep hb (Nat.le_refl _)).same hh (by simp [World.setCell]), (hS.keep hb (Nat.le_refl _)).same hh (by simp [World.setCell]), hbw⟩
def comb (acc : List Ent) (r : List Ent × Int × Int × Int) : List Ent × Int × Int × Int := if r.2.2.1 = 0 then (acc ++ r.1, r.2.1, 0, 0) else ([], 0, r.2.2.1, r.2.2.2)
theorem clip_str (A : Option Addr) (n c : Nat) (hc : n ≤ c) (w : World) : Calls Tryd.prog 19 #[.slice A n c] w fun e w' => e = .returned (.slice A n n) ∧ w = w' := by
  go_enter Tryd.func19, Tryd.ntmps19
  go_wp2
  go_ret
  exact ⟨rfl, rfl⟩
theorem clip_span (A : Option Addr) (n c : Nat) (hc : n ≤ c) (w : World) : Calls Tryd.prog 20 #[.slice A n c] w fun e w' => e = .returned (.slice A n n) ∧ w = w' := by
  go_enter Tryd.func20, Tryd.ntmps20
  go_wp2
  go_ret
  exact ⟨rfl, rfl⟩

theorem KeyR.norm {l : List UInt8} {n i : Nat} {r : List Ent × Int × Int × Int} (h : KeyR l n i r) : comb [] r = r := by
  cases h with
  | last h hb => rfl
  | bad h => rfl
  | more h hb hk =>
    split
    · rfl
    · next hc => simp [comb, hc]
theorem comb_more (acc : List Ent) (x : Ent) (ws : List Ent) (e c a : Int) : comb (acc ++ [x]) (ws, e, c, a) = comb acc (if c = 0 then (x :: ws, e, 0, 0) else ([], 0, c, a)) := by
  by_cases h : c = 0
  · subst h; simp [comb]
  · simp [comb, h]

set_option maxRecDepth 100000 in
set_option maxHeartbeats 8000000 in
theorem read_key (s : ByteArray) (hs : s.size ≤ 1000000) (n i : Nat) (r : List Ent × Int × Int × Int) (hK : KeyR s.data.toList n i r) (hi : i ≤ s.size) (hn : n ≤ 100000) (w : World) (hG : Glob w) :
    Calls Tryd.prog 9 #[.string s, .int .i64 (i : Int)] w (KyPost r w) := by
  have HG := Lib.hid hG; have HK := Lib.hid hK; clear hG hK
  have HKM := Lib.hid (KM.start w)
  obtain ⟨is, his, hsz0, hsz1, hsz2⟩ := info_parts str_info
  obtain ⟨ip, hip, hpz0, hpz1, hpz2⟩ := info_parts span_info
  have HC0 := Lib.hid HK.out.norm
  have hb1 : decide (s.size < i) = false := by simpa using hi
  have hb2 : decide ((i : Int) < 0) = false := by simp
  go_enter Tryd.func9, Tryd.ntmps9
  go_wp2
  go_step3
  go_wp2
  go_step3
  go_wp2
  go_loopg [1] n (fun g s1 wr => ∃ (n' i' : Nat) (acc : List Ent) (r' : List Ent × Int × Int × Int) (v1 v2 : Value), s1 = .int .i64 (i' : Int) ∧ i' ≤ s.size ∧ Hid (g = n') ∧ Hid (acc.length + n' = n) ∧ Hid (KeyR s.data.toList n' i' r') ∧ Hid (comb acc r' = r) ∧ Hid (KM w wr v1 v2 acc))
  case atStart => exact ⟨n, i, [], r, _, _, rfl, hi, rfl, by show 0 + n = n; omega, HK.out, HC0.out, HKM.out⟩
  case round =>
    obtain ⟨n', i', acc, r', v1, v2, rfl, hi', hg, hnn, hk, hc, HM⟩ := hrel
    have HGr := Lib.hid (HG.out.keep HM.out.below (Nat.le_refl _))
    rcases hk.out.inv with ⟨rfl, hno, rfl⟩ | ⟨t, j, hw, hcase⟩
    · have HW := Lib.hid (fun w1 => word_none s i' hno (by omega) w1)
      clear hno
      go_wp2_with (go_at_call 17; (with_reducible refine (HW.out _).mono ?_); rintro e w2 ⟨rfl, hb2⟩; have hb3 := hb2.trans ((below_new1 w2 (.cells #[.int .i64 3, .int .i64 (i' : Int)] 33)).mono hb2.size); have HM3 := Lib.hid (HM.out.keep hb3 (Nat.le_refl _)); have hf := FB.new w2 3 (i' : Int); obtain ⟨f0, f1, _, _, _⟩ := hf.cells; obtain ⟨k0, k1, k2, k3⟩ := HM3.out.cells; obtain ⟨q0, q1, q2, q3, q4⟩ := HM3.out.fb.cells; clear hb3 hf)
      have hres : Hid (r = ([], 0, 3, (i' : Int))) := by show _ = _; rw [← hc.out]; rfl
      have HB3 := Lib.hid HM3.out.below
      have hn1 : w.heap.size + 1 < w2.heap.size := Nat.lt_of_lt_of_le HM.out.lt hb2.size
      have hn0 : w.heap.size < w2.heap.size := by omega
      obtain ⟨w3, hw3⟩ : ∃ w3, w3 = w2.alloc (.cells #[.int .i64 3, .int .i64 (i' : Int)] 33) := ⟨_, rfl⟩
      rw [← hw3] at f0 f1 k0 k1 k2 k3 q0 q1 q2 q3 HB3 ⊢
      clear hw3 HM3 q4 hb2
      go_region
      all_goals (
        go_wp2
        rw [Exit.noGoto_ret]
        refine bodyPost_ret (v := .tuple #[.agg #[.slice none 0 0, .slice none 0 0], .int .i64 0, .agg #[.int .i64 3, .int .i64 (i' : Int)]]) (by simp [results, Tryd.results9, go_sem, k0, k1, q0, q1]) rfl ?_
        rw [hres.out]
        exact .inr ⟨by show (3 : Int) ≠ 0; decide, rfl, ((((HB3.out.setCell (p := ⟨w.heap.size, 0, none⟩) (Nat.le_refl _) _).setCell (p := ⟨w.heap.size, 1, none⟩) (Nat.le_refl _) _).setCell (p := ⟨w.heap.size + 1, 0, none⟩) (by simp) _).setCell (p := ⟨w.heap.size + 1, 1, none⟩) (by simp) _).drew⟩)
    · have hjle := hw.le
      have hj : j ≤ s.size := hjle.2
      have HW := Lib.hid (fun w1 hb => word_is s i' j t hw (by omega) w1 (HGr.out.keep hb (Nat.le_refl wr.heap.size)))
      clear hw
      go_upto_region 6 with (go_at_call 17; (with_reducible refine (HW.out _ (Below.refl _ _)).mono ?_); rintro e w2 ⟨rfl, hb2⟩; dsimp only; have hb3 := hb2.trans ((below_new1 w2 (.cells #[.int .i64 0, .int .i64 0] 33)).mono hb2.size); have HM3 := Lib.hid (HM.out.keep hb3 (Nat.le_refl _)); have HB23 := Lib.hid hb3; clear hb3)
      obtain ⟨wX, hwX⟩ : ∃ wX, wX = w2.alloc (.cells #[.int .i64 0, .int .i64 0] 33) := ⟨_, rfl⟩
      rw [← hwX] at HM3 HB23 ⊢
      clear hwX hb2
      go_cut [5] from 20 to 63 (fun s5 w' => s5 = .int .i64 (j : Int) ∧ ∃ s1 s2, Hid (KM w w' s1 s2 (acc ++ [(t, i', j)])))
      case first =>
        obtain ⟨k0, k1, k2, k3⟩ := HM3.out.cells
        have klt := blk_lt HM3.out.kb
        have hbase : w.heap.size + 2 ≤ wX.heap.size := HM3.out.lt
        have hmx : acc.length + 1 ≤ maxLen := by have := hnn.out; simp only [maxLen]; omega
        have hby : (acc.length + 1) * 16 ≤ 140737488355328 := by have := hnn.out; omega
        have HO1 := Lib.hid HM3.out.o1; have HO2 := Lib.hid HM3.out.o2
        have GA : Hid (Grow2 wX (wX.alloc (.cells #[.string ⟨t.toArray⟩] 9)).drew none none) := ((Grow2.refl wX none none).alloc _).drew'
        have GBA : Hid (Grow2 wX ((wX.alloc (.cells #[.int .i64 (i' : Int), .int .i64 (j : Int)] 37)).alloc (.cells #[.string ⟨t.toArray⟩] 9)).drew none none) := (((Grow2.refl wX none none).alloc _).alloc _).drew'
        have GAB : Hid (Grow2 wX ((wX.alloc (.cells #[.string ⟨t.toArray⟩] 9)).alloc (.cells #[.int .i64 (i' : Int), .int .i64 (j : Int)] 37)).drew none none) := (((Grow2.refl wX none none).alloc _).alloc _).drew'
        go_region_law
          (first
            | (refine step_append_lies _ (by rfl) _ _ _ (by rfl) (w.heap.size + 2) 9 is _ 1 16 Tryd.underlying22 his hsz0 hsz1 hsz2 rfl (by omega) v1 acc.length (textV acc) (by rfl) (GA.out.own HO1.out) ⟨wX.heap.size, 0, none⟩ 1 1 [.string ⟨t.toArray⟩] (by rfl) (by rfl) (World.news_of_block (cs := #[.string ⟨t.toArray⟩]) (t := 9) (fr := (0, 0)) (heap_alloc_new wX _)) (by simp [Value.oneCell']) (by omega) hmx hby (by have := GA.out.size; omega) _ rfl ?_; intro g1 c1 w1 hown1 hgrow1 hat1 hlt1; obtain ⟨ho2', s0, s1, hk1, hblk⟩ := HM3.out.mid GA.out hgrow1)
            | (refine step_append_lies _ (by rfl) _ _ _ (by rfl) (w.heap.size + 2) 9 is _ 1 16 Tryd.underlying22 his hsz0 hsz1 hsz2 rfl (by omega) v1 acc.length (textV acc) (by rfl) (GBA.out.own HO1.out) ⟨wX.heap.size + 1, 0, none⟩ 1 1 [.string ⟨t.toArray⟩] (by rfl) (by rfl) (World.news_of_block (cs := #[.string ⟨t.toArray⟩]) (t := 9) (fr := (0, 0)) (heap_new2 wX _ _).2) (by simp [Value.oneCell']) (by omega) hmx hby (by have := GBA.out.size; omega) _ rfl ?_; intro g1 c1 w1 hown1 hgrow1 hat1 hlt1; obtain ⟨ho2', s0, s1, hk1, hblk⟩ := HM3.out.mid GBA.out hgrow1)
            | (refine step_append_lies _ (by rfl) _ _ _ (by rfl) (w.heap.size + 2) 9 is _ 1 16 Tryd.underlying22 his hsz0 hsz1 hsz2 rfl (by omega) v1 acc.length (textV acc) (by rfl) (GAB.out.own HO1.out) ⟨wX.heap.size, 0, none⟩ 1 1 [.string ⟨t.toArray⟩] (by rfl) (by rfl) (World.news_of_block (cs := #[.string ⟨t.toArray⟩]) (t := 9) (fr := (0, 0)) (heap_new2 wX _ _).1) (by simp [Value.oneCell']) (by omega) hmx hby (by have := GAB.out.size; omega) _ rfl ?_; intro g1 c1 w1 hown1 hgrow1 hat1 hlt1; obtain ⟨ho2', s0, s1, hk1, hblk⟩ := HM3.out.mid GAB.out hgrow1)
            | (refine step_append_lies _ (by rfl) _ _ _ (by rfl) (w.heap.size + 2) 37 ip _ 2 16 Tryd.underlying28 hip hpz0 hpz1 hpz2 rfl (by omega) v2 acc.length (spanV acc) (by rfl) (ho2'.alloc _) ⟨w1.heap.size, 0, none⟩ 1 1 [.int .i64 (i' : Int), .int .i64 (j : Int)] (by rfl) (by rfl) (World.news_of_block (cs := #[.int .i64 (i' : Int), .int .i64 (j : Int)]) (t := 37) (fr := (0, 0)) (heap_alloc_new w1 _)) (by simp [Value.oneCell']) (by omega) hmx hby (by have := GA.out.size; have := hgrow1.size; simp; omega) _ rfl ?_; intro g2 c2 w2' hown2 hgrow2 hat2 hlt2; have fin := Lib.hid (HM3.out.two (e := (t, i', j)) GA.out hgrow1 hown1 hat1 hlt1 ((Grow2.refl w1 none none).alloc _) hgrow2 hown2 hat2); obtain ⟨s2, s3, s4, s5⟩ := HM3.out.end_ GA.out hgrow1 ((Grow2.refl w1 none none).alloc _) hgrow2)
            | (refine step_append_lies _ (by rfl) _ _ _ (by rfl) (w.heap.size + 2) 37 ip _ 2 16 Tryd.underlying28 hip hpz0 hpz1 hpz2 rfl (by omega) v2 acc.length (spanV acc) (by rfl) (ho2') ⟨wX.heap.size, 0, none⟩ 1 1 [.int .i64 (i' : Int), .int .i64 (j : Int)] (by rfl) (by rfl) (World.news_of_block (cs := #[.int .i64 (i' : Int), .int .i64 (j : Int)]) (t := 37) (fr := (0, 0)) ((hblk _ (Nat.le_refl _) (by simp; omega)).trans (heap_new2 wX _ _).1)) (by simp [Value.oneCell']) (by omega) hmx hby (by have := GBA.out.size; have := hgrow1.size; omega) _ rfl ?_; intro g2 c2 w2' hown2 hgrow2 hat2 hlt2; have fin := Lib.hid (HM3.out.two (e := (t, i', j)) GBA.out hgrow1 hown1 hat1 hlt1 (Grow2.refl w1 none none) hgrow2 hown2 hat2); obtain ⟨s2, s3, s4, s5⟩ := HM3.out.end_ GBA.out hgrow1 (Grow2.refl w1 none none) hgrow2)
            | (refine step_append_lies _ (by rfl) _ _ _ (by rfl) (w.heap.size + 2) 37 ip _ 2 16 Tryd.underlying28 hip hpz0 hpz1 hpz2 rfl (by omega) v2 acc.length (spanV acc) (by rfl) (ho2') ⟨wX.heap.size + 1, 0, none⟩ 1 1 [.int .i64 (i' : Int), .int .i64 (j : Int)] (by rfl) (by rfl) (World.news_of_block (cs := #[.int .i64 (i' : Int), .int .i64 (j : Int)]) (t := 37) (fr := (0, 0)) ((hblk _ (by omega) (by simp)).trans (heap_new2 wX _ _).2)) (by simp [Value.oneCell']) (by omega) hmx hby (by have := GAB.out.size; have := hgrow1.size; omega) _ rfl ?_; intro g2 c2 w2' hown2 hgrow2 hat2 hlt2; have fin := Lib.hid (HM3.out.two (e := (t, i', j)) GAB.out hgrow1 hown1 hat1 hlt1 (Grow2.refl w1 none none) hgrow2 hown2 hat2); obtain ⟨s2, s3, s4, s5⟩ := HM3.out.end_ GAB.out hgrow1 (Grow2.refl w1 none none) hgrow2))
        all_goals (
          go_wp2_with fail
          go_meet
          case rel => exact ⟨rfl, _, _, fin⟩)
      case rest =>
        obtain ⟨rfl, s1, s2, HM4⟩ := hcut
        obtain ⟨p, hp⟩ : ∃ p, blT s.data.toList j = p := ⟨_, rfl⟩
        have hpl : j ≤ p ∧ p ≤ s.size := by rw [← hp]; exact blT_le (l := s.data.toList) hj
        have HBL := Lib.hid (fun w1 => blanks_is s j hj (by omega) p hp w1)
        rw [hp] at hcase
        clear hp
        rcases hcase with ⟨rfl, hb46, rfl⟩ | ⟨m, ws, e, c, a, rfl, hb46, hk2, rfl⟩
        · have hres : Hid (r = (acc ++ [(t, i', j)], (j : Int), 0, 0)) := by show _ = _; rw [← hc.out]; rfl
          obtain ⟨es, hes⟩ : ∃ es, acc ++ [(t, i', j)] = es := ⟨_, rfl⟩
          have hes0 : 0 < es.length := by rw [← hes]; simp
          rw [hes] at HM4 hres
          clear hes
          have hways : (p = s.size) ∨ (p < s.size ∧ Hid (∀ h : p < s.size, s[p].toNat ≠ 46)) := by
            rcases Nat.lt_or_ge p s.size with h | h
            · exact .inr ⟨h, fun h => by rw [← bt_str h]; exact hb46⟩
            · exact .inl (by omega)
          clear hb46
          obtain ⟨A, B, c1, c2, rfl, rfl, hc1, hc2, HT, HS⟩ := HM4.out.tx hes0
          obtain ⟨m, hm⟩ : ∃ m, es.length = m := ⟨_, rfl⟩
          rw [hm] at hc1 hc2 HM4
          have HTT := Lib.hid HT; have HSS := Lib.hid HS; clear HT HS
          rcases hways with rfl | ⟨hps, hne⟩
          · have be : ((s.size : Int) == (s.size : Int)) = true := by simp
            go_wp2_with (go_at_call 18; (with_reducible refine (HBL.out _).mono ?_); rintro e w4 ⟨rfl, hb4⟩; have HM5 := Lib.hid (HM4.out.keep hb4 (Nat.le_refl _)); have HB4 := Lib.hid hb4; clear hb4)
            obtain ⟨k0, k1, k2, k3⟩ := HM5.out.cells
            obtain ⟨q0, q1, q2, q3, q4⟩ := HM5.out.fb.cells
            go_region_law (first
              | (go_simp; go_at_call 19; (with_reducible refine (clip_str A m c1 hc1 _).mono ?_); rintro e w5 ⟨rfl, rfl⟩)
              | (go_simp; go_at_call 20; (with_reducible refine (clip_span B m c2 hc2 _).mono ?_); rintro e w5 ⟨rfl, rfl⟩))
            all_goals (
              go_wp2
              rw [Exit.noGoto_ret]
              refine bodyPost_ret (v := .tuple #[.agg #[.slice A m m, .slice B m m], .int .i64 (j : Int), .agg #[.int .i64 0, .int .i64 0]]) (by simp [results, Tryd.results9, go_sem, k0, k1, q0, q1]) rfl ?_
              rw [hres.out]
              subst hm
              exact ky_fin HTT.out HSS.out HB4.out HM5.out.below _ _ _ _)
          · have hx := hne.out hps
            have be : ((p : Int) == (s.size : Int)) = false := by simp; omega
            have bd : ((s[p].toNat : Int) != 46) = true := by simp; omega
            clear hx
            go_wp2_with (go_at_call 18; (with_reducible refine (HBL.out _).mono ?_); rintro e w4 ⟨rfl, hb4⟩; have HM5 := Lib.hid (HM4.out.keep hb4 (Nat.le_refl _)); have HB4 := Lib.hid hb4; clear hb4)
            obtain ⟨k0, k1, k2, k3⟩ := HM5.out.cells
            obtain ⟨q0, q1, q2, q3, q4⟩ := HM5.out.fb.cells
            go_region_law (first
              | (go_simp; go_at_call 19; (with_reducible refine (clip_str A m c1 hc1 _).mono ?_); rintro e w5 ⟨rfl, rfl⟩)
              | (go_simp; go_at_call 20; (with_reducible refine (clip_span B m c2 hc2 _).mono ?_); rintro e w5 ⟨rfl, rfl⟩))
            all_goals (
              go_wp2
              rw [Exit.noGoto_ret]
              refine bodyPost_ret (v := .tuple #[.agg #[.slice A m m, .slice B m m], .int .i64 (j : Int), .agg #[.int .i64 0, .int .i64 0]]) (by simp [results, Tryd.results9, go_sem, k0, k1, q0, q1]) rfl ?_
              rw [hres.out]
              subst hm
              exact ky_fin HTT.out HSS.out HB4.out HM5.out.below _ _ _ _)
        · have hps : p < s.size := by
            rcases Nat.lt_or_ge p s.size with h | h
            · exact h
            · rw [bt_str_ge h] at hb46; cases hb46
          have hx : s[p].toNat = 46 := by rw [← bt_str hps]; exact hb46
          have be : ((p : Int) == (s.size : Int)) = false := by simp; omega
          have bd : ((s[p].toNat : Int) != 46) = false := by simp; omega
          obtain ⟨p2, hp2⟩ : ∃ p2, blT s.data.toList (p + 1) = p2 := ⟨_, rfl⟩
          have hp2l : p2 ≤ s.size := by rw [← hp2]; exact (blT_le (l := s.data.toList) (show p + 1 ≤ s.data.toList.length from hps)).2
          have hbl2 := fun w1 => blanks_is s (p + 1) hps (by omega) p2 hp2 w1
          rw [show ((p + 1 : Nat) : Int) = (p : Int) + 1 by omega] at hbl2
          have HBL2 := Lib.hid hbl2; clear hbl2
          rw [hp2] at hk2
          have HK2 := Lib.hid hk2
          have hcm := Lib.hid (comb_more acc (t, i', j) ws e c a)
          clear hx hb46 hp2 hk2
          go_wp2_with (first
            | (go_at_call 18; (with_reducible refine (HBL.out _).mono ?_); rintro e w4 ⟨rfl, hb4⟩; have HM5 := Lib.hid (HM4.out.keep hb4 (Nat.le_refl _)); clear hb4)
            | (go_at_call 18; (with_reducible refine (HBL2.out _).mono ?_); rintro e w5 ⟨rfl, hb5⟩; have HM6 := Lib.hid (HM5.out.keep hb5 (Nat.le_refl _)); clear hb5))
          go_roundg m
          case measure => have := hg.out; omega
          case rel => exact ⟨m, p2, acc ++ [(t, i', j)], (ws, e, c, a), _, _, rfl, hp2l, rfl, by have := hnn.out; rw [List.length_append]; show acc.length + 1 + m = n; omega, HK2.out, by show _ = _; rw [hcm.out]; exact hc.out, HM6.out⟩

end Go.Proofs.YtflfedfghnnaeaaDoor
