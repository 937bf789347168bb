/- The walk over pieces.Join; no statement of the seat is proved here. -/
import Derived.Test.YtpafadfaphaoeaaDoorPcC
namespace Go.Proofs.YtpafadfaphaoeaaDoor
open Go.RowKit

theorem own_ne {w : World} {base : Nat} {e T : TypeId} {size : Nat} {v : Value} {n : Nat} {xs : List Value} {b : Nat} {cs : Array Value} {fz : Nat × Nat} (h : w.ownsRow base e size v n xs) (hb : w.heap[b]? = some (.cells cs T fz)) (hT : T ≠ e) : v.ownBlock ≠ some b := by
  rcases h.2 with ⟨rfl, _⟩ | ⟨g, cap, cur, rfl, _, hg, _⟩
  · simp [Value.ownBlock]
  · intro q
    simp [Value.ownBlock] at q
    subst q
    rw [hb] at hg
    injection hg with hg; injection hg with _ hg _
    exact hT hg
theorem may_take {l : List Pc} {d : Docs} {k : Nat} (h : mayL (l.take k) d = false) : mayL l d = false := by
  rw [Bool.eq_false_iff] at h ⊢
  intro q
  refine h ?_
  unfold mayL at *
  rw [List.all_eq_true] at q ⊢
  exact fun x hx => q x (List.mem_of_mem_take hx)
theorem span_facts {kd sd : UInt8} {lo hi : Int} {tx : ByteArray} {d : Docs} (h : spanP ⟨kd, sd, lo, hi, tx⟩ d = true) : sd.toNat < 3 ∧ ∃ a b : Nat, lo = (a : Int) ∧ hi = (b : Int) ∧ a ≤ b ∧ b ≤ d.len sd := by
  simp only [spanP, Bool.and_eq_true, decide_eq_true_eq] at h
  obtain ⟨⟨⟨⟨h1, h2⟩, h3⟩, h4⟩, _⟩ := h
  exact ⟨h1, lo.toNat, hi.toNat, by omega, by omega, by omega, by omega⟩
theorem f_byte (f : Int) (hf : 0 ≤ f ∧ f < 256) : ∃ x : UInt8, f = (x.toNat : Int) := ⟨UInt8.ofNat f.toNat, by rw [UInt8.toNat_ofNat']; omega⟩

/-- The state of Join: the documents' box, the row of bytes. -/
def JI (w W : World) (d : Docs) (A : Option Addr) (n c : Nat) (l : List UInt8) : Prop :=
  OwnB W w.heap.size A n c l ∧ W.heap[w.heap.size]? = some (.cells d.cells 24 (0, 0)) ∧ Below w.heap.size w W
theorem JI.later {w W W' : World} {d : Docs} {A : Option Addr} {n c : Nat} {l : List UInt8} (h : JI w W d A n c l) (hb : Below W.heap.size W W') : JI w W' d A n c l :=
  ⟨h.1.keep hb (Nat.le_refl _), blk_later h.2.1 hb (blk_lt h.2.1), Below.on h.2.2 hb⟩
theorem JI.below {w W : World} {d : Docs} {A : Option Addr} {n c : Nat} {l : List UInt8} (h : JI w W d A n c l) : Below w.heap.size w W := h.2.2
theorem JI.push {w W W1 W2 : World} {d : Docs} {A A' : Option Addr} {n n' c c' : Nat} {l t : List UInt8} (h : JI w W d A n c l) (hb : Below W.heap.size W W1) (hg : W1.grownBy W2 (Value.slice A n c).ownBlock)
    (hown : W2.ownsRow w.heap.size 5 1 (.slice A' n' c') n' (byteVals l ++ byteVals t)) : JI w W2 d A' n' c' (l ++ t) := by
  obtain ⟨h1, h2, h3⟩ := h.later hb
  have hne := own_ne h1 h2 (by decide)
  refine ⟨by unfold OwnB; rw [byteVals_app]; exact hown, (hg.block _ (blk_lt h2) (fun e => hne e.symm)).trans h2, below_grown hg (own_ge h1) h3 h3.size⟩

/-- What Join answers. -/
def JoinRes (w' : World) (e : Ending) (may : Bool) (l : List UInt8) : Prop :=
  if may then ∃ A n, e = .returned (.tuple #[.slice A n n, .bool true]) ∧ n = l.length ∧ BS w' w'.heap.size A l else e = .returned (.tuple #[.slice none 0 0, .bool false])

set_option maxRecDepth 100000 in
set_option maxHeartbeats 16000000 in
theorem join_at (f : Int) (_hf : 0 ≤ f ∧ f < 256) (LA : Option Addr) (n cap : Nat) (l : List Pc) (hn : n = l.length) (d : Docs) (b : UInt8 → List UInt8) (hok : PcOk l d) (hbl : ∀ s, (b s).length ≤ 3000) (w : World) (hM : PcM w LA l) (hD : DocsIs w d b) (hT : T.Glob w) (hQ : Q.Glob w) :
    Calls Tryd.prog 7 #[.int .u8 f, .slice LA n cap, .agg d.cells] w fun e w' => JoinRes w' e (mayL l d) (sayL f b l) ∧ Below w.heap.size w w' := by
  have HM := Lib.hid hM; have HD := Lib.hid hD; have HT := Lib.hid hT; have HQ := Lib.hid hQ; have HK := Lib.hid hok; have HN := Lib.hid hn
  have hn1 : n ≤ 3000 := by have := hok.most; omega
  obtain ⟨i0, hi0, hz0, hz1, hz2⟩ := info_parts byte_info
  have Hi := Lib.hid hi0; have Hz0 := Lib.hid hz0; have Hz1 := Lib.hid hz1; have Hz2 := Lib.hid hz2
  clear hM hD hT hQ hok hn hi0 hz0 hz1 hz2
  have HL := Lib.hid hbl; clear hbl
  have hJ0 : JI w (w.alloc (.cells d.cells 24)) d none 0 0 [] := ⟨OwnB.nil _ _, heap_new1 w _, below_new1 w _⟩
  unfold Docs.cells at hJ0 ⊢
  have HJ0 := Lib.hid hJ0; clear hJ0
  go_enter Tryd.func7, Tryd.ntmps7
  go_wp2
  go_loopg [8, 13] n (fun q s8 s13 wr => ∃ (k m : Nat) (A : Option Addr) (c : Nat), s13 = .int .i64 (k : Int) ∧ s8 = .slice A m c ∧ k ≤ n ∧ m ≤ 20000 * k ∧ Hid (q = n - k) ∧ Hid (JI w wr d A m c (sayL f b (l.take k))) ∧ Hid (mayL (l.take k) d = true))
  case atStart => exact ⟨0, 0, none, 0, rfl, rfl, by omega, by omega, by show _ = _; omega, HJ0.out, rfl⟩
  case round =>
    obtain ⟨k, m, A, c, rfl, rfl, hk, hm, hq, HJ, HMay⟩ := hrel
    by_cases hlt : k < n
    · have hkl : k < l.length := by have := HN.out; omega
      obtain ⟨g, off, rfl, hg, hc⟩ := (HM.out.keep HJ.out.2.2 (Nat.le_refl _)) k hkl
      have hnx := say_take f b l k hkl
      have hal := all_take l d k hkl
      have htx := HK.out.txt l[k] (List.getElem_mem hkl)
      have hsl := say_len (f := f) (b := b) (p := l[k]) HL.out htx
      obtain ⟨⟨kd, sd, lo, hi, tx⟩, hp⟩ : ∃ p, l[k] = p := ⟨_, rfl⟩
      rw [hp] at hc hnx hal htx hsl
      have p0 : wr.cell? ⟨g, off + k * 5, none⟩ = some (.int .u8 (kd.toNat : Int)) := hc 0 (by omega)
      have p1 : wr.cell? ⟨g, off + k * 5 + 1, none⟩ = some (.int .u8 (sd.toNat : Int)) := hc 1 (by omega)
      have p2 : wr.cell? ⟨g, off + k * 5 + 2, none⟩ = some (.int .i64 lo) := hc 2 (by omega)
      have p3 : wr.cell? ⟨g, off + k * 5 + 3, none⟩ = some (.int .i64 hi) := hc 3 (by omega)
      have p4 : wr.cell? ⟨g, off + k * 5 + 4, none⟩ = some (.string tx) := hc 4 (by omega)
      have hbox := HJ.out.2.1
      have x0 : wr.cell? ⟨w.heap.size, 0, none⟩ = some (.slice d.a0 d.n0 d.c0) := blk_cell hbox 0
      have x1 : wr.cell? ⟨w.heap.size, 1, none⟩ = some (.slice d.a1 d.n1 d.c1) := blk_cell hbox 1
      have x2 : wr.cell? ⟨w.heap.size, 2, none⟩ = some (.slice d.a2 d.n2 d.c2) := blk_cell hbox 2
      have hwl := blk_lt hbox
      rw [HMay.out, Bool.true_and] at hal
      have htx' : tx.size ≤ 3000 := htx
      have mc := fun w => may_at f kd sd lo hi tx (by omega) d w
      obtain ⟨r, hr⟩ : ∃ r, mayP ⟨kd, sd, lo, hi, tx⟩ d = r := ⟨_, rfl⟩
      rw [hr] at mc hal
      unfold Docs.cells at mc
      have MC := Lib.hid mc
      have HR := Lib.hid hr; have HA := Lib.hid hal; have HX := Lib.hid hnx
      have hsl' : (sayP f b ⟨kd, sd, lo, hi, tx⟩).length ≤ 20000 := hsl
      have hpb := heap_new1 wr (.cells #[.int .u8 (kd.toNat : Int), .int .u8 (sd.toNat : Int), .int .i64 lo, .int .i64 hi, .string tx] 36)
      have HPB := Lib.hid hpb
      clear hc hp hnx hal htx hsl mc hr hbox hkl hpb
      cases r
      · go_wp2_with (go_at_call 8; (with_reducible refine (MC.out _).mono ?_); rintro e w3 ⟨rfl, hb3⟩; have HB3 := Lib.hid (Below.on (HJ.out.2.2.alloc HJ.out.2.2.size _) hb3))
        go_ret2
        refine ⟨?_, HB3.out⟩
        rw [may_take HA.out]; rfl
      · by_cases hk0 : kd = 0
        · have hsp : spanP ⟨kd, sd, lo, hi, tx⟩ d = true := by have := HR.out; unfold mayP at this; rwa [if_pos hk0] at this
          obtain ⟨h3, a, z, rfl, rfl, haz, hzl⟩ := span_facts hsp
          have b0 : ((kd.toNat : Int) == 0) = true := by rw [hk0]; rfl
          have hsay : Hid (sayP f b ⟨kd, sd, (a : Int), (z : Int), tx⟩ = ((b sd).drop a).take (z - a)) := by show _ = _; rw [sayP, if_pos hk0]; simp
          clear hk0 hsp
          go_wp2_with (go_at_call 8; (with_reducible refine (MC.out _).mono ?_); rintro e w3 ⟨rfl, hb3⟩; have hp3 := blk_later HPB.out hb3 (by rw [size_new1]; omega); have k0 : w3.cell? ⟨wr.heap.size, 0, none⟩ = some (.int .u8 (kd.toNat : Int)) := blk_cell hp3 0; have k1 : w3.cell? ⟨wr.heap.size, 1, none⟩ = some (.int .u8 (sd.toNat : Int)) := blk_cell hp3 1; have k2 : w3.cell? ⟨wr.heap.size, 2, none⟩ = some (.int .i64 (a : Int)) := blk_cell hp3 2; have k3 : w3.cell? ⟨wr.heap.size, 3, none⟩ = some (.int .i64 (z : Int)) := blk_cell hp3 3; have k4 : w3.cell? ⟨wr.heap.size, 4, none⟩ = some (.string tx) := blk_cell hp3 4; have hlt3 := blk_lt hp3; have hj3 := HJ.out.later ((below_new1 wr _).trans (hb3.mono (by rw [size_new1]; omega))); have HJ3 := Lib.hid hj3; clear hb3 hp3 hj3)
          obtain ⟨A2, n2, c2, hd, hn2, hnb, hc2, hbs⟩ := (HD.out.later HJ3.out.2.2).at_ sd h3
          have y0 : w3.cell? ⟨w.heap.size, sd.toNat, none⟩ = some (.slice A2 n2 c2) := (blk_cell HJ3.out.2.1 sd.toNat).trans hd
          have hsl2 := run_slice_cut (P := Tryd.prog) 23 5 Tryd.underlying23 Tryd.sizeOf5 A2 n2 c2 a z haz (by omega)
          have hcut := hbs.cut (cap := c2) haz (by omega) (by omega)
          have hcl := cut_length (l := b sd) (lo := a) (hi := z) (by omega)
          have HC := Lib.hid hcut; have HCL := Lib.hid hcl
          have hown := HJ3.out.1
          have hbase := HJ3.out.2.2.size
          have HO := Lib.hid hown
          have hzb : z - a ≤ 3000 := by have := HL.out sd; omega
          clear hd hn2 hnb hbs hcut hcl hown hsl'
          have h3i : (sd.toNat : Int) < 3 := by omega
          have hzi : (0 : Int) ≤ (sd.toNat : Int) := by omega
          have ho2 : w3.drew.ownsRow w.heap.size 5 1 (.slice A m c) m (byteVals (sayL f b (l.take k))) := HO.out
          have hb2 : BS w3.drew w3.heap.size (cutA A2 c2 a) (((b sd).drop a).take (z - a)) := HC.out
          have HO2 := Lib.hid ho2; have HC2 := Lib.hid hb2
          clear ho2 hb2
          go_region_law (refine step_append_bs _ rfl (.tmp 31) (.tmp 42) 23 rfl w.heap.size 5 i0 _ Tryd.underlying23 Hi.out Hz0.out Hz1.out Hz2.out rfl (.slice A m c) m (byteVals (sayL f b (l.take k))) (by simp [Act.eval, Act.put]) HO2.out w3.heap.size (cutA A2 c2 a) (z - a) (((b sd).drop a).take (z - a)) HCL.out.symm (c2 - a) (by simp [Act.eval, Act.put]) HC2.out (by rw [HCL.out]; omega) (by simp; omega) ?_; intro A' c' w5 hown' hcc hg'; have HJ5 := Lib.hid (HJ3.out.push (t := ((b sd).drop a).take (z - a)) (Below.refl _ w3).drew hg' hown'); clear hown' hg')
          all_goals (
            go_wp2
            go_roundg (n - (k + 1))
            case measure => have := hq.out; omega
            case rel => exact ⟨k + 1, m + (z - a), A', c', by go_num, rfl, by omega, by omega, rfl, by rw [HX.out, hsay.out]; exact HJ5.out, HA.out⟩)
        · have b0 : ((kd.toNat : Int) == 0) = false := by rw [u8_eqi kd 0 0 rfl]; exact decide_eq_false hk0
          by_cases hk2 : kd = 2
          · have b2 : ((kd.toNat : Int) != 2) = false := by rw [hk2]; rfl
            by_cases hf1 : f = 1
            · have bf : (f == 1) = true := by rw [hf1]; rfl
              obtain ⟨S, hS⟩ : ∃ S : ByteArray, (⟨(keyL [tx]).toArray⟩ : ByteArray) = S := ⟨_, rfl⟩
              have hsay : Hid (sayP f b ⟨kd, sd, lo, hi, tx⟩ = S.data.toList) := by show _ = _; rw [sayP, if_neg hk0, if_neg (by rw [hk2]; exact fun h => h rfl), if_pos hf1, ← hS]
              have hSs : S.size ≤ 20000 := by
                rw [hsay.out] at hsl'
                have : S.data.toList.length = S.size := by simp
                omega
              have tw := fun (W : World) (hb : Below w.heap.size w W) => twrite_is [tx] (by intro s hs; simp at hs; subst hs; omega) (by simp) 1 1 rfl (by omega) W.heap.size 0 (W.alloc (.cells #[.string tx] 9)) (fun j hj => by
                obtain rfl : j = 0 := by simpa using hj
                exact blk_cell (heap_new1 W _) 0) (HT.out.keep (hb.alloc hb.size _) (Nat.le_refl _))
              rw [hS] at tw
              have TW := Lib.hid tw
              clear hk0 hk2 hf1 hS tw hsl'
              go_wp2_with (first
                | (go_at_call 8; (with_reducible refine (MC.out _).mono ?_); rintro e w3 ⟨rfl, hb3⟩; have hp3 := blk_later HPB.out hb3 (by rw [size_new1]; omega); have k0 : w3.cell? ⟨wr.heap.size, 0, none⟩ = some (.int .u8 (kd.toNat : Int)) := blk_cell hp3 0; have k1 : w3.cell? ⟨wr.heap.size, 1, none⟩ = some (.int .u8 (sd.toNat : Int)) := blk_cell hp3 1; have k2 : w3.cell? ⟨wr.heap.size, 2, none⟩ = some (.int .i64 lo) := blk_cell hp3 2; have k3 : w3.cell? ⟨wr.heap.size, 3, none⟩ = some (.int .i64 hi) := blk_cell hp3 3; have k4 : w3.cell? ⟨wr.heap.size, 4, none⟩ = some (.string tx) := blk_cell hp3 4; have hlt3 := blk_lt hp3; have hj3 := HJ.out.later ((below_new1 wr _).trans (hb3.mono (by rw [size_new1]; omega))); have HJ3 := Lib.hid hj3; clear hb3 hp3 hj3)
                | (go_at_call 13; (with_reducible refine (TW.out _ HJ3.out.below).mono ?_); rintro e w4 ⟨rfl, hb4⟩; have HJ4 := Lib.hid (HJ3.out.later ((below_new1 w3 _).trans (hb4.mono (by rw [size_new1]; omega)))); clear hb4)
                | (at_builtin; refine Lib.wpList_append_own_string _ rfl _ _ 23 9 rfl w.heap.size 5 i0 Tryd.underlying23 Tryd.underlying9 Hi.out Hz0.out Hz1.out Hz2.out (.slice A m c) m (byteVals (sayL f b (l.take k))) rfl ?h0 S rfl ?h1 ?h2 ?h3 ?_))
              case h0 => exact HJ4.out.1
              case h1 => simp only [maxLen]; omega
              case h2 => omega
              case h3 => exact HJ4.out.2.2.size
              intro v' w5 hown' hg' _
              obtain ⟨A', c', rfl, _⟩ := own_slice hown'
              have HJ5 := Lib.hid (HJ4.out.push (t := (S).data.toList) (Below.refl _ w4) hg' hown')
              clear hown' hg'
              go_wp2
              go_roundg (n - (k + 1))
              case measure => have := hq.out; omega
              case rel => exact ⟨k + 1, m + (S).size, A', c', by go_num, rfl, by omega, by omega, rfl, by rw [HX.out, hsay.out]; exact HJ5.out, HA.out⟩
            · have bf : (f == 1) = false := by rw [beq_eq_false_iff_ne]; exact hf1
              obtain ⟨S, hS⟩ : ∃ S : ByteArray, (⟨(Q.writeQ tx.data.toList).toArray⟩ : ByteArray) = S := ⟨_, rfl⟩
              have hsay : Hid (sayP f b ⟨kd, sd, lo, hi, tx⟩ = S.data.toList) := by show _ = _; rw [sayP, if_neg hk0, if_neg (by rw [hk2]; exact fun h => h rfl), if_neg hf1, ← hS]
              have hSs : S.size ≤ 20000 := by
                rw [hsay.out] at hsl'
                have : S.data.toList.length = S.size := by simp
                omega
              have tw := fun (W : World) (hb : Below w.heap.size w W) => Q.qwrite_any tx (by omega) W (HQ.out.keep hb (Nat.le_refl _))
              rw [hS] at tw
              have TW := Lib.hid tw
              clear hk0 hk2 hf1 hS tw hsl'
              go_wp2_with (first
                | (go_at_call 8; (with_reducible refine (MC.out _).mono ?_); rintro e w3 ⟨rfl, hb3⟩; have hp3 := blk_later HPB.out hb3 (by rw [size_new1]; omega); have k0 : w3.cell? ⟨wr.heap.size, 0, none⟩ = some (.int .u8 (kd.toNat : Int)) := blk_cell hp3 0; have k1 : w3.cell? ⟨wr.heap.size, 1, none⟩ = some (.int .u8 (sd.toNat : Int)) := blk_cell hp3 1; have k2 : w3.cell? ⟨wr.heap.size, 2, none⟩ = some (.int .i64 lo) := blk_cell hp3 2; have k3 : w3.cell? ⟨wr.heap.size, 3, none⟩ = some (.int .i64 hi) := blk_cell hp3 3; have k4 : w3.cell? ⟨wr.heap.size, 4, none⟩ = some (.string tx) := blk_cell hp3 4; have hlt3 := blk_lt hp3; have hj3 := HJ.out.later ((below_new1 wr _).trans (hb3.mono (by rw [size_new1]; omega))); have HJ3 := Lib.hid hj3; clear hb3 hp3 hj3)
                | (go_at_call 14; (with_reducible refine (TW.out _ HJ3.out.below).mono ?_); rintro e w4 ⟨rfl, hb4⟩; have HJ4 := Lib.hid (HJ3.out.later hb4); clear hb4)
                | (at_builtin; refine Lib.wpList_append_own_string _ rfl _ _ 23 9 rfl w.heap.size 5 i0 Tryd.underlying23 Tryd.underlying9 Hi.out Hz0.out Hz1.out Hz2.out (.slice A m c) m (byteVals (sayL f b (l.take k))) rfl ?h0 S rfl ?h1 ?h2 ?h3 ?_))
              case h0 => exact HJ4.out.1
              case h1 => simp only [maxLen]; omega
              case h2 => omega
              case h3 => exact HJ4.out.2.2.size
              intro v' w5 hown' hg' _
              obtain ⟨A', c', rfl, _⟩ := own_slice hown'
              have HJ5 := Lib.hid (HJ4.out.push (t := (S).data.toList) (Below.refl _ w4) hg' hown')
              clear hown' hg'
              go_wp2
              go_roundg (n - (k + 1))
              case measure => have := hq.out; omega
              case rel => exact ⟨k + 1, m + (S).size, A', c', by go_num, rfl, by omega, by omega, rfl, by rw [HX.out, hsay.out]; exact HJ5.out, HA.out⟩
          · have b2 : ((kd.toNat : Int) != 2) = true := by rw [bne, u8_eqi kd 2 2 rfl, decide_eq_false hk2]; rfl
            have hsay : Hid (sayP f b ⟨kd, sd, lo, hi, tx⟩ = tx.data.toList) := by show _ = _; rw [sayP, if_neg hk0, if_pos hk2]
            clear hk0 hk2 hsl'
            go_wp2_with (first
              | (go_at_call 8; (with_reducible refine (MC.out _).mono ?_); rintro e w3 ⟨rfl, hb3⟩; have hp3 := blk_later HPB.out hb3 (by rw [size_new1]; omega); have k0 : w3.cell? ⟨wr.heap.size, 0, none⟩ = some (.int .u8 (kd.toNat : Int)) := blk_cell hp3 0; have k1 : w3.cell? ⟨wr.heap.size, 1, none⟩ = some (.int .u8 (sd.toNat : Int)) := blk_cell hp3 1; have k2 : w3.cell? ⟨wr.heap.size, 2, none⟩ = some (.int .i64 lo) := blk_cell hp3 2; have k3 : w3.cell? ⟨wr.heap.size, 3, none⟩ = some (.int .i64 hi) := blk_cell hp3 3; have k4 : w3.cell? ⟨wr.heap.size, 4, none⟩ = some (.string tx) := blk_cell hp3 4; have hlt3 := blk_lt hp3; have hj3 := HJ.out.later ((below_new1 wr _).trans (hb3.mono (by rw [size_new1]; omega))); have HJ3 := Lib.hid hj3; clear hb3 hp3 hj3)
              | (at_builtin; refine Lib.wpList_append_own_string _ rfl _ _ 23 9 rfl w.heap.size 5 i0 Tryd.underlying23 Tryd.underlying9 Hi.out Hz0.out Hz1.out Hz2.out (.slice A m c) m (byteVals (sayL f b (l.take k))) rfl ?h0 tx rfl ?h1 ?h2 ?h3 ?_))
            case h0 => exact HJ3.out.1
            case h1 => simp only [maxLen]; omega
            case h2 => omega
            case h3 => exact HJ3.out.2.2.size
            intro v' w5 hown' hg' _
            obtain ⟨A', c', rfl, _⟩ := own_slice hown'
            have HJ5 := Lib.hid (HJ3.out.push (t := (tx).data.toList) (Below.refl _ w3) hg' hown')
            clear hown' hg'
            go_wp2
            go_roundg (n - (k + 1))
            case measure => have := hq.out; omega
            case rel => exact ⟨k + 1, m + (tx).size, A', c', by go_num, rfl, by omega, by omega, rfl, by rw [HX.out, hsay.out]; exact HJ5.out, HA.out⟩
    · have hkn : k = l.length := by have := HN.out; omega
      have hj := HJ.out
      have hmy := HMay.out
      rw [hkn, List.take_length] at hj hmy
      have hlen : m = (sayL f b l).length := hj.1.len
      have hbs := hj.1.bs
      have hcp := hj.1.cap
      have HJE := Lib.hid hj; have HME := Lib.hid hmy; have HLE := Lib.hid hlen; have HBS := Lib.hid hbs
      clear hkn hj hmy hlen hbs
      go_wp2_with (go_at_call 15; (with_reducible refine (clip_is A m c hcp _).mono ?_); rintro e w2 ⟨rfl, rfl⟩)
      go_ret2
      exact ⟨by rw [HME.out]; exact ⟨A, m, rfl, HLE.out, HBS.out⟩, HJE.out.2.2⟩

end Go.Proofs.YtpafadfaphaoeaaDoor
