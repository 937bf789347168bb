/- The walk over the law PiecesParts; no statement of the seat is proved here. -/
import Derived.Test.YtpafadfaphaoeaaDoorPcF
namespace Go.Proofs.YtpafadfaphaoeaaDoor
open Go.RowKit

def cutP (A : Option Addr) (c lo : Nat) : Option Addr := if c = lo then A else A.map (·.add (lo * 5))
theorem run_pcs_h (A : Option Addr) (len cap hi : Nat) (h2 : hi ≤ cap) (w : World) :
    (Instr.slice 22 (.slice A len cap) none (some (.int .i64 (hi : Int))) none).run Tryd.prog w = .ok (.slice A hi cap) w := by
  have ht := Tryd.underlying22
  have ht' : Tryd.prog.underlying 22 = some (.slice (Tryd.prog.elem 22)) := by simp [Program.elem, ht]
  have he : Tryd.prog.elem 22 = 36 := by simp [Program.elem, ht]
  rw [run_slice_h w 22 _ _ _ ht' .i64 _ (by omega) (by omega), he, Tryd.sizeOf36]
  cases A <;> simp [Result.andThen, sliced, Addr.add]
theorem run_pcs_l (A : Option Addr) (len cap lo : Nat) (h2 : lo ≤ len) (w : World) (_hc : len ≤ cap) :
    (Instr.slice 22 (.slice A len cap) (some (.int .i64 (lo : Int))) none none).run Tryd.prog w = .ok (.slice (cutP A cap lo) (len - lo) (cap - lo)) w := by
  have ht := Tryd.underlying22
  have ht' : Tryd.prog.underlying 22 = some (.slice (Tryd.prog.elem 22)) := by simp [Program.elem, ht]
  have he : Tryd.prog.elem 22 = 36 := by simp [Program.elem, ht]
  rw [run_slice_l w 22 _ _ _ ht' .i64 _ (by omega) (by omega), he, Tryd.sizeOf36]
  simp [Result.andThen, sliced, cutP]
theorem PcM.cut {w : World} {A : Option Addr} {l : List Pc} (h : PcM w A l) {cap c : Nat} (hc : l.length ≤ cap) : PcM w (cutP A cap c) (l.drop c) := by
  rcases Nat.lt_or_ge c l.length with h1 | h1
  · obtain ⟨g, off, rfl, _⟩ := h 0 (by omega)
    have := h.drop c
    unfold cutP
    rw [if_neg (by omega)]
    simpa [add_plain] using this
  · intro j hj
    simp at hj; omega

/-- Join, both of its ways in one. -/
theorem join_one (f : Int) (hf : 0 ≤ f ∧ f < 256) (LA : Option Addr) (n cap : Nat) (l : List Pc) (hn : n = l.length) (d : Docs) (b : UInt8 → List UInt8) (hok : PcOk l d) (hbl : ∀ s, (b s).length ≤ 3000) (w : World) (hM : PcM w LA l) (hD : DocsIs w d b) (hT : T.Glob w) (hQ : Q.Glob w) (R : Bool) (hR : mayL l d = R) (t : List UInt8) (ht : (if R then sayL f b l else []) = t) (m : Nat) (hm : m = t.length) :
    Calls Tryd.prog 7 #[.int .u8 f, .slice LA n cap, .agg #[.slice d.a0 d.n0 d.c0, .slice d.a1 d.n1 d.c1, .slice d.a2 d.n2 d.c2]] w fun e w' => ∃ A, e = .returned (.tuple #[.slice A m m, .bool R]) ∧ BS w' w'.heap.size A t ∧ Below w.heap.size w w' := by
  refine (join_at f hf LA n cap l hn d b hok hbl w hM hD hT hQ).mono ?_
  rintro e w' ⟨h, hb⟩
  unfold JoinRes at h
  rw [hR] at h
  subst hm ht
  cases R
  · simp only [Bool.false_eq_true, if_false] at h ⊢
    exact ⟨none, h, BS.nil _ _ _, hb⟩
  · simp only [if_true] at h ⊢
    obtain ⟨A, k, h, rfl, hB⟩ := h
    exact ⟨A, h, hB, hb⟩

theorem may_cut (l : List Pc) (d : Docs) (c : Nat) : mayL l d = (mayL (l.take c) d && mayL (l.drop c) d) := by
  unfold mayL
  rw [← List.all_append, List.take_append_drop]
theorem say_cut (f : Int) (b : UInt8 → List UInt8) (l : List Pc) (c : Nat) : sayL f b l = sayL f b (l.take c) ++ sayL f b (l.drop c) := by
  unfold sayL
  rw [← List.flatMap_append, List.take_append_drop]
theorem PcOk.sub {l l' : List Pc} {d : Docs} (h : PcOk l d) (hl : l'.length ≤ l.length) (hs : ∀ p ∈ l', p ∈ l) : PcOk l' d := ⟨by have := h.most; omega, fun p hp => h.txt p (hs p hp), h.docs⟩
theorem tsize {f : Int} {b : UInt8 → List UInt8} {l : List Pc} {d : Docs} (hok : PcOk l d) (hbl : ∀ s, (b s).length ≤ 3000) (R : Bool) : (if R then sayL f b l else []).length ≤ 60000000 := by
  have := sayL_len (f := f) hbl l hok.txt
  have := hok.most
  split
  · have h2 : 20000 * l.length ≤ 20000 * 3000 := Nat.mul_le_mul_left _ this
    omega
  · simp

set_option maxRecDepth 100000 in
set_option maxHeartbeats 8000000 in
theorem partslaw_walk (f : Int) (hf : 0 ≤ f ∧ f < 256) (LA : Option Addr) (n cap : Nat) (l : List Pc) (hn : n = l.length) (hcap : n ≤ cap) (hnn : n ≤ 140737488355328) (d : Docs) (h0 : d.n0 ≤ 140737488355328) (h1 : d.n1 ≤ 140737488355328) (h2 : d.n2 ≤ 140737488355328) (ht : ∀ p ∈ l, p.txt.size ≤ 140737488355328)
    (b : UInt8 → List UInt8) (hb3 : ∀ s : UInt8, 3 ≤ s.toNat → b s = []) (w : World) (hM : PcM w LA l) (hD : DocsIs w d b) (hT : T.Glob w) (hQ : Q.Glob w) :
    Calls Tryd.prog 3 #[.int .u8 f, .slice LA n cap, .agg d.cells] w fun e w' => e = .returned (.bool true) ∧ Below w.heap.size w w' := by
  have gc := fun W (hb : Below w.heap.size w W) => great_is LA n cap l hn hnn d h0 h1 h2 ht W (hM.keep hb (Nat.le_refl _))
  have LV := Lib.hid (fun W (hb : Below w.heap.size w W) => lives_any W (hT.keep hb (Nat.le_refl _)) (hQ.keep hb (Nat.le_refl _)))
  by_cases hbig : 3000 ≤ bulk l d
  · have e1 : decide (3000 ≤ bulk l d) = true := decide_eq_true hbig
    rw [e1] at gc
    have GC := Lib.hid gc
    clear gc hM hD hT hQ hn ht hb3 h0 h1 h2 hbig e1
    unfold Docs.cells at GC ⊢
    go_enter Tryd.func3, Tryd.ntmps3
    go_wp2_with (first
      | (go_at_call 5; (with_reducible refine (GC.out _ (below_new1 w _)).mono ?_); rintro e w1 ⟨rfl, hb1⟩; have HB1 := Lib.hid (Below.on (below_new1 w _) hb1); clear hb1)
      | (go_at_call 6; (with_reducible refine (LV.out _ HB1.out).mono ?_); rintro e w2 ⟨rfl, hb2⟩))
    go_ret
    exact ⟨rfl, Below.on HB1.out hb2⟩
  · have e1 : decide (3000 ≤ bulk l d) = false := decide_eq_false hbig
    rw [e1] at gc
    have GC := Lib.hid gc
    have hok := PcOk.of (by omega : bulk l d < 3000)
    have hbl : ∀ s, (b s).length ≤ 3000 := by
      intro s
      rcases Nat.lt_or_ge s.toNat 3 with h3 | h3
      · obtain ⟨_, k, _, _, hk, hk2, _⟩ := hD.at_ s h3
        have := hok.docs s; omega
      · rw [hb3 s h3]; simp
    obtain ⟨c, hc⟩ : ∃ c, c = n / 2 := ⟨_, rfl⟩
    have hcn : c ≤ n := by omega
    have hq : ((n : Int)).tdiv 2 = (c : Int) := by rw [hc]; rfl
    obtain ⟨R, hR⟩ : ∃ R, mayL l d = R := ⟨_, rfl⟩
    obtain ⟨R1, hR1⟩ : ∃ R, mayL (l.take c) d = R := ⟨_, rfl⟩
    obtain ⟨R2, hR2⟩ : ∃ R, mayL (l.drop c) d = R := ⟨_, rfl⟩
    have hRR : R = (R1 && R2) := by rw [← hR, ← hR1, ← hR2]; exact may_cut l d c
    obtain ⟨t, het⟩ : ∃ t, (if R then sayL f b l else []) = t := ⟨_, rfl⟩
    obtain ⟨t1, het1⟩ : ∃ t, (if R1 then sayL f b (l.take c) else []) = t := ⟨_, rfl⟩
    obtain ⟨t2, het2⟩ : ∃ t, (if R2 then sayL f b (l.drop c) else []) = t := ⟨_, rfl⟩
    obtain ⟨m, hm⟩ : ∃ m, m = t.length := ⟨_, rfl⟩
    obtain ⟨m1, hm1⟩ : ∃ m, m = t1.length := ⟨_, rfl⟩
    obtain ⟨m2, hm2⟩ : ∃ m, m = t2.length := ⟨_, rfl⟩
    have hok1 : PcOk (l.take c) d := hok.sub (by simp; omega) fun p hp => List.mem_of_mem_take hp
    have hok2 : PcOk (l.drop c) d := hok.sub (by simp) fun p hp => List.mem_of_mem_drop hp
    have hs1 : m1 ≤ 60000000 := by rw [hm1, ← het1]; exact tsize hok1 hbl R1
    have hs2 : m2 ≤ 60000000 := by rw [hm2, ← het2]; exact tsize hok2 hbl R2
    have hs0 : m ≤ 60000000 := by rw [hm, ← het]; exact tsize hok hbl R
    have htt : R = true → t1 ++ t2 = t := by
      intro h
      have h12 : R1 = true ∧ R2 = true := by rw [h] at hRR; simpa using hRR.symm
      rw [← het, ← het1, ← het2, h, h12.1, h12.2]
      simp only [if_true]
      exact (say_cut f b l c).symm
    have htf : R = false → m = 0 := by
      intro h; rw [hm, ← het, h]; rfl
    have J0 := Lib.hid (fun W (hb : Below w.heap.size w W) => join_one f hf LA n cap l hn d b hok hbl W (hM.keep hb (Nat.le_refl _)) (hD.later hb) (hT.keep hb (Nat.le_refl _)) (hQ.keep hb (Nat.le_refl _)) R hR t het m hm)
    have J1 := Lib.hid (fun W (hb : Below w.heap.size w W) => join_one f hf LA c cap (l.take c) (by simp; omega) d b hok1 hbl W ((hM.keep hb (Nat.le_refl _)).take c) (hD.later hb) (hT.keep hb (Nat.le_refl _)) (hQ.keep hb (Nat.le_refl _)) R1 hR1 t1 het1 m1 hm1)
    have J2 := Lib.hid (fun W (hb : Below w.heap.size w W) => join_one f hf (cutP LA cap c) (n - c) (cap - c) (l.drop c) (by simp; omega) d b hok2 hbl W ((hM.keep hb (Nat.le_refl _)).cut (by omega)) (hD.later hb) (hT.keep hb (Nat.le_refl _)) (hQ.keep hb (Nat.le_refl _)) R2 hR2 t2 het2 m2 hm2)
    have HM := Lib.hid hM; have HK := Lib.hid hok; have HN := Lib.hid hn; have HRd := Lib.hid hR; have HRR := Lib.hid hRR; have HTT := Lib.hid htt; have HTF := Lib.hid htf; have HM0 := Lib.hid hm; have HM1 := Lib.hid hm1; have HM2 := Lib.hid hm2
    have SH := Lib.hid (fun W => run_pcs_h LA n cap c (by omega) W)
    have SL := Lib.hid (fun W => run_pcs_l LA n cap c hcn W hcap)
    clear gc hM hD hT hQ hn ht hb3 h0 h1 h2 hbig e1 hok hok1 hok2 hbl hR hR1 hR2 hRR het het1 het2 hm hm1 hm2 htt htf hc
    have HBX := Lib.hid (heap_new1 w (.cells d.cells 24))
    unfold Docs.cells at GC HBX ⊢
    go_enter Tryd.func3, Tryd.ntmps3
    go_wp2_with (first
      | (go_at_call 5; (with_reducible refine (GC.out _ (below_new1 w _)).mono ?_); rintro e w1 ⟨rfl, hb1⟩; have HB1 := Lib.hid (Below.on (below_new1 w _) hb1); have hx := blk_later HBX.out hb1 (by rw [size_new1]; omega); have x0 := blk_cell hx 0; have x1 := blk_cell hx 1; have x2 := blk_cell hx 2; have HX1 := Lib.hid hx; clear hb1 hx)
      | (go_at_call 7; (with_reducible refine (J0.out _ HB1.out).mono ?_); rintro e w2 ⟨A, rfl, hB, hb2⟩; have HB2 := Lib.hid (Below.on HB1.out hb2); have HX2 := Lib.hid (blk_later HX1.out hb2 (blk_lt HX1.out)); have HA2 := Lib.hid hB; clear hB hb2 x0 x1 x2))
    go_loopg [10, 11] n (fun q s10 s11 wr => ∃ (k : Nat), s11 = .int .i64 (k : Int) ∧ s10 = .bool (mayL (l.take k) d) ∧ k ≤ n ∧ Hid (q = n - k) ∧ Hid (Below w2.heap.size w2 wr))
    case atStart => exact ⟨0, rfl, rfl, by omega, by show _ = _; omega, Lib.hid (Below.refl _ _)⟩
    case round =>
      obtain ⟨k, rfl, rfl, hk, hq, HW⟩ := hrel
      have hxr := blk_later HX2.out HW.out (blk_lt HX2.out)
      have hbr := Below.on HB2.out HW.out
      by_cases hlt : k < n
      · have hkl : k < l.length := by have := HN.out; omega
        obtain ⟨g, off, rfl, hg, hc⟩ := (HM.out.keep hbr (Nat.le_refl _)) k hkl
        have hal := all_take l d k hkl
        have htx := HK.out.txt l[k] (List.getElem_mem hkl)
        obtain ⟨⟨kd, sd, lo, hi, tx⟩, hp⟩ : ∃ p, l[k] = p := ⟨_, rfl⟩
        rw [hp] at hc hal htx
        have p0 := later_cell (show wr.cell? ⟨g, off + k * 5, none⟩ = some (.int .u8 (kd.toNat : Int)) from hc 0 (by omega))
        have p1 := later_cell (show wr.cell? ⟨g, off + k * 5 + 1, none⟩ = some (.int .u8 (sd.toNat : Int)) from hc 1 (by omega))
        have p2 := later_cell (show wr.cell? ⟨g, off + k * 5 + 2, none⟩ = some (.int .i64 lo) from hc 2 (by omega))
        have p3 := later_cell (show wr.cell? ⟨g, off + k * 5 + 3, none⟩ = some (.int .i64 hi) from hc 3 (by omega))
        have p4 := later_cell (show wr.cell? ⟨g, off + k * 5 + 4, none⟩ = some (.string tx) from hc 4 (by omega))
        have q0 := later_cell (show wr.cell? ⟨w.heap.size, 0, none⟩ = some (.slice d.a0 d.n0 d.c0) from blk_cell hxr 0)
        have q1 := later_cell (show wr.cell? ⟨w.heap.size, 1, none⟩ = some (.slice d.a1 d.n1 d.c1) from blk_cell hxr 1)
        have q2 := later_cell (show wr.cell? ⟨w.heap.size, 2, none⟩ = some (.slice d.a2 d.n2 d.c2) from blk_cell hxr 2)
        have mc := fun w => may_at f kd sd lo hi tx (by have : tx.size ≤ 3000 := htx; omega) d w
        obtain ⟨r, hr⟩ : ∃ r, mayP ⟨kd, sd, lo, hi, tx⟩ d = r := ⟨_, rfl⟩
        rw [hr] at mc hal
        unfold Docs.cells at mc
        have MC := Lib.hid mc
        obtain ⟨fk, hfk⟩ : ∃ r, mayL (l.take k) d = r := ⟨_, rfl⟩
        rw [hfk] at hal ⊢
        have HA := Lib.hid hal
        have C1 : Hid (∀ m : Later wr, Calls Tryd.prog 8 #[.int .u8 f, .agg #[.int .u8 (kd.toNat : Int), .int .u8 (sd.toNat : Int), .int .i64 lo, .int .i64 hi, .string tx], .agg #[.slice d.a0 d.n0 d.c0, .slice d.a1 d.n1 d.c1, .slice d.a2 d.n2 d.c2]] m.at_ fun e w'' => e = .returned (.bool r) ∧ ∃ m' : Later wr, w'' = m'.at_) := fun m => (MC.out m.at_).mono fun e w'' ⟨h1, h2⟩ => ⟨h1, ⟨w'', m.below.trans (h2.mono m.below.size)⟩, rfl⟩
        have hfr : mayL (l.take (k + 1)) d = (fk && r) := HA.out
        clear hc hp hal htx mc hr hfk hkl hxr hbr MC
        have HFR := Lib.hid hfr
        clear hfr
        cases fk
        all_goals (
          go_wp2
          refine wp_region_later wr (by kernel_rfl) (by kernel_rfl) (Below.refl _ _) ?_
          repeat (go_big_quiet_step ((go_at_call 8; exact C1.out _)))
          refine wpQuiet_nil ?_
          intro w3 hw3
          obtain ⟨⟨w4, hb3⟩, e4⟩ := hw3
          have e5 : w3 = w4 := e4
          subst e5
          clear e4
          go_wp2
          go_roundg (n - (k + 1))
          case measure => have := hq.out; omega
          case rel => exact ⟨k + 1, by go_num, by rw [HFR.out]; try rfl, by omega, rfl, Below.on HW.out hb3⟩)
      · have hkn : k = l.length := by have := HN.out; omega
        have hfin : mayL (l.take k) d = R := by rw [hkn, List.take_length]; exact HRd.out
        rw [hfin]
        have HBR := Lib.hid hbr; have HXR := Lib.hid hxr
        clear hkn hfin hxr hbr
        cases R
        all_goals (
          go_wp2
          have q0 : wr.drew.cell? ⟨w.heap.size, 0, none⟩ = some (.slice d.a0 d.n0 d.c0) := blk_cell HXR.out 0
          have q1 : wr.drew.cell? ⟨w.heap.size, 1, none⟩ = some (.slice d.a1 d.n1 d.c1) := blk_cell HXR.out 1
          have q2 : wr.drew.cell? ⟨w.heap.size, 2, none⟩ = some (.slice d.a2 d.n2 d.c2) := blk_cell HXR.out 2
          have sh := SH.out
          have HBD := Lib.hid (Below.drew HBR.out)
          have hxd : wr.drew.heap[w.heap.size]? = some (.cells #[.slice d.a0 d.n0 d.c0, .slice d.a1 d.n1 d.c1, .slice d.a2 d.n2 d.c2] 24 (0, 0)) := HXR.out
          have HXD := Lib.hid hxd
          clear hxd
          go_region_law (go_simp; (refine (J1.out _ HBD.out).mono ?_); rintro e w3 ⟨A3, rfl, hB, hb3⟩; have HB3 := Lib.hid (Below.on HBD.out hb3); have HX3 := Lib.hid (blk_later HXD.out hb3 (blk_lt HXD.out)); have HA3 := Lib.hid hB; have HW3 := Lib.hid hb3; clear hB hb3)
          clear q0 q1 q2 sh
          go_wp2
          have q0 : w3.drew.cell? ⟨w.heap.size, 0, none⟩ = some (.slice d.a0 d.n0 d.c0) := blk_cell HX3.out 0
          have q1 : w3.drew.cell? ⟨w.heap.size, 1, none⟩ = some (.slice d.a1 d.n1 d.c1) := blk_cell HX3.out 1
          have q2 : w3.drew.cell? ⟨w.heap.size, 2, none⟩ = some (.slice d.a2 d.n2 d.c2) := blk_cell HX3.out 2
          have sl := SL.out
          have HBE := Lib.hid (Below.drew HB3.out)
          go_region_law (go_simp; (refine (J2.out _ HBE.out).mono ?_); rintro e w4 ⟨A4, rfl, hB, hb4⟩; have HB4 := Lib.hid (Below.on HBE.out hb4); have HA4 := Lib.hid hB; have hl : Below w3.heap.size w3 w4 := (Below.drew (Below.refl _ _)).trans hb4; have HW4 := Lib.hid hl; clear hB hb4 hl)
          clear q0 q1 q2 sl)
        · have hm0 : m = 0 := HTF.out trivial
          subst hm0
          have hr12 : (R1 && R2) = false := HRR.out.symm
          cases R1 <;> cases R2
          case true.true => cases hr12
          all_goals (
            go_wp2_with (go_at_call 6; (with_reducible refine (LV.out _ HB4.out).mono ?_); rintro e w5 ⟨rfl, hb5⟩)
            go_ret
            exact ⟨rfl, Below.on HB4.out hb5⟩)
        · have hr12 : R1 = true ∧ R2 = true := by have := HRR.out; simpa using this.symm
          obtain ⟨rfl, rfl⟩ := hr12
          have b34 := HW4.out
          have b24 : Below w2.heap.size w2 w4 := Below.on (Below.on HW.out.drew HW3.out) b34
          have cA : (convert 23 9 (.slice A m m)).run Tryd.prog w4 = .ok (.string ⟨t.toArray⟩) w4 := by
            have := conv_bs (P := Tryd.prog) w4 23 9 5 Tryd.underlying23 Tryd.underlying5 Tryd.underlying9 (HA2.out.later b24) m
            rwa [← HM0.out] at this
          have cX : (convert 23 9 (.slice A3 m1 m1)).run Tryd.prog w4 = .ok (.string ⟨t1.toArray⟩) w4 := by
            have := conv_bs (P := Tryd.prog) w4 23 9 5 Tryd.underlying23 Tryd.underlying5 Tryd.underlying9 (HA3.out.later b34) m1
            rwa [← HM1.out] at this
          have cY : (convert 23 9 (.slice A4 m2 m2)).run Tryd.prog w4 = .ok (.string ⟨t2.toArray⟩) w4 := by
            have := conv_bs (P := Tryd.prog) w4 23 9 5 Tryd.underlying23 Tryd.underlying5 Tryd.underlying9 HA4.out m2
            rwa [← HM2.out] at this
          obtain ⟨S1, hS1⟩ : ∃ S : ByteArray, S = ⟨t1.toArray⟩ := ⟨_, rfl⟩
          obtain ⟨S2, hS2⟩ : ∃ S : ByteArray, S = ⟨t2.toArray⟩ := ⟨_, rfl⟩
          have hS : (⟨t.toArray⟩ : ByteArray) = S1 ++ S2 := by
            rw [hS1, hS2, ← HTT.out trivial]
            apply ByteArray.ext
            simp [ByteArray.data_append]
          have z1 : S1.size ≤ 60000000 := by rw [hS1]; have := HM1.out; show t1.toArray.size ≤ _; simp; omega
          have z2 : S2.size ≤ 60000000 := by rw [hS2]; have := HM2.out; show t2.toArray.size ≤ _; simp; omega
          rw [hS] at cA; rw [← hS1] at cX; rw [← hS2] at cY
          clear hS hS1 hS2 b24 b34
          go_wp2_with (go_at_call 6; (with_reducible refine (LV.out _ HB4.out).mono ?_); rintro e w5 ⟨rfl, hb5⟩)
          go_ret
          exact ⟨rfl, Below.on HB4.out hb5⟩

end Go.Proofs.YtpafadfaphaoeaaDoor
