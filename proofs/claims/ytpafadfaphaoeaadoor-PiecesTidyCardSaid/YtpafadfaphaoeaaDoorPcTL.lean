/- The walk over the law PiecesTidy; no statement of the seat is proved here. -/
import Derived.Test.YtpafadfaphaoeaaDoorPcH
import Derived.Test.YtpafadfaphaoeaaDoorPcX
import Derived.Test.YtpafadfaphaoeaaDoorPcW
import Derived.Test.YtpafadfaphaoeaaDoorPcY
import Derived.Test.YtpafadfaphaoeaaDoorPcZ
import Derived.Test.YtpafadfaphaoeaaDoorPcEq
namespace Go.Proofs.YtpafadfaphaoeaaDoor
open Go.RowKit

theorem blk_set {w : World} {b x i : Nat} {o : Obj} (hb : w.heap[b]? = some o) (hne : x ≠ b) {v : Value} : (w.setCell ⟨x, i, none⟩ v).heap[b]? = some o := by
  simp [World.setCell, Array.getElem?_modify, hne, hb]
theorem run_pcs_lh (A : Option Addr) (len cap lo hi : Nat) (h1 : lo ≤ hi) (h2 : hi ≤ cap) (w : World) :
    (Instr.slice 22 (.slice A len cap) (some (.int .i64 (lo : Int))) (some (.int .i64 (hi : Int))) none).run Tryd.prog w = .ok (.slice (cutP A cap lo) (hi - lo) (cap - lo)) w := by
  have ht := Tryd.underlying22
  have ht' : Tryd.prog.underlying 22 = some (.slice (Tryd.prog.elem 22)) := by simp [Program.elem, ht]
  have he : Tryd.prog.elem 22 = 36 := by simp [Program.elem, ht]
  rw [run_slice_lh w 22 _ _ _ ht' .i64 .i64 _ _ (by omega) (by omega) (by omega), he, Tryd.sizeOf36]
  simp [Result.andThen, sliced, cutP]
set_option maxRecDepth 100000 in
set_option maxHeartbeats 16000000 in
theorem tidylaw_walk (f : Int) (hf : 0 ≤ f ∧ f < 256) (LA : Option Addr) (n cap : Nat) (l : List Pc) (hn : n = l.length) (_hcap : n ≤ cap) (hnn : n ≤ 140737488355328) (d : Docs) (h0 : d.n0 ≤ 140737488355328) (h1 : d.n1 ≤ 140737488355328) (h2 : d.n2 ≤ 140737488355328) (ht : ∀ p ∈ l, p.txt.size ≤ 140737488355328)
    (b : UInt8 → List UInt8) (hb3 : ∀ s : UInt8, 3 ≤ s.toNat → b s = []) (w : World) (hM : PcM w LA l) (hD : DocsIs w d b) (hT : T.Glob w) (hQ : Q.Glob w) :
    Calls Tryd.prog 4 #[.int .u8 f, .slice LA n cap, .agg d.cells] w fun e w' => e = .returned (.bool true) ∧ Below w.heap.size w w' := by
  have gc := fun W (hb : Below w.heap.size w W) => great_is LA n cap l hn hnn d h0 h1 h2 ht W (hM.keep hb (Nat.le_refl _))
  have LV := Lib.hid (fun W (hb : Below w.heap.size w W) => lives_any W (hT.keep hb (Nat.le_refl _)) (hQ.keep hb (Nat.le_refl _)))
  by_cases hbig : 3000 ≤ bulk l d
  · have e1 : decide (3000 ≤ bulk l d) = true := decide_eq_true hbig
    rw [e1] at gc
    have GC := Lib.hid gc
    clear gc hM hD hT hQ hn ht hb3 h0 h1 h2 hbig e1
    unfold Docs.cells at GC ⊢
    go_enter Tryd.func4, Tryd.ntmps4
    go_wp2_with (first
      | (go_at_call 5; (with_reducible refine (GC.out _ (below_new1 w _)).mono ?_); rintro e w1 ⟨rfl, hb1⟩; have HB1 := Lib.hid (Below.on (below_new1 w _) hb1); clear hb1)
      | (go_at_call 6; (with_reducible refine (LV.out _ HB1.out).mono ?_); rintro e w2 ⟨rfl, hb2⟩))
    go_ret
    exact ⟨rfl, Below.on HB1.out hb2⟩
  · have e1 : decide (3000 ≤ bulk l d) = false := decide_eq_false hbig
    rw [e1] at gc
    have GC := Lib.hid gc
    have hbk : bulk l d < 3000 := by omega
    have hok := PcOk.of hbk
    have hsp : sumP l < 3000 := by unfold bulk at hbk; omega
    have hbl : ∀ s, (b s).length ≤ 3000 := by
      intro s
      rcases Nat.lt_or_ge s.toNat 3 with h3 | h3
      · obtain ⟨_, k, _, _, hk, hk2, _⟩ := hD.at_ s h3
        have := hok.docs s; omega
      · rw [hb3 s h3]; simp
    have hbd : ∀ s : UInt8, s.toNat < 3 → (b s).length = d.len s := by
      intro s h3
      obtain ⟨_, k, _, _, hk, hk2, _⟩ := hD.at_ s h3
      omega
    obtain ⟨tl, htl⟩ : ∃ tl, tidyL l = tl := ⟨_, rfl⟩
    have hst : sumP tl < 3000 := by
      have := sumP_tidy l l.length (Nat.le_refl _)
      rw [List.take_length] at this
      rw [← htl, tidyL, sumP_rev]; omega
    have hagain : tidyL tl = tl := by rw [← htl]; exact tidy_again l
    have hokt : PcOk tl d := ⟨by have := sumP_len tl; omega, fun p hp => by have := sumP_mem tl p hp; omega, hok.docs⟩
    obtain ⟨m, hm⟩ : ∃ m, m = tl.length := ⟨_, rfl⟩
    have hm1 : m ≤ 3000 := by have := hokt.most; omega
    obtain ⟨R, hR⟩ : ∃ R, mayL l d = R := ⟨_, rfl⟩
    obtain ⟨t, het⟩ : ∃ t, (if R then sayL f b l else []) = t := ⟨_, rfl⟩
    obtain ⟨u, hu⟩ : ∃ u, u = t.length := ⟨_, rfl⟩
    have hs0 : u ≤ 60000000 := by rw [hu, ← het]; exact tsize hok hbl R
    have J0 := Lib.hid (fun W (hb : Below w.heap.size w W) => join_one f hf LA n cap l hn d b hok hbl W (hM.keep hb (Nat.le_refl _)) (hD.later hb) (hT.keep hb (Nat.le_refl _)) (hQ.keep hb (Nat.le_refl _)) R hR t het u hu)
    have TY := Lib.hid (fun W (hb : Below w.heap.size w W) => tidy_is LA n cap l hn hsp W (hM.keep hb (Nat.le_refl _)))
    rw [htl] at TY
    have TT := Lib.hid (fun (A : Option Addr) (c : Nat) W (hA : PcM W A tl) => tidy_is A m c tl hm hst W hA)
    rw [hagain] at TT
    have OT := Lib.hid (fun (A : Option Addr) (c : Nat) W (hA : PcM W A tl) => other_is A m c tl hm hm1 W hA)
    have SM := Lib.hid (fun (A B : Option Addr) (ca cb : Nat) W (hA : PcM W A tl) (hB : OcM W B tl) => same_is A B m ca cb tl hm hm1 W hA hB)
    have HM := Lib.hid hm; have HN := Lib.hid hn; have HMM := Lib.hid hM
    have HU := Lib.hid hu; have HET := Lib.hid het
    clear gc hM hn ht h0 h1 h2 hbig e1 hbk hm hu het
    have HBX := Lib.hid (heap_new1 w (.cells d.cells 24))
    unfold Docs.cells at GC HBX ⊢
    go_enter Tryd.func4, Tryd.ntmps4
    cases R
    · have hu0 : u = 0 := by rw [HU.out, ← HET.out]; rfl
      subst hu0
      go_wp2_with (first
        | (go_at_call 5; (with_reducible refine (GC.out _ (below_new1 w _)).mono ?_); rintro e w1 ⟨rfl, hb1⟩; have HB1 := Lib.hid (Below.on (below_new1 w _) hb1); have hx := blk_later HBX.out hb1 (by rw [size_new1]; omega); have x0 := blk_cell hx 0; have x1 := blk_cell hx 1; have x2 := blk_cell hx 2; have HX1 := Lib.hid hx; clear hb1 hx)
        | (go_at_call 7; (with_reducible refine (J0.out _ HB1.out).mono ?_); rintro e w2 ⟨A, rfl, hB, hb2⟩; have HB2 := Lib.hid (Below.on HB1.out hb2); have HX2 := Lib.hid (blk_later HX1.out hb2 (blk_lt HX1.out)); have HA2 := Lib.hid hB; clear hB hb2 x0 x1 x2)
        | (have _z := HP3; have _y := HO5; go_at_call 10; (with_reducible refine (SM.out A4 A5 _ _ _ HP4.out HO5.out).mono ?_); rintro e w6 ⟨rfl, hb6⟩; have HB6 := Lib.hid (Below.on HB5.out hb6); clear hb6)
        | (have _z := HP4; go_at_call 11; (with_reducible refine (OT.out A3 _ _ HP3.out).mono ?_); rintro e w5 ⟨⟨A5, c5, rfl, hO5⟩, hb5⟩; have HO5 := Lib.hid hO5; have HB5 := Lib.hid (Below.on HB4.out hb5); replace HP4 := Lib.hid (HP4.out.keep hb5 (Nat.le_refl _)); replace HP3 := Lib.hid (HP3.out.keep hb5 (Nat.le_refl _)); clear hb5 hO5)
        | (have _z := HP3; go_at_call 9; (with_reducible refine (TT.out A3 _ _ HP3.out).mono ?_); rintro e w4 ⟨A4, m4, rfl, hm4, hP4, hb4⟩; obtain rfl : m = m4 := HM.out.trans hm4.symm; have HP4 := Lib.hid hP4; have HB4 := Lib.hid (Below.on HB3.out hb4); replace HP3 := Lib.hid (HP3.out.keep hb4 (Nat.le_refl _)); clear hb4 hP4 hm4)
        | (go_at_call 9; (with_reducible refine (TY.out _ HB2.out).mono ?_); rintro e w3 ⟨A3, m3, rfl, hm3, hP3, hb3⟩; obtain rfl : m = m3 := HM.out.trans hm3.symm; have HP3 := Lib.hid hP3; have HB3 := Lib.hid (Below.on HB2.out hb3); clear hb3 hP3 hm3)
        | (go_at_call 6; (with_reducible refine (LV.out _ HB6.out).mono ?_); rintro e w7 ⟨rfl, hb7⟩))
      go_ret
      exact ⟨rfl, Below.on HB6.out hb7⟩
    · have hmt : mayL tl d = true := by rw [← htl]; exact tidy_may hR
      have het1 : (if true then sayL f b tl else []) = t := by rw [← HET.out, ← htl]; simp only [if_true]; exact tidy_say hbd hR
      have hcv : cnV tl = cnV l := by unfold cnV; rw [← htl, tidy_cn hR, tidy_cn hR, tidy_cn hR]
      have hlen := sumP_len l
      have J1 := Lib.hid (fun (A : Option Addr) (c : Nat) W (hA : PcM W A tl) (hb : Below w.heap.size w W) => join_one f hf A m c tl HM.out d b hokt hbl W hA (hD.later hb) (hT.keep hb (Nat.le_refl _)) (hQ.keep hb (Nat.le_refl _)) true hmt t het1 u HU.out)
      have CL := Lib.hid (fun W (hb : Below w.heap.size w W) => count_is LA n cap l HN.out (by have := HN.out; omega) d hok.docs hR W (HMM.out.keep hb (Nat.le_refl _)))
      have CT := Lib.hid (fun (A : Option Addr) (c : Nat) W (hA : PcM W A tl) => count_is A m c tl HM.out hm1 d hokt.docs hmt W hA)
      rw [← hcv] at CL
      obtain ⟨z0, hz0⟩ : ∃ z, cnL 0 tl = z := ⟨_, rfl⟩
      obtain ⟨z1, hz1⟩ : ∃ z, cnL 1 tl = z := ⟨_, rfl⟩
      obtain ⟨z2, hz2⟩ : ∃ z, cnL 2 tl = z := ⟨_, rfl⟩
      have hV : cnV tl = #[.int .i64 (z0 : Int), .int .i64 (z1 : Int), .int .i64 (z2 : Int)] := by unfold cnV; rw [hz0, hz1, hz2]
      rw [hV] at CL CT
      have HZ0 := Lib.hid hz0; have HZ1 := Lib.hid hz1; have HZ2 := Lib.hid hz2; have HMT := Lib.hid hmt; have HOKT := Lib.hid hokt
      have hcvt : ∀ (W : World) (X : Option Addr), BS W W.heap.size X t → (convert 23 9 (.slice X u u)).run Tryd.prog W = .ok (.string ⟨t.toArray⟩) W := fun W X h => by
        have := conv_bs (P := Tryd.prog) W 23 9 5 Tryd.underlying23 Tryd.underlying5 Tryd.underlying9 h u
        rwa [← HU.out] at this
      have CV := Lib.hid hcvt
      have heq := arr_eq z0 z1 z2
      clear hmt het1 hcv hlen hV hz0 hz1 hz2 hcvt
      go_wp2_with (first
        | (go_at_call 5; (with_reducible refine (GC.out _ (below_new1 w _)).mono ?_); rintro e w1 ⟨rfl, hb1⟩; have HB1 := Lib.hid (Below.on (below_new1 w _) hb1); have hx := blk_later HBX.out hb1 (by rw [size_new1]; omega); have x0 := blk_cell hx 0; have x1 := blk_cell hx 1; have x2 := blk_cell hx 2; have HX1 := Lib.hid hx; clear hb1 hx)
        | (have _z := HP8; go_at_call 12; (with_reducible refine (CT.out A3 _ _ HP8.out).mono ?_); rintro e w9 ⟨⟨o9, rfl⟩, hb9⟩; have hx13 := blk_later (heap_new1 w8 (.cells #[.int .i64 (z0 : Int), .int .i64 (z1 : Int), .int .i64 (z2 : Int)] 42)) hb9 (by rw [size_new1]; omega); have n0 : w9.cell? ⟨w8.heap.size, 0, none⟩ = some (.int .i64 (z0 : Int)) := blk_cell hx13 0; have n1 : w9.cell? ⟨w8.heap.size, 1, none⟩ = some (.int .i64 (z1 : Int)) := blk_cell hx13 1; have n2 : w9.cell? ⟨w8.heap.size, 2, none⟩ = some (.int .i64 (z2 : Int)) := blk_cell hx13 2; have hl8 := blk_lt hx13; have hb89 := (below_new1 w8 (.cells #[.int .i64 (z0 : Int), .int .i64 (z1 : Int), .int .i64 (z2 : Int)] 42)).trans (hb9.mono (by rw [size_new1]; omega)); have HB9 := Lib.hid (Below.on HB8.out hb89); replace HX2 := Lib.hid (blk_later HX2.out hb89 (blk_lt HX2.out)); replace HA2 := Lib.hid (HA2.out.later hb89); replace HA7 := Lib.hid (HA7.out.later hb89); have HP9 := Lib.hid (HP3.out.keep hb89 (Nat.le_refl _)); have cX := fun o => CV.out (w9.alloc o) A (HA2.out.later (below_new1 w9 o)); have cY := fun o => CV.out (w9.alloc o) A7 (HA7.out.later (below_new1 w9 o)); clear hb9 hx13 hb89)
        | (have _z := HB7; go_at_call 12; (with_reducible refine (CL.out _ HB7.out).mono ?_); rintro e w8 ⟨⟨o8, rfl⟩, hb8⟩; have HB8 := Lib.hid (Below.on HB7.out hb8); replace HX2 := Lib.hid (blk_later HX2.out hb8 (blk_lt HX2.out)); replace HA2 := Lib.hid (HA2.out.later hb8); replace HA7 := Lib.hid (HA7.out.later hb8); have HP8' := HP3.out.keep hb8 (Nat.le_refl _); have HP8 := Lib.hid (HP8'.keep (below_new1 w8 (.cells #[.int .i64 (z0 : Int), .int .i64 (z1 : Int), .int .i64 (z2 : Int)] 42)) (Nat.le_refl _)); replace HP3 := Lib.hid HP8'; clear hb8 HP8')
        | (have _z := HB6; go_at_call 7; (with_reducible refine (J1.out A3 _ _ HP3.out HB6.out).mono ?_); rintro e w7 ⟨A7, rfl, hB7, hb7⟩; have HB7 := Lib.hid (Below.on HB6.out hb7); have HA7 := Lib.hid hB7; replace HX2 := Lib.hid (blk_later HX2.out hb7 (blk_lt HX2.out)); replace HA2 := Lib.hid (HA2.out.later hb7); replace HP3 := Lib.hid (HP3.out.keep hb7 (Nat.le_refl _)); clear hb7 hB7 x0 x1 x2)
        | (go_at_call 7; (with_reducible refine (J0.out _ HB1.out).mono ?_); rintro e w2 ⟨A, rfl, hB, hb2⟩; have HB2 := Lib.hid (Below.on HB1.out hb2); have HX2 := Lib.hid (blk_later HX1.out hb2 (blk_lt HX1.out)); have HA2 := Lib.hid hB; clear hB hb2 x0 x1 x2)
        | (have _z := HP3; have _y := HO5; go_at_call 10; (with_reducible refine (SM.out A4 A5 _ _ _ HP4.out HO5.out).mono ?_); rintro e w6 ⟨rfl, hb6⟩; have HB6 := Lib.hid (Below.on HB5.out hb6); replace HX2 := Lib.hid (blk_later HX2.out hb6 (blk_lt HX2.out)); replace HA2 := Lib.hid (HA2.out.later hb6); replace HP3 := Lib.hid (HP3.out.keep hb6 (Nat.le_refl _)); have x0 := blk_cell HX2.out 0; have x1 := blk_cell HX2.out 1; have x2 := blk_cell HX2.out 2; clear hb6)
        | (have _z := HP4; go_at_call 11; (with_reducible refine (OT.out A3 _ _ HP3.out).mono ?_); rintro e w5 ⟨⟨A5, c5, rfl, hO5⟩, hb5⟩; have HO5 := Lib.hid hO5; have HB5 := Lib.hid (Below.on HB4.out hb5); replace HX2 := Lib.hid (blk_later HX2.out hb5 (blk_lt HX2.out)); replace HA2 := Lib.hid (HA2.out.later hb5); replace HP4 := Lib.hid (HP4.out.keep hb5 (Nat.le_refl _)); replace HP3 := Lib.hid (HP3.out.keep hb5 (Nat.le_refl _)); clear hb5 hO5)
        | (have _z := HP3; go_at_call 9; (with_reducible refine (TT.out A3 _ _ HP3.out).mono ?_); rintro e w4 ⟨A4, m4, rfl, hm4, hP4, hb4⟩; obtain rfl : m = m4 := HM.out.trans hm4.symm; have HP4 := Lib.hid hP4; have HB4 := Lib.hid (Below.on HB3.out hb4); replace HX2 := Lib.hid (blk_later HX2.out hb4 (blk_lt HX2.out)); replace HA2 := Lib.hid (HA2.out.later hb4); replace HP3 := Lib.hid (HP3.out.keep hb4 (Nat.le_refl _)); clear hb4 hP4 hm4)
        | (go_at_call 9; (with_reducible refine (TY.out _ HB2.out).mono ?_); rintro e w3 ⟨A3, m3, rfl, hm3, hP3, hb3⟩; obtain rfl : m = m3 := HM.out.trans hm3.symm; have HP3 := Lib.hid hP3; have HB3 := Lib.hid (Below.on HB2.out hb3); replace HX2 := Lib.hid (blk_later HX2.out hb3 (blk_lt HX2.out)); replace HA2 := Lib.hid (HA2.out.later hb3); clear hb3 hP3 hm3))
      clear cX cY n0 n1 n2 hl8
      have hI0 : ((w9.alloc (.cells #[.int .i64 (z0 : Int), .int .i64 (z1 : Int), .int .i64 (z2 : Int)] 42)).alloc (.cells #[.int .i64 0, .int .i64 0, .int .i64 0] 42)).heap[w9.heap.size + 1]? = some (.cells (cnV (tl.take 0)) 42 (0, 0)) := (heap_new2 w9 _ _).2
      have h50 : ((w9.alloc (.cells #[.int .i64 (z0 : Int), .int .i64 (z1 : Int), .int .i64 (z2 : Int)] 42)).alloc (.cells #[.int .i64 0, .int .i64 0, .int .i64 0] 42)).heap[w9.heap.size]? = some (.cells #[.int .i64 (z0 : Int), .int .i64 (z1 : Int), .int .i64 (z2 : Int)] 42) := (heap_new2 w9 _ _).1
      have HI0 := Lib.hid hI0; have H50 := Lib.hid h50; have HBW := Lib.hid (below_new2 w9 (.cells #[.int .i64 (z0 : Int), .int .i64 (z1 : Int), .int .i64 (z2 : Int)] 42) (.cells #[.int .i64 0, .int .i64 0, .int .i64 0] 42))
      clear hI0 h50
      go_loopg [18] m (fun q s18 wr => ∃ (k : Nat), s18 = .int .i64 (k : Int) ∧ k ≤ m ∧ Hid (q = m - k) ∧ Hid (Below w9.heap.size w9 wr) ∧ Hid (wr.heap[w9.heap.size]? = some (.cells #[.int .i64 (z0 : Int), .int .i64 (z1 : Int), .int .i64 (z2 : Int)] 42)) ∧ Hid (wr.heap[w9.heap.size + 1]? = some (.cells (cnV (tl.take k)) 42 (0, 0))))
      case atStart => exact ⟨0, rfl, by omega, by show _ = _; omega, HBW, H50, HI0⟩
      case round =>
        obtain ⟨k, rfl, hk, hq, HW, H5, H7⟩ := hrel
        by_cases hlt : k < m
        · have hkl : k < tl.length := by have := HM.out; omega
          have hmk : mayP tl[k] d = true := by have := HMT.out; unfold mayL at this; rw [List.all_eq_true] at this; exact this _ (List.getElem_mem hkl)
          have hek : emptyP tl[k] = false := tidy_mem (l := l) (by rw [htl]; exact List.getElem_mem hkl)
          have hpos := say_pos (f := f) hbd hek hmk
          obtain ⟨u1, hu1⟩ : ∃ u1, u1 = (sayP f b tl[k]).length := ⟨_, rfl⟩
          have hokk : PcOk [tl[k]] d := HOKT.out.sub (by simp; omega) (by intro p hp; rw [List.mem_singleton] at hp; subst hp; exact List.getElem_mem hkl)
          have hu2 : u1 ≤ 60000000 := by have := tsize (f := f) hokk hbl true; simp [sayL] at this; omega
          have JK := Lib.hid (fun W (hb : Below w9.heap.size w9 W) => join_one f hf (cutP A3 m k) 1 (m - k) [tl[k]] rfl d b hokk hbl W (by have := ((HP9.out.keep hb (Nat.le_refl _)).cut (cap := m) (c := k) (by rw [HM.out]; exact Nat.le_refl _)).take 1; rwa [show (tl.drop k).take 1 = [tl[k]] by rw [List.drop_eq_getElem_cons hkl]; rfl] at this) (hD.later (HB9.out.trans (hb.mono HB9.out.size))) (hT.keep (HB9.out.trans (hb.mono HB9.out.size)) (Nat.le_refl _)) (hQ.keep (HB9.out.trans (hb.mono HB9.out.size)) (Nat.le_refl _)) true (by rw [mayL_cons, hmk]; rfl) (sayP f b tl[k]) (by simp [sayL]) u1 hu1)
          have sl : ∀ W, (Instr.slice 22 (.slice A3 m m) (some (.int .i64 (k : Int))) (some (.int .i64 ((k : Int) + 1))) none).run Tryd.prog W = .ok (.slice (cutP A3 m k) 1 (m - k)) W := fun W => by
            have := run_pcs_lh A3 m m k (k + 1) (by omega) (by omega) W
            rw [show k + 1 - k = 1 by omega] at this
            rw [← this]; rfl
          have SLK := Lib.hid sl
          obtain ⟨g, off, hA3, hg, hc⟩ := (HP9.out.keep HW.out (Nat.le_refl _)) k hkl
          have hxr := blk_later HX2.out HW.out (blk_lt HX2.out)
          have q0 : wr.drew.cell? ⟨w.heap.size, 0, none⟩ = some (.slice d.a0 d.n0 d.c0) := blk_cell hxr 0
          have q1 : wr.drew.cell? ⟨w.heap.size, 1, none⟩ = some (.slice d.a1 d.n1 d.c1) := blk_cell hxr 1
          have q2 : wr.drew.cell? ⟨w.heap.size, 2, none⟩ = some (.slice d.a2 d.n2 d.c2) := blk_cell hxr 2
          have hw1 : IntKind.i64.wrap ((k : Int) + 1) = (k : Int) + 1 := IntWalk.i64_in _ (by omega)
          have HWD := Lib.hid (Below.drew HW.out)
          have HMK := Lib.hid hmk; have HEK := Lib.hid hek; have HU1 := Lib.hid hu1
          have hne : 0 < u1 := by rw [hu1]; exact hpos
          clear hmk hek hpos hu1 hokk hxr hc hA3 hg
          go_wp2
          go_region_law (go_loud (go_simp; refine (JK.out _ HWD.out).mono ?_; rintro e w10 ⟨A10, rfl, hB, hb10⟩; have hb11 := (Below.refl _ wr).drew.trans hb10; have HW10 := Lib.hid (Below.on HW.out hb11); have H510 := Lib.hid (blk_later H5.out hb11 (blk_lt H5.out)); have H710 := Lib.hid (blk_later H7.out hb11 (blk_lt H7.out)); clear hB hb10 hb11))
          clear q0 q1 q2 sl hw1
          obtain ⟨g, off, rfl, hg, hc⟩ := (HP9.out.keep HW10.out (Nat.le_refl _)) k hkl
          have c0 := cnL_take 0 tl k hkl; have c1 := cnL_take 1 tl k hkl; have c2 := cnL_take 2 tl k hkl
          have m0 : mayL (tl.take k) d = true := by have := HMT.out; unfold mayL at *; rw [List.all_eq_true] at *; exact fun x hx => this x (List.mem_of_mem_take hx)
          have b0 := cnL_le (s := 0) HOKT.out.docs _ m0; have b1 := cnL_le (s := 1) HOKT.out.docs _ m0; have b2 := cnL_le (s := 2) HOKT.out.docs _ m0
          have htk : (tl.take k).length ≤ 3000 := by rw [List.length_take]; omega
          have hcv : cnV (tl.take (k + 1)) = #[.int .i64 ((cnL 0 (tl.take (k + 1)) : Nat) : Int), .int .i64 ((cnL 1 (tl.take (k + 1)) : Nat) : Int), .int .i64 ((cnL 2 (tl.take (k + 1)) : Nat) : Int)] := rfl
          rw [c0, c1, c2] at hcv
          have hI := H710.out
          unfold cnV at hI
          obtain ⟨y0, hy0⟩ : ∃ z, cnL 0 (tl.take k) = z := ⟨_, rfl⟩
          obtain ⟨y1, hy1⟩ : ∃ z, cnL 1 (tl.take k) = z := ⟨_, rfl⟩
          obtain ⟨y2, hy2⟩ : ∃ z, cnL 2 (tl.take k) = z := ⟨_, rfl⟩
          rw [hy0] at hI b0 hcv; rw [hy1] at hI b1 hcv; rw [hy2] at hI b2 hcv
          have l0 : y0 ≤ 9000000 := by omega
          have l1 : y1 ≤ 9000000 := by omega
          have l2 : y2 ≤ 9000000 := by omega
          have hmk := HMK.out
          have hsc : tl[k].kind = 0 → u1 = cnP tl[k].side tl[k] := fun h => by rw [HU1.out]; exact say_cn hbd h hmk
          have hsd := may_side hmk
          have hgl : ∀ (j : Nat) (hj : j + 1 = k), ¬ ((tl[j]'(by omega)).kind = 1 ∧ tl[k].kind = 1) := fun j hj => by subst hj; subst htl; exact tidy_glue l j hkl
          obtain ⟨⟨kd, sd, lo, hi, tx⟩, hp⟩ : ∃ p, tl[k] = p := ⟨_, rfl⟩
          rw [hp] at hc hcv hsc hsd hgl
          have p0 : w10.cell? ⟨g, off + k * 5, none⟩ = some (.int .u8 (kd.toNat : Int)) := hc 0 (by omega)
          have p1 : w10.cell? ⟨g, off + k * 5 + 1, none⟩ = some (.int .u8 (sd.toNat : Int)) := hc 1 (by omega)
          have bs : decide ((2 : Int) < (sd.toNat : Int)) = false := decide_eq_false (by have : sd.toNat < 3 := hsd; omega)
          have HI7 := Lib.hid hI
          have HCV := Lib.hid hcv
          have k1 := u8_eqi kd 1 1 rfl
          have k0 := u8_eqi kd 0 0 rfl
          have hbu : decide ((u1 : Int) = 0) = false := decide_eq_false (by omega)
          have hbu' : ((u1 : Int) == 0) = false := by rw [beq_eq_false_iff_ne]; omega
          clear hc hp c0 c1 c2 b0 b1 b2 m0 htk hy0 hy1 hy2 hcv hI hmk
          rcases Nat.eq_zero_or_pos k with hk0 | hk0
          · have hkz0 : decide ((0 : Int) < (k : Int)) = false := decide_eq_false (by omega)
            have hkz1 : decide (0 < k) = false := decide_eq_false (by omega)
            clear hk0
            by_cases hkz : kd = 0
            · subst hkz
              try exact absurd k1 (by decide)
              all_goals (
                have hu : u1 = cnP sd ⟨0, sd, lo, hi, tx⟩ := hsc rfl
                have e : ∀ x, cnP x ⟨0, sd, lo, hi, tx⟩ = if sd = x then u1 else 0 := fun x => by
                  by_cases hx : sd = x
                  · subst hx; rw [if_pos rfl, hu]
                  · rw [if_neg hx]; unfold cnP; rw [if_neg (fun h => hx h.2)]
                rw [e 0, e 1, e 2] at HCV
                have h3 : sd = 0 ∨ sd = 1 ∨ sd = 2 := by
                  rcases (by have : sd.toNat < 3 := hsd; omega : sd.toNat = 0 ∨ sd.toNat = 1 ∨ sd.toNat = 2) with e | e | e
                  · exact .inl (UInt8.toNat_inj.1 e)
                  · exact .inr (.inl (UInt8.toNat_inj.1 e))
                  · exact .inr (.inr (UInt8.toNat_inj.1 e))
                have x0 : w10.cell? ⟨w9.heap.size + 1, 0, none⟩ = some (.int .i64 (y0 : Int)) := blk_cell HI7.out 0
                have x1 : w10.cell? ⟨w9.heap.size + 1, 1, none⟩ = some (.int .i64 (y1 : Int)) := blk_cell HI7.out 1
                have x2 : w10.cell? ⟨w9.heap.size + 1, 2, none⟩ = some (.int .i64 (y2 : Int)) := blk_cell HI7.out 2
                have f0 : w10.frozen? ⟨w9.heap.size + 1, 0, none⟩ = false := blk_frozen HI7.out 0
                have f1 : w10.frozen? ⟨w9.heap.size + 1, 1, none⟩ = false := blk_frozen HI7.out 1
                have f2 : w10.frozen? ⟨w9.heap.size + 1, 2, none⟩ = false := blk_frozen HI7.out 2
                have w0 : IntKind.i64.wrap ((y0 : Int) + (u1 : Int)) = (y0 : Int) + (u1 : Int) := IntWalk.i64_in _ (by omega)
                have w1 : IntKind.i64.wrap ((y1 : Int) + (u1 : Int)) = (y1 : Int) + (u1 : Int) := IntWalk.i64_in _ (by omega)
                have w2 : IntKind.i64.wrap ((y2 : Int) + (u1 : Int)) = (y2 : Int) + (u1 : Int) := IntWalk.i64_in _ (by omega)
                clear e hu hsc hgl
                rcases h3 with rfl | rfl | rfl
                · have hcs : cnV (tl.take (k + 1)) = #[.int .i64 ((y0 : Int) + (u1 : Int)), .int .i64 (y1 : Int), .int .i64 (y2 : Int)] := by rw [HCV.out]; simp
                  have HCS := Lib.hid hcs
                  clear hcs
                  go_wp2
                  go_region
                  go_wp2
                  go_roundg (m - (k + 1))
                  case measure => have := hq.out; omega
                  case rel => exact ⟨k + 1, by go_num, by omega, rfl, (HW10.out.setCell (p := ⟨w9.heap.size + 1, 0, none⟩) (by simp) _).drew, blk_set H510.out (by simp), by show _ = _; rw [HCS.out]; exact heap_set HI7.out _⟩
                · have hcs : cnV (tl.take (k + 1)) = #[.int .i64 (y0 : Int), .int .i64 ((y1 : Int) + (u1 : Int)), .int .i64 (y2 : Int)] := by rw [HCV.out]; simp
                  have HCS := Lib.hid hcs
                  clear hcs
                  go_wp2
                  go_region
                  go_wp2
                  go_roundg (m - (k + 1))
                  case measure => have := hq.out; omega
                  case rel => exact ⟨k + 1, by go_num, by omega, rfl, (HW10.out.setCell (p := ⟨w9.heap.size + 1, 1, none⟩) (by simp) _).drew, blk_set H510.out (by simp), by show _ = _; rw [HCS.out]; exact heap_set HI7.out _⟩
                · have hcs : cnV (tl.take (k + 1)) = #[.int .i64 (y0 : Int), .int .i64 (y1 : Int), .int .i64 ((y2 : Int) + (u1 : Int))] := by rw [HCV.out]; simp
                  have HCS := Lib.hid hcs
                  clear hcs
                  go_wp2
                  go_region
                  go_wp2
                  go_roundg (m - (k + 1))
                  case measure => have := hq.out; omega
                  case rel => exact ⟨k + 1, by go_num, by omega, rfl, (HW10.out.setCell (p := ⟨w9.heap.size + 1, 2, none⟩) (by simp) _).drew, blk_set H510.out (by simp), by show _ = _; rw [HCS.out]; exact heap_set HI7.out _⟩)
            · have e : ∀ x, cnP x ⟨kd, sd, lo, hi, tx⟩ = 0 := fun x => by unfold cnP; rw [if_neg (fun h => hkz h.1)]
              rw [e 0, e 1, e 2] at HCV
              rw [decide_eq_false hkz] at k0
              clear e hkz hsc hgl
              go_wp2
              go_roundg (m - (k + 1))
              case measure => have := hq.out; omega
              case rel => exact ⟨k + 1, by go_num, by omega, rfl, HW10.out, H510.out, by show _ = _; rw [HCV.out]; exact HI7.out⟩
          · have hkz0 : decide ((0 : Int) < (k : Int)) = true := decide_eq_true (by omega)
            have hkz1 : decide (0 < k) = true := decide_eq_true hk0
            obtain ⟨kp, hkp⟩ : ∃ kp, kp + 1 = k := ⟨k - 1, by omega⟩
            have hkk : (k : Int) - 1 = (kp : Int) := by omega
            have hkpl : kp < tl.length := by omega
            have hkpm : (kp : Int) < (m : Int) := by omega
            obtain ⟨g2, off2, hA2, _, hc2⟩ := (HP9.out.keep HW10.out (Nat.le_refl _)) kp hkpl
            cases hA2
            have hgk := hgl kp hkp
            obtain ⟨kq, hkq⟩ : ∃ x, tl[kp].kind = x := ⟨_, rfl⟩
            have pp : w10.cell? ⟨g, off + kp * 5, none⟩ = some (.int .u8 (kq.toNat : Int)) := by rw [← hkq]; exact hc2 0 (by omega)
            rw [hkq] at hgk
            have kq1 := u8_eqi kq 1 1 rfl
            have hee : (decide (kq = 1) && decide (kd = 1)) = false := by rw [← Bool.decide_and]; exact decide_eq_false hgk
            obtain ⟨E1, hE1⟩ : ∃ E, decide (kd = 1) = E := ⟨_, rfl⟩
            obtain ⟨E2, hE2⟩ : ∃ E, decide (kq = 1) = E := ⟨_, rfl⟩
            rw [hE1] at k1 hee; rw [hE2] at kq1 hee
            clear hc2 hgk hkq hkp hE1 hE2 hk0
            cases E1 <;> cases E2
            case true.true => cases hee
            all_goals (
              clear hee
              by_cases hkz : kd = 0
              · subst hkz
                try exact absurd k1 (by decide)
                all_goals (
                  have hu : u1 = cnP sd ⟨0, sd, lo, hi, tx⟩ := hsc rfl
                  have e : ∀ x, cnP x ⟨0, sd, lo, hi, tx⟩ = if sd = x then u1 else 0 := fun x => by
                    by_cases hx : sd = x
                    · subst hx; rw [if_pos rfl, hu]
                    · rw [if_neg hx]; unfold cnP; rw [if_neg (fun h => hx h.2)]
                  rw [e 0, e 1, e 2] at HCV
                  have h3 : sd = 0 ∨ sd = 1 ∨ sd = 2 := by
                    rcases (by have : sd.toNat < 3 := hsd; omega : sd.toNat = 0 ∨ sd.toNat = 1 ∨ sd.toNat = 2) with e | e | e
                    · exact .inl (UInt8.toNat_inj.1 e)
                    · exact .inr (.inl (UInt8.toNat_inj.1 e))
                    · exact .inr (.inr (UInt8.toNat_inj.1 e))
                  have x0 : w10.cell? ⟨w9.heap.size + 1, 0, none⟩ = some (.int .i64 (y0 : Int)) := blk_cell HI7.out 0
                  have x1 : w10.cell? ⟨w9.heap.size + 1, 1, none⟩ = some (.int .i64 (y1 : Int)) := blk_cell HI7.out 1
                  have x2 : w10.cell? ⟨w9.heap.size + 1, 2, none⟩ = some (.int .i64 (y2 : Int)) := blk_cell HI7.out 2
                  have f0 : w10.frozen? ⟨w9.heap.size + 1, 0, none⟩ = false := blk_frozen HI7.out 0
                  have f1 : w10.frozen? ⟨w9.heap.size + 1, 1, none⟩ = false := blk_frozen HI7.out 1
                  have f2 : w10.frozen? ⟨w9.heap.size + 1, 2, none⟩ = false := blk_frozen HI7.out 2
                  have w0 : IntKind.i64.wrap ((y0 : Int) + (u1 : Int)) = (y0 : Int) + (u1 : Int) := IntWalk.i64_in _ (by omega)
                  have w1 : IntKind.i64.wrap ((y1 : Int) + (u1 : Int)) = (y1 : Int) + (u1 : Int) := IntWalk.i64_in _ (by omega)
                  have w2 : IntKind.i64.wrap ((y2 : Int) + (u1 : Int)) = (y2 : Int) + (u1 : Int) := IntWalk.i64_in _ (by omega)
                  clear e hu hsc hgl
                  rcases h3 with rfl | rfl | rfl
                  · have hcs : cnV (tl.take (k + 1)) = #[.int .i64 ((y0 : Int) + (u1 : Int)), .int .i64 (y1 : Int), .int .i64 (y2 : Int)] := by rw [HCV.out]; simp
                    have HCS := Lib.hid hcs
                    clear hcs
                    go_wp2
                    go_region
                    go_wp2
                    go_roundg (m - (k + 1))
                    case measure => have := hq.out; omega
                    case rel => exact ⟨k + 1, by go_num, by omega, rfl, (HW10.out.setCell (p := ⟨w9.heap.size + 1, 0, none⟩) (by simp) _).drew, blk_set H510.out (by simp), by show _ = _; rw [HCS.out]; exact heap_set HI7.out _⟩
                  · have hcs : cnV (tl.take (k + 1)) = #[.int .i64 (y0 : Int), .int .i64 ((y1 : Int) + (u1 : Int)), .int .i64 (y2 : Int)] := by rw [HCV.out]; simp
                    have HCS := Lib.hid hcs
                    clear hcs
                    go_wp2
                    go_region
                    go_wp2
                    go_roundg (m - (k + 1))
                    case measure => have := hq.out; omega
                    case rel => exact ⟨k + 1, by go_num, by omega, rfl, (HW10.out.setCell (p := ⟨w9.heap.size + 1, 1, none⟩) (by simp) _).drew, blk_set H510.out (by simp), by show _ = _; rw [HCS.out]; exact heap_set HI7.out _⟩
                  · have hcs : cnV (tl.take (k + 1)) = #[.int .i64 (y0 : Int), .int .i64 (y1 : Int), .int .i64 ((y2 : Int) + (u1 : Int))] := by rw [HCV.out]; simp
                    have HCS := Lib.hid hcs
                    clear hcs
                    go_wp2
                    go_region
                    go_wp2
                    go_roundg (m - (k + 1))
                    case measure => have := hq.out; omega
                    case rel => exact ⟨k + 1, by go_num, by omega, rfl, (HW10.out.setCell (p := ⟨w9.heap.size + 1, 2, none⟩) (by simp) _).drew, blk_set H510.out (by simp), by show _ = _; rw [HCS.out]; exact heap_set HI7.out _⟩)
              · have e : ∀ x, cnP x ⟨kd, sd, lo, hi, tx⟩ = 0 := fun x => by unfold cnP; rw [if_neg (fun h => hkz h.1)]
                rw [e 0, e 1, e 2] at HCV
                rw [decide_eq_false hkz] at k0
                clear e hkz hsc hgl
                go_wp2
                go_roundg (m - (k + 1))
                case measure => have := hq.out; omega
                case rel => exact ⟨k + 1, by go_num, by omega, rfl, HW10.out, H510.out, by show _ = _; rw [HCV.out]; exact HI7.out⟩)
        · obtain rfl : m = k := by omega
          have h7 := H7.out
          rw [List.take_of_length_le (Nat.le_of_eq HM.out.symm)] at h7
          unfold cnV at h7
          rw [HZ0.out, HZ1.out, HZ2.out] at h7
          have hb9w := Lib.hid (HB9.out.trans (HW.out.mono HB9.out.size))
          have x0 : wr.cell? ⟨w9.heap.size, 0, none⟩ = some (.int .i64 (z0 : Int)) := blk_cell H5.out 0
          have x1 : wr.cell? ⟨w9.heap.size, 1, none⟩ = some (.int .i64 (z1 : Int)) := blk_cell H5.out 1
          have x2 : wr.cell? ⟨w9.heap.size, 2, none⟩ = some (.int .i64 (z2 : Int)) := blk_cell H5.out 2
          have y0 : wr.cell? ⟨w9.heap.size + 1, 0, none⟩ = some (.int .i64 (z0 : Int)) := blk_cell h7 0
          have y1 : wr.cell? ⟨w9.heap.size + 1, 1, none⟩ = some (.int .i64 (z1 : Int)) := blk_cell h7 1
          have y2 : wr.cell? ⟨w9.heap.size + 1, 2, none⟩ = some (.int .i64 (z2 : Int)) := blk_cell h7 2
          clear h7 hlt
          go_wp2_with (go_at_call 6; (with_reducible refine (LV.out _ hb9w.out).mono ?_); rintro e w11 ⟨rfl, hb11⟩)
          go_ret
          exact ⟨rfl, Below.on hb9w.out hb11⟩

end Go.Proofs.YtpafadfaphaoeaaDoor
