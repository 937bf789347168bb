/- Walks over package tquotes: feed, marks; no statement of the seat is proved here. -/
import Derived.Test.YtflfedfghnnaeaaDoorTqB
namespace Go.Proofs.YtflfedfghnnaeaaDoor
open Go.RowKit

theorem ext_end (s : ByteArray) (i : Nat) : (s.extract i s.size).data.toList = s.data.toList.drop i := by
  rw [ByteArray.data_extract, Array.toList_extract]
  have h : s.data.toList.length = s.size := rfl
  exact List.take_of_length_le (by rw [List.length_drop, h]; exact Nat.le_refl _)
theorem take1_bt (l : List UInt8) (i : Nat) (c : UInt8) : decide ((l.drop i).take 1 = [c]) = decide (bt l i = c.toNat) := by
  rw [Bool.eq_iff_iff, decide_eq_true_iff, decide_eq_true_iff]
  rcases Nat.lt_or_ge i l.length with h | h
  · have e : (l.drop i).take 1 = [l[i]] := by rw [List.drop_eq_getElem_cons h]; rfl
    rw [e, bt_lt h, List.cons.injEq, UInt8.toNat_inj]
    simp
  · rw [List.drop_eq_nil_of_le h, bt_ge h]
    have := c.toNat_lt
    simp; omega

set_option maxRecDepth 100000 in
set_option maxHeartbeats 2000000 in
theorem feed_is (R : Nat) (s : ByteArray) (i q : Nat) (out : List UInt8) (Pr : Nat → Prop) (w : World) (hR : RI w R s i q out Pr) (hin : i < s.size) (hs : s.size ≤ 1073741823) (n : Nat) (b : Int) (hf : feedT s.data.toList i = (n, b)) :
    Calls Tryd.prog 33 #[.pointer (some ⟨R, 0, none⟩)] w fun e w' => e = .returned (.tuple #[.int .i64 (n : Int), .agg #[.int .i64 (if b < 0 then 0 else 3), .int .i64 (if b < 0 then 0 else b)]]) ∧ RI w' R s i q out Pr ∧ To R Pr w w' := by
  have hR1 := hR.new (.cells #[.int .i64 0, .int .i64 0] 33)
  obtain ⟨c0, c1, _⟩ := hR1.cells
  have hRlt := hR.lt
  have hprl := Lib.hid hR.pr_lt
  have HR1 := Lib.hid hR1; clear hR1 hR
  have HF := Lib.hid (FB.new w 0 0)
  have hi1 : (i : Int) < s.size := by omega
  have fin : ∀ w1 : World, RI w1 R s i q out (fun k => k = w.heap.size ∨ Pr k) → To R Pr w w1 → ∀ x y : Value, RI ((w1.setCell ⟨w.heap.size, 0, none⟩ x).setCell ⟨w.heap.size, 1, none⟩ y) R s i q out Pr ∧ To R Pr w ((w1.setCell ⟨w.heap.size, 0, none⟩ x).setCell ⟨w.heap.size, 1, none⟩ y) := fun w1 h1 h2 x y =>
    ⟨((h1.setF (.inl rfl) 0 _).setF (.inl rfl) 1 _).less fun k hk => .inr hk, (h2.setN hRlt hprl.out (Nat.le_refl _) 0 _).setN hRlt hprl.out (Nat.le_refl _) 1 _⟩
  have FIN := Lib.hid fin; clear fin
  unfold feedT at hf
  rw [bt_str hin] at hf
  by_cases h10 : s[i].toNat = 10
  · have q10 : ((s[i].toNat : Int) == 10) = true := by simp; omega
    rw [if_pos h10] at hf
    injection hf with hn hb
    subst hn hb
    clear h10
    go_enter Tryd.func33, Tryd.ntmps33
    go_wp2
    refine wp_region_later _ (by kernel_rfl) (by kernel_rfl) (Below.refl _ _) ?_
    repeat (go_big_quiet_step (fail))
    refine wpQuiet_nil ?_
    rintro w1 ⟨⟨_, hb1⟩, rfl⟩
    obtain ⟨f0, f1, g0, g1, hlt3⟩ := (HF.out.keep hb1 (Nat.le_refl _)).cells
    go_wp2
    exact bodyPost_ret (v := .tuple #[.int .i64 1, .agg #[.int .i64 0, .int .i64 0]]) (by simp [results, Tryd.results33, go_sem, f0, f1]) rfl ⟨rfl, FIN.out w1 (HR1.out.keep hb1 (Nat.le_refl _)) ((To.new hRlt hprl.out _).more hRlt hprl.out hb1 (by simp)) _ _⟩
  have q10 : ((s[i].toNat : Int) == 10) = false := by simp; omega
  rw [if_neg h10] at hf
  by_cases h13 : s[i].toNat = 13
  · have q13 : ((s[i].toNat : Int) != 13) = false := by simp; omega
    rw [if_pos h13] at hf
    have hw1 : IntKind.i64.wrap ((i : Int) + 1) = (i : Int) + 1 := IntWalk.i64_in _ (by omega)
    have hn1 : ((i : Int) + 1).toNat = i + 1 := by omega
    have h01 : (0 : Int) ≤ (i : Int) + 1 := by omega
    have h02 : (i : Int) + 1 ≤ s.size := by omega
    have hpre : ∀ (x : Bool), decide (bt s.data.toList (i + 1) = 10) = x → Hid (∀ n : Later (w.alloc (.cells #[.int .i64 0, .int .i64 0] 33)), Calls Tryd.prog 25 #[.string (s.extract (i + 1) s.size), .string ⟨#[10]⟩] n.at_ fun e w'' => e = .returned (.bool x) ∧ ∃ m : Later (w.alloc (.cells #[.int .i64 0, .int .i64 0] 33)), w'' = m.at_) := fun x hx n =>
      (has_is (s.extract (i + 1) s.size) ⟨#[10]⟩ x (by rw [ext_end, ← hx]; exact take1_bt _ _ 10) (by rw [ByteArray.size_extract]; omega) (by decide) n.at_).mono fun e w'' ⟨h1, h2⟩ => ⟨h1, n, h2.symm⟩
    clear h10 h13
    by_cases hnx : bt s.data.toList (i + 1) = 10
    · rw [if_pos hnx] at hf
      injection hf with hn hb
      subst hn hb
      have C1 := hpre true (decide_eq_true hnx)
      clear hpre hnx
      go_enter Tryd.func33, Tryd.ntmps33
      go_wp2
      refine wp_region_later _ (by kernel_rfl) (by kernel_rfl) (Below.refl _ _) ?_
      repeat (go_big_quiet_step (fail))
      refine wpQuiet_nil ?_
      rintro w1 ⟨⟨_, hb1⟩, rfl⟩
      go_wp2
      refine wp_region_later (w.alloc (.cells #[.int .i64 0, .int .i64 0] 33)) (by kernel_rfl) (by kernel_rfl) hb1 ?_
      repeat (go_big_quiet_step (fail))
      refine wpQuiet_nil ?_
      rintro w2 ⟨⟨_, hb2⟩, rfl⟩
      clear hb1
      go_wp2
      refine wp_region_later (w.alloc (.cells #[.int .i64 0, .int .i64 0] 33)) (by kernel_rfl) (by kernel_rfl) hb2 ?_
      repeat (go_big_quiet_step ((go_at_call 25; with_reducible exact C1.out _)))
      refine wpQuiet_nil ?_
      rintro w3 ⟨⟨_, hb3⟩, rfl⟩
      clear hb2 C1
      obtain ⟨f0, f1, g0, g1, hlt3⟩ := (HF.out.keep hb3 (Nat.le_refl _)).cells
      go_wp2
      exact bodyPost_ret (v := .tuple #[.int .i64 2, .agg #[.int .i64 0, .int .i64 0]]) (by simp [results, Tryd.results33, go_sem, f0, f1]) rfl ⟨rfl, FIN.out w3 (HR1.out.keep hb3 (Nat.le_refl _)) ((To.new hRlt hprl.out _).more hRlt hprl.out hb3 (by simp)) _ _⟩
    · rw [if_neg hnx] at hf
      injection hf with hn hb
      subst hn hb
      have C1 := hpre false (decide_eq_false hnx)
      have hneg : ¬ ((i : Int) + 1 < 0) := by omega
      rw [if_neg hneg, if_neg hneg]
      clear hpre hnx hneg
      go_enter Tryd.func33, Tryd.ntmps33
      go_wp2
      refine wp_region_later _ (by kernel_rfl) (by kernel_rfl) (Below.refl _ _) ?_
      repeat (go_big_quiet_step (fail))
      refine wpQuiet_nil ?_
      rintro w1 ⟨⟨_, hb1⟩, rfl⟩
      go_wp2
      refine wp_region_later (w.alloc (.cells #[.int .i64 0, .int .i64 0] 33)) (by kernel_rfl) (by kernel_rfl) hb1 ?_
      repeat (go_big_quiet_step (fail))
      refine wpQuiet_nil ?_
      rintro w2 ⟨⟨_, hb2⟩, rfl⟩
      clear hb1
      go_wp2
      refine wp_region_later (w.alloc (.cells #[.int .i64 0, .int .i64 0] 33)) (by kernel_rfl) (by kernel_rfl) hb2 ?_
      repeat (go_big_quiet_step ((go_at_call 25; with_reducible exact C1.out _)))
      refine wpQuiet_nil ?_
      rintro w3 ⟨⟨_, hb3⟩, rfl⟩
      clear hb2 C1 hw1 hn1 h01 h02
      obtain ⟨_, d1, _, _⟩ := (HR1.out.keep hb3 (Nat.le_refl _)).cells0
      go_wp2_with fail
      refine (wrong_any _ _).mono ?_
      rintro e w4 ⟨rfl, hb4⟩
      have hb34 := hb3.trans (hb4.mono hb3.size)
      clear hb3 hb4 d1
      obtain ⟨f0, f1, g0, g1, hlt3⟩ := (HF.out.keep hb34 (Nat.le_refl _)).cells
      go_wp2
      exact bodyPost_ret (v := .tuple #[.int .i64 0, .agg #[.int .i64 3, .int .i64 ((i : Int) + 1)]]) (by simp [results, Tryd.results33, go_sem, f0, f1]) rfl ⟨rfl, FIN.out w4 (HR1.out.keep hb34 (Nat.le_refl _)) ((To.new hRlt hprl.out _).more hRlt hprl.out hb34 (by simp)) _ _⟩
  have q13 : ((s[i].toNat : Int) != 13) = true := by simp; omega
  rw [if_neg h13] at hf
  injection hf with hn hb
  subst hn hb
  clear h10 h13
  go_enter Tryd.func33, Tryd.ntmps33
  go_wp2
  refine wp_region_later _ (by kernel_rfl) (by kernel_rfl) (Below.refl _ _) ?_
  repeat (go_big_quiet_step (fail))
  refine wpQuiet_nil ?_
  rintro w1 ⟨⟨_, hb1⟩, rfl⟩
  go_wp2
  refine wp_region_later (w.alloc (.cells #[.int .i64 0, .int .i64 0] 33)) (by kernel_rfl) (by kernel_rfl) hb1 ?_
  repeat (go_big_quiet_step (fail))
  refine wpQuiet_nil ?_
  rintro w2 ⟨⟨_, hb2⟩, rfl⟩
  clear hb1
  obtain ⟨f0, f1, g0, g1, hlt3⟩ := (HF.out.keep hb2 (Nat.le_refl _)).cells
  go_wp2
  exact bodyPost_ret (v := .tuple #[.int .i64 0, .agg #[.int .i64 0, .int .i64 0]]) (by simp [results, Tryd.results33, go_sem, f0, f1]) rfl ⟨rfl, FIN.out w2 (HR1.out.keep hb2 (Nat.le_refl _)) ((To.new hRlt hprl.out _).more hRlt hprl.out hb2 (by simp)) _ _⟩

theorem runB_yes {l : List UInt8} {q f i : Nat} (h : bt l i = q) : runB l q (f + 1) i = runB l q f (i + 1) + 1 := by rw [runB, if_pos h]
theorem runB_no {l : List UInt8} {q f i : Nat} (h : bt l i ≠ q) : runB l q f i = 0 := by
  cases f with
  | zero => rfl
  | succ f => rw [runB, if_neg h]
theorem byte_ofNat {q : Nat} (h : q < 256) : ((UInt8.ofNat q).toNat : Nat) = q := by simp; omega
theorem run_on {l : List UInt8} {q i k N : Nat} (hr : runB l q (5 - k) (i + k) + k = N) (h5 : k < 5) (h : bt l (i + k) = q) : runB l q (5 - (k + 1)) (i + (k + 1)) + (k + 1) = N := by
  obtain ⟨f, hf⟩ : ∃ f, 5 - k = f + 1 := ⟨4 - k, by omega⟩
  rw [hf, runB_yes h] at hr
  rw [show 5 - (k + 1) = f by omega, show i + (k + 1) = i + k + 1 by omega]
  omega

set_option maxRecDepth 100000 in
set_option maxHeartbeats 4000000 in
theorem marks_is (R : Nat) (s : ByteArray) (i q : Nat) (out : List UInt8) (Pr : Nat → Prop) (w : World) (hR : RI w R s i q out Pr) (hq : q < 256) (hin : i < s.size) (hs : s.size ≤ 1073741823) (ho : out.length ≤ 1073741810) (N : Nat) (hN : runB s.data.toList q 5 i = N) :
    Calls Tryd.prog 113 #[.pointer (some ⟨R, 0, none⟩)] w fun e w' => e = .returned (.bool (decide (3 ≤ N))) ∧ RI w' R s (i + N) q (out ++ List.replicate (if 3 ≤ N then N - 3 else N) (UInt8.ofNat q)) Pr ∧ To R Pr w w' := by
  obtain ⟨c0, c1, c2⟩ := hR.cells
  have hRlt := hR.lt
  have hprl := Lib.hid hR.pr_lt
  have hprn := Lib.hid hR.pr_ne
  have HR := Lib.hid hR; clear hR
  have hN5 := runB_le s.data.toList q 5 i
  rw [hN] at hN5
  have HN := Lib.hid hN; clear hN
  go_enter Tryd.func113, Tryd.ntmps113
  go_wp2
  go_loopg [3] 6 (fun g s3 wr => ∃ k : Nat, s3 = .int .i64 k ∧ k ≤ 5 ∧ Hid (g = 6 - k) ∧ Hid (runB s.data.toList q (5 - k) (i + k) + k = N) ∧ Hid (Below w.heap.size w wr))
  case atStart => exact ⟨0, rfl, by omega, rfl, HN.out, Below.refl _ _⟩
  case round =>
    obtain ⟨k, rfl, hk, hg, hr, hbw⟩ := hrel
    have hw1 : IntKind.i64.wrap ((i : Int) + (k : Int)) = (i : Int) + (k : Int) := IntWalk.i64_in _ (by omega)
    have hn1 : ((i : Int) + (k : Int)).toNat = i + k := by omega
    have h01 : (0 : Int) ≤ (i : Int) + (k : Int) := by omega
    by_cases hc : i + k < s.size ∧ k < 5 ∧ bt s.data.toList (i + k) = q
    · obtain ⟨a1, a2, a3⟩ := hc
      have hr' := Lib.hid (run_on hr.out a2 a3)
      have b1 : decide ((i : Int) + (k : Int) < (s.size : Int)) = true := decide_eq_true (by omega)
      have h02 : (i : Int) + (k : Int) < (s.size : Int) := by omega
      have b2 : decide ((k : Int) < 5) = true := decide_eq_true (by omega)
      have b3 : ((s[i + k].toNat : Int) == (q : Int)) = true := by rw [bt_str a1] at a3; simp; omega
      clear a3
      go_wp2
      refine wp_region_later w (by kernel_rfl) (by kernel_rfl) hbw.out ?_
      repeat (go_big_quiet_step (fail))
      refine wpQuiet_nil ?_
      rintro w1 ⟨⟨_, hb1⟩, rfl⟩
      clear hw1 b1 b2 b3
      go_wp2
      go_roundg (6 - (k + 1))
      case measure => have := hg.out; omega
      case rel => exact ⟨k + 1, by go_num, by omega, rfl, hr'.out, hb1⟩
    · have hkN : k = N := by
        have := hr.out
        by_cases h5 : k = 5
        · subst h5; simp [runB] at this; omega
        · have hb : bt s.data.toList (i + k) ≠ q := by
            intro e
            rcases Nat.lt_or_ge (i + k) s.size with h | h
            · exact hc ⟨h, by omega, e⟩
            · rw [bt_str_ge h] at e; omega
          rw [runB_no hb] at this; omega
      have hways : (i + k < s.size ∧ k < 5 ∧ bt s.data.toList (i + k) ≠ q) ∨ (i + k < s.size ∧ k = 5) ∨ s.size ≤ i + k := by
        rcases Nat.lt_or_ge (i + k) s.size with h | h
        · by_cases h5 : k < 5
          · exact .inl ⟨h, h5, fun e => hc ⟨h, h5, e⟩⟩
          · exact .inr (.inl ⟨h, by omega⟩)
        · exact .inr (.inr h)
      clear hc hg hr
      subst hkN
      rcases hways with ⟨a1, a2, a3⟩ | ⟨a1, a2⟩ | a1
      case' inl =>
        have b1 : decide ((i : Int) + (k : Int) < (s.size : Int)) = true := decide_eq_true (by omega)
        have h02 : (i : Int) + (k : Int) < (s.size : Int) := by omega
        have b2 : decide ((k : Int) < 5) = true := decide_eq_true (by omega)
        have b3 : ((s[i + k].toNat : Int) == (q : Int)) = false := by rw [bt_str a1] at a3; simp; omega
        clear a3
      case' inr.inl =>
        have b1 : decide ((i : Int) + (k : Int) < (s.size : Int)) = true := decide_eq_true (by omega)
        have b2 : decide ((k : Int) < 5) = false := decide_eq_false (by omega)
        clear a2
      case' inr.inr =>
        have b1 : decide ((i : Int) + (k : Int) < (s.size : Int)) = false := decide_eq_false (by omega)
      all_goals
        go_wp2
        refine wp_region_later w (by kernel_rfl) (by kernel_rfl) hbw.out ?_
        repeat (go_big_quiet_step (fail))
        refine wpQuiet_nil ?_
        rintro w1 ⟨⟨_, hb1⟩, rfl⟩
        clear hbw
        have hR1 := HR.out.keep hb1 (Nat.le_refl _)
        have hT1 := (To.refl R Pr w).more hRlt hprl.out hb1 (Nat.le_refl _)
        clear hb1 c0 c1 c2
        have HR1 := Lib.hid hR1; clear hR1
        have HT1 := Lib.hid hT1; clear hT1
        by_cases h3 : 3 ≤ k
        · obtain ⟨m, hm⟩ : ∃ m : Nat, k - 3 = m := ⟨_, rfl⟩
          have hmk : (k : Int) - 3 = (m : Int) := by omega
          have b3k : decide ((3 : Int) ≤ (k : Int)) = true := decide_eq_true (by omega)
          have HM := Lib.hid hm; clear hm
          go_wp2
          clear hmk
          go_loopg [48] m (fun g s48 wr => ∃ j : Nat, s48 = .int .i64 j ∧ j ≤ m ∧ Hid (g = m - j) ∧ Hid (RI wr R s (i + j) q (out ++ List.replicate j (UInt8.ofNat q)) Pr) ∧ Hid (To R Pr w wr))
          case atStart => exact ⟨0, rfl, by omega, rfl, HR1.out.place rfl (by simp), HT1.out⟩
          case round =>
            obtain ⟨j, rfl, hj, hg, hRj, hTj⟩ := hrel
            have hm5 : m ≤ 2 := by have := HM.out; omega
            by_cases hlt : j < m
            · obtain ⟨_, _, d2, _⟩ := hRj.out.cells0
              have hBS := Lib.hid (BS.made wr [UInt8.ofNat q] 5 (0, 0))
              go_wp2_with fail
              refine (take_any R s (i + j) q _ Pr 1 _ 1 1 [UInt8.ofNat q] rfl _ (hRj.out.keep (below_new1 wr _) (Nat.le_refl _)) (by have := hBS.out; rw [List.map_cons, List.map_nil, byte_ofNat hq] at this; simpa using this) (by omega) (by omega) (by simp; omega) (by simp) (fun a e _ => by injection e with e; subst e; have := hRj.out.lt; show wr.heap.size ≠ R; omega)).mono ?_
              rintro e w3 ⟨rfl, hR3, hb3, hp3⟩
              have HR3 := Lib.hid hR3; clear hR3
              have HT3 := Lib.hid ((hTj.out.alloc hRlt hprl.out _).step hb3 hp3 (fun k hk => hk)); clear hb3 hp3
              go_wp2
              go_roundg (m - (j + 1))
              case measure => have := hg.out; omega
              case rel => exact ⟨j + 1, by go_num, by omega, rfl, HR3.out.place (by omega) (by simp [List.replicate_succ']), HT3.out⟩
            · have hjm : j = m := by omega
              subst hjm
              obtain ⟨_, d1, _, k1⟩ := hRj.out.cells0
              have hltj := hRj.out.lt
              go_wp2
              go_ret
              refine ⟨rfl, ?_, hTj.out.setR hprn.out 1 _⟩
              rw [HM.out]
              exact hRj.out.setAt _ _ (by have := HM.out; go_num)
        · have b3k : decide ((3 : Int) ≤ (k : Int)) = false := decide_eq_false (by omega)
          go_wp2
          go_loopg [48] k (fun g s48 wr => ∃ j : Nat, s48 = .int .i64 j ∧ j ≤ k ∧ Hid (g = k - j) ∧ Hid (RI wr R s (i + j) q (out ++ List.replicate j (UInt8.ofNat q)) Pr) ∧ Hid (To R Pr w wr))
          case atStart => exact ⟨0, rfl, by omega, rfl, HR1.out.place rfl (by simp), HT1.out⟩
          case round =>
            obtain ⟨j, rfl, hj, hg, hRj, hTj⟩ := hrel
            by_cases hlt : j < k
            · obtain ⟨_, _, d2, _⟩ := hRj.out.cells0
              have hBS := Lib.hid (BS.made wr [UInt8.ofNat q] 5 (0, 0))
              go_wp2_with fail
              refine (take_any R s (i + j) q _ Pr 1 _ 1 1 [UInt8.ofNat q] rfl _ (hRj.out.keep (below_new1 wr _) (Nat.le_refl _)) (by have := hBS.out; rw [List.map_cons, List.map_nil, byte_ofNat hq] at this; simpa using this) (by omega) (by omega) (by simp; omega) (by simp) (fun a e _ => by injection e with e; subst e; have := hRj.out.lt; show wr.heap.size ≠ R; omega)).mono ?_
              rintro e w3 ⟨rfl, hR3, hb3, hp3⟩
              have HR3 := Lib.hid hR3; clear hR3
              have HT3 := Lib.hid ((hTj.out.alloc hRlt hprl.out _).step hb3 hp3 (fun k hk => hk)); clear hb3 hp3
              go_wp2
              go_roundg (k - (j + 1))
              case measure => have := hg.out; omega
              case rel => exact ⟨j + 1, by go_num, by omega, rfl, HR3.out.place (by omega) (by simp [List.replicate_succ']), HT3.out⟩
            · have hjm : j = k := by omega
              subst hjm
              go_wp2
              go_ret
              exact ⟨rfl, hRj.out, hTj.out⟩

end Go.Proofs.YtflfedfghnnaeaaDoor
