/- Walks over package tquotes: common; no statement of the seat is proved here. -/
import Derived.Test.YtflfedfghnnaeaaDoorTqC
namespace Go.Proofs.YtflfedfghnnaeaaDoor
open Go.RowKit

theorem FB.put {w : World} {F : Nat} {a b : Int} (h : FB w F a b) (c d : Int) : FB ((w.setCell ⟨F, 0, none⟩ (.int .i64 c)).setCell ⟨F, 1, none⟩ (.int .i64 d)) F c d := by
  unfold FB at *
  simp [World.setCell, Array.getElem?_modify, h]

set_option maxRecDepth 100000 in
set_option maxHeartbeats 2000000 in
theorem common_mark (R : Nat) (s : ByteArray) (i q : Nat) (out : List UInt8) (Pr : Nat → Prop) (w : World) (hR : RI w R s i q out Pr) (hq : q < 256) (hin : i < s.size) (hs : s.size ≤ 1073741823) (ho : out.length ≤ 1073741810) (N : Nat) (hN : runB s.data.toList q 5 i = N) (hm : s[i].toNat = q) :
    Calls Tryd.prog 112 #[.pointer (some ⟨R, 0, none⟩)] w fun e w' => e = .returned (.tuple #[.bool true, .bool (decide (3 ≤ N)), .agg #[.int .i64 0, .int .i64 0]]) ∧ RI w' R s (i + N) q (out ++ List.replicate (if 3 ≤ N then N - 3 else N) (UInt8.ofNat q)) Pr ∧ To R Pr w w' := by
  have hR1 := hR.new (.cells #[.int .i64 0, .int .i64 0] 33)
  obtain ⟨c0, c1, c2⟩ := hR1.cells
  have hRlt := hR.lt
  have hprl := Lib.hid hR.pr_lt
  have HR1 := Lib.hid hR1; clear hR1 hR
  have HF := Lib.hid (FB.new w 0 0)
  have hi1 : (i : Int) < s.size := by omega
  have b1 : ((s[i].toNat : Int) == (q : Int)) = true := by simp; omega
  clear hm
  have HN := Lib.hid hN; clear hN
  obtain ⟨M, hM⟩ : ∃ M, Hid ((if 3 ≤ N then N - 3 else N) = M) := ⟨_, Lib.hid rfl⟩
  obtain ⟨bo, hbo⟩ : ∃ bo, Hid (decide (3 ≤ N) = bo) := ⟨_, Lib.hid rfl⟩
  have hmk : ∀ w1 : World, RI w1 R s i q out (fun k => k = w.heap.size ∨ Pr k) → Calls Tryd.prog 113 #[.pointer (some ⟨R, 0, none⟩)] w1 fun e w' => e = .returned (.bool bo) ∧ RI w' R s (i + N) q (out ++ List.replicate M (UInt8.ofNat q)) (fun k => k = w.heap.size ∨ Pr k) ∧ To R (fun k => k = w.heap.size ∨ Pr k) w1 w' := fun w1 h => by
    have := marks_is R s i q out _ w1 h hq hin hs ho N HN.out
    rwa [hM.out, hbo.out] at this
  rw [hM.out, hbo.out]
  have HMK := Lib.hid hmk; clear hmk
  go_enter Tryd.func112, Tryd.ntmps112
  go_wp2
  refine wp_region_later _ (by kernel_rfl) (by kernel_rfl) (Below.refl _ _) ?_
  repeat (go_big_quiet_step (fail))
  refine wpQuiet_nil ?_
  rintro w1 ⟨⟨_, hb1⟩, rfl⟩
  clear c0 c1 c2
  have HR2 := Lib.hid (HR1.out.keep hb1 (Nat.le_refl _))
  have HF2 := Lib.hid (HF.out.keep hb1 (Nat.le_refl _))
  have HT2 := Lib.hid ((To.new hRlt hprl.out (.cells #[.int .i64 0, .int .i64 0] 33)).more hRlt hprl.out hb1 (by simp))
  clear hb1
  obtain ⟨e0, e1, _, _, _⟩ := HF2.out.cells
  go_wp2
  go_region_with (go_at_call 113; refine (HMK.out _ (HR2.out.keep (Below.refl _ _).drew (Nat.le_refl _))).mono ?_; rintro e w3 ⟨rfl, hR3, hT3⟩; have HR3 := Lib.hid hR3; clear hR3; have HT3 := Lib.hid hT3; clear hT3; obtain ⟨f0, f1, g0, g1, hlt3⟩ := (FB.prot (F := w.heap.size) (a := 0) (b := 0) (HF2.out.keep (Below.refl _ _).drew (Nat.le_refl _)) HT3.out.prot (.inl rfl)).cells)
  all_goals (
    go_wp2
    refine bodyPost_ret (v := .tuple #[.bool true, .bool bo, .agg #[.int .i64 0, .int .i64 0]]) (by simp [results, Tryd.results112, go_sem, f0, f1]) rfl ⟨rfl, ?_, ?_⟩
    · exact ((HR3.out.setF (.inl rfl) 0 _).setF (.inl rfl) 1 _).less fun k hk => .inr hk
    · exact (((HT2.out.more hRlt hprl.out (Below.refl _ _).drew HT2.out.below.size).step HT3.out.below HT3.out.prot (fun k hk => .inr hk)).setN hRlt hprl.out (Nat.le_refl _) 0 _).setN hRlt hprl.out (Nat.le_refl _) 1 _)

set_option maxRecDepth 100000 in
set_option maxHeartbeats 2000000 in
theorem common_none (R : Nat) (s : ByteArray) (i q : Nat) (out : List UInt8) (Pr : Nat → Prop) (w : World) (hR : RI w R s i q out Pr) (hin : i < s.size) (hs : s.size ≤ 1073741823) (b : Int) (hb : b = -1 ∨ 0 < b) (hf : feedT s.data.toList i = (0, b)) (hm : s[i].toNat ≠ q) :
    Calls Tryd.prog 112 #[.pointer (some ⟨R, 0, none⟩)] w fun e w' => e = .returned (.tuple #[.bool (decide (0 < b)), .bool false, .agg #[.int .i64 (if b < 0 then 0 else 3), .int .i64 (if b < 0 then 0 else b)]]) ∧ RI w' R s i q out Pr ∧ To R Pr w w' := by
  have hR1 := hR.new (.cells #[.int .i64 0, .int .i64 0] 33)
  obtain ⟨c0, c1, c2⟩ := hR1.cells
  have hRlt := hR.lt
  have hprl := Lib.hid hR.pr_lt
  have HR1 := Lib.hid hR1; clear hR1 hR
  have HF := Lib.hid (FB.new w 0 0)
  have hi1 : (i : Int) < s.size := by omega
  have b1 : ((s[i].toNat : Int) == (q : Int)) = false := by simp; omega
  clear hm
  have hfd := fun (w1 : World) (h : RI w1 R s i q out (fun k => k = w.heap.size ∨ Pr k)) => feed_is R s i q out _ w1 h hin hs 0 b hf
  clear hf
  rcases hb with hb | hb
  · subst hb
    have HFD := Lib.hid hfd; clear hfd
    go_enter Tryd.func112, Tryd.ntmps112
    go_wp2
    refine wp_region_later _ (by kernel_rfl) (by kernel_rfl) (Below.refl _ _) ?_
    repeat (go_big_quiet_step (fail))
    refine wpQuiet_nil ?_
    rintro w1 ⟨⟨_, hb1⟩, rfl⟩
    clear c0 c1 c2
    have HR2 := Lib.hid (HR1.out.keep hb1 (Nat.le_refl _))
    have HF2 := Lib.hid (HF.out.keep hb1 (Nat.le_refl _))
    have HT2 := Lib.hid ((To.new hRlt hprl.out (.cells #[.int .i64 0, .int .i64 0] 33)).more hRlt hprl.out hb1 (by simp))
    clear hb1
    go_wp2_with fail
    refine (HFD.out _ HR2.out).mono ?_
    rintro e w3 ⟨rfl, hR3, hT3⟩
    have HR3 := Lib.hid hR3; clear hR3
    have hF3 := FB.prot HF2.out hT3.prot (.inl rfl)
    have HT3 := Lib.hid (HT2.out.step hT3.below hT3.prot (fun k hk => .inr hk)); clear hT3
    obtain ⟨f0, f1, g0, g1, hlt3⟩ := hF3.cells
    have HF3 := Lib.hid hF3; clear hF3
    go_wp2_with fail
    have hF4 := HF3.out.put 0 0
    have hR4 := (HR3.out.setF (.inl rfl) 0 (.int .i64 0)).setF (.inl rfl) 1 (.int .i64 0)
    have hT4 := (HT3.out.setN hRlt hprl.out (Nat.le_refl _) 0 (.int .i64 0)).setN hRlt hprl.out (Nat.le_refl _) 1 (.int .i64 0)
    clear f0 f1 g0 g1 hlt3
    generalize (w3.setCell ⟨w.heap.size, 0, none⟩ (.int .i64 0)).setCell ⟨w.heap.size, 1, none⟩ (.int .i64 0) = w4 at hF4 hR4 hT4 ⊢
    obtain ⟨f0, f1, g0, g1, hlt3⟩ := hF4.cells
    have HR4 := Lib.hid hR4; clear hR4
    have HT4 := Lib.hid hT4; clear hT4
    go_region
    all_goals (
      go_wp2
      refine bodyPost_ret (v := .tuple #[.bool false, .bool false, .agg #[.int .i64 0, .int .i64 0]]) (by simp [results, Tryd.results112, go_sem, f0, f1]) rfl ⟨rfl, ?_, ?_⟩
      · exact (((HR4.out.setF (.inl rfl) 0 _).setF (.inl rfl) 1 _).keep (Below.refl _ _).drew (Nat.le_refl _)).less fun k hk => .inr hk
      · exact ((HT4.out.setN hRlt hprl.out (Nat.le_refl _) 0 _).setN hRlt hprl.out (Nat.le_refl _) 1 _).more hRlt hprl.out (Below.refl w.heap.size _).drew (Nat.le_refl _))
  · have hneg : ¬ b < 0 := by omega
    have hfd' : ∀ w1 : World, RI w1 R s i q out (fun k => k = w.heap.size ∨ Pr k) → Calls Tryd.prog 33 #[.pointer (some ⟨R, 0, none⟩)] w1 fun e w' => e = .returned (.tuple #[.int .i64 0, .agg #[.int .i64 3, .int .i64 b]]) ∧ RI w' R s i q out (fun k => k = w.heap.size ∨ Pr k) ∧ To R (fun k => k = w.heap.size ∨ Pr k) w1 w' := fun w1 h => by
      have := hfd w1 h
      rwa [if_neg hneg, if_neg hneg] at this
    clear hfd
    rw [if_neg hneg, if_neg hneg, decide_eq_true hb]
    clear hneg
    have HFD := Lib.hid hfd'; clear hfd'
    have b0 : (b == 0) = false := by simp; omega
    have b0' : (b != 0) = true := by simp; omega
    go_enter Tryd.func112, Tryd.ntmps112
    go_wp2
    refine wp_region_later _ (by kernel_rfl) (by kernel_rfl) (Below.refl _ _) ?_
    repeat (go_big_quiet_step (fail))
    refine wpQuiet_nil ?_
    rintro w1 ⟨⟨_, hb1⟩, rfl⟩
    clear c0 c1 c2
    have HR2 := Lib.hid (HR1.out.keep hb1 (Nat.le_refl _))
    have HF2 := Lib.hid (HF.out.keep hb1 (Nat.le_refl _))
    have HT2 := Lib.hid ((To.new hRlt hprl.out (.cells #[.int .i64 0, .int .i64 0] 33)).more hRlt hprl.out hb1 (by simp))
    clear hb1
    go_wp2_with fail
    refine (HFD.out _ HR2.out).mono ?_
    rintro e w3 ⟨rfl, hR3, hT3⟩
    have HR3 := Lib.hid hR3; clear hR3
    have hF3 := FB.prot HF2.out hT3.prot (.inl rfl)
    have HT3 := Lib.hid (HT2.out.step hT3.below hT3.prot (fun k hk => .inr hk)); clear hT3
    obtain ⟨f0, f1, g0, g1, hlt3⟩ := hF3.cells
    have HF3 := Lib.hid hF3; clear hF3
    go_wp2_with fail
    have hF4 := HF3.out.put 3 b
    have hR4 := (HR3.out.setF (.inl rfl) 0 (.int .i64 3)).setF (.inl rfl) 1 (.int .i64 b)
    have hT4 := (HT3.out.setN hRlt hprl.out (Nat.le_refl _) 0 (.int .i64 3)).setN hRlt hprl.out (Nat.le_refl _) 1 (.int .i64 b)
    clear f0 f1 g0 g1 hlt3
    generalize (w3.setCell ⟨w.heap.size, 0, none⟩ (.int .i64 3)).setCell ⟨w.heap.size, 1, none⟩ (.int .i64 b) = w4 at hF4 hR4 hT4 ⊢
    obtain ⟨f0, f1, g0, g1, hlt3⟩ := hF4.cells
    have HR4 := Lib.hid hR4; clear hR4
    have HT4 := Lib.hid hT4; clear hT4
    go_region
    all_goals (
      go_wp2
      refine bodyPost_ret (v := .tuple #[.bool true, .bool false, .agg #[.int .i64 3, .int .i64 b]]) (by simp [results, Tryd.results112, go_sem, f0, f1]) rfl ⟨rfl, ?_, ?_⟩
      · exact (((HR4.out.setF (.inl rfl) 0 _).setF (.inl rfl) 1 _).keep (Below.refl _ _).drew (Nat.le_refl _)).less fun k hk => .inr hk
      · exact ((HT4.out.setN hRlt hprl.out (Nat.le_refl _) 0 _).setN hRlt hprl.out (Nat.le_refl _) 1 _).more hRlt hprl.out (Below.refl w.heap.size _).drew (Nat.le_refl _))

set_option maxRecDepth 100000 in
set_option maxHeartbeats 8000000 in
theorem common_line (R : Nat) (s : ByteArray) (i q : Nat) (out : List UInt8) (Pr : Nat → Prop) (w : World) (hR : RI w R s i q out Pr) (hin : i < s.size) (hs : s.size ≤ 1073741823) (ho : out.length ≤ 1073741810) (n : Nat) (hn0 : 0 < n) (hn2 : n ≤ 2) (hf : feedT s.data.toList i = (n, -1)) (hni : i + n ≤ s.size) (hm : s[i].toNat ≠ q) :
    Calls Tryd.prog 112 #[.pointer (some ⟨R, 0, none⟩)] w fun e w' => e = .returned (.tuple #[.bool true, .bool false, .agg #[.int .i64 0, .int .i64 0]]) ∧ RI w' R s (i + n) q (out ++ (s.extract i (i + n)).data.toList) Pr ∧ To R Pr w w' := by
  have hR1 := hR.new (.cells #[.int .i64 0, .int .i64 0] 33)
  obtain ⟨c0, c1, c2⟩ := hR1.cells
  have hRlt := hR.lt
  have hprl := Lib.hid hR.pr_lt
  have HR1 := Lib.hid hR1; clear hR1 hR
  have HF := Lib.hid (FB.new w 0 0)
  have hi1 : (i : Int) < s.size := by omega
  have b1 : ((s[i].toNat : Int) == (q : Int)) = false := by simp; omega
  clear hm
  have hfd : ∀ w1 : World, RI w1 R s i q out (fun k => k = w.heap.size ∨ Pr k) → Calls Tryd.prog 33 #[.pointer (some ⟨R, 0, none⟩)] w1 fun e w' => e = .returned (.tuple #[.int .i64 (n : Int), .agg #[.int .i64 0, .int .i64 0]]) ∧ RI w' R s i q out (fun k => k = w.heap.size ∨ Pr k) ∧ To R (fun k => k = w.heap.size ∨ Pr k) w1 w' := fun w1 h => feed_is R s i q out _ w1 h hin hs n (-1) hf
  clear hf
  have HFD := Lib.hid hfd; clear hfd
  go_enter Tryd.func112, Tryd.ntmps112
  go_wp2
  refine wp_region_later _ (by kernel_rfl) (by kernel_rfl) (Below.refl _ _) ?_
  repeat (go_big_quiet_step (fail))
  refine wpQuiet_nil ?_
  rintro w1 ⟨⟨_, hb1⟩, rfl⟩
  clear c0 c1 c2
  have HR2 := Lib.hid (HR1.out.keep hb1 (Nat.le_refl _))
  have HF2 := Lib.hid (HF.out.keep hb1 (Nat.le_refl _))
  have HT2 := Lib.hid ((To.new hRlt hprl.out (.cells #[.int .i64 0, .int .i64 0] 33)).more hRlt hprl.out hb1 (by simp))
  clear hb1
  go_wp2_with fail
  refine (HFD.out _ HR2.out).mono ?_
  rintro e w3 ⟨rfl, hR3, hT3⟩
  have HR3 := Lib.hid hR3; clear hR3
  have hF3 := FB.prot HF2.out hT3.prot (.inl rfl)
  have HT3 := Lib.hid (HT2.out.step hT3.below hT3.prot (fun k hk => .inr hk)); clear hT3
  obtain ⟨f0, f1, g0, g1, hlt3⟩ := hF3.cells
  have HF3 := Lib.hid hF3; clear hF3
  have hn0I : (0 : Int) < (n : Int) := by omega
  go_wp2_with fail
  have hF4 := HF3.out.put 0 0
  have hR4 := (HR3.out.setF (.inl rfl) 0 (.int .i64 0)).setF (.inl rfl) 1 (.int .i64 0)
  have hT4 := (HT3.out.setN hRlt hprl.out (Nat.le_refl _) 0 (.int .i64 0)).setN hRlt hprl.out (Nat.le_refl _) 1 (.int .i64 0)
  clear f0 f1 g0 g1 hlt3
  generalize (w3.setCell ⟨w.heap.size, 0, none⟩ (.int .i64 0)).setCell ⟨w.heap.size, 1, none⟩ (.int .i64 0) = w4 at hF4 hR4 hT4 ⊢
  have HF4 := Lib.hid hF4; clear hF4
  have HR4 := Lib.hid hR4; clear hR4
  have HT4 := Lib.hid hT4; clear hT4
  obtain ⟨d0, d1, _, _⟩ := HR4.out.cells0
  obtain ⟨cap, w5, hrun, hb5, hs5, hS5⟩ := conv_sb (P := Tryd.prog) w4.drew 9 40 5 (s.extract i (i + n)) Tryd.underlying9 Tryd.underlying40 Tryd.underlying5
  have hxs : (s.extract i (i + n)).size = n := by rw [ByteArray.size_extract]; omega
  have hlt4 := HR4.out.lt
  rw [hxs] at hrun
  have HS5 := Lib.hid hS5; clear hS5
  have HX := Lib.hid hxs; clear hxs
  have HR5 := Lib.hid ((HR4.out.keep (Below.refl w4.heap.size w4).drew (Nat.le_refl _)).keep hb5 (Nat.le_refl _))
  have HF5 := Lib.hid ((HF4.out.keep (Below.refl w4.heap.size w4).drew (Nat.le_refl _)).keep hb5 (Nat.le_refl _))
  have HT5 := Lib.hid ((HT4.out.more hRlt hprl.out (Below.refl w.heap.size w4).drew (Nat.le_refl _)).more hRlt hprl.out hb5 (by have := HT4.out.below.size; simpa using this))
  clear hb5 hs5
  have hw1 : IntKind.i64.wrap ((i : Int) + (n : Int)) = (i : Int) + (n : Int) := IntWalk.i64_in _ (by omega)
  have hn1 : ((i : Int) + (n : Int)).toNat = i + n := by omega
  have h02 : (i : Int) + (n : Int) ≤ (s.size : Int) := by omega
  have h03 : (i : Int) ≤ (i : Int) + (n : Int) := by omega
  go_region_with (go_at_call 78; refine (take_any R s i q out _ n _ n cap (s.extract i (i + n)).data.toList HX.out.symm w5 HR5.out HS5.out (by omega) (by omega) (by omega) (by have : (s.extract i (i + n)).data.toList.length = n := HX.out; omega) (fun a e _ => by injection e with e; subst e; show w4.drew.heap.size ≠ R; simp; omega)).mono ?_; rintro e w6 ⟨rfl, hR6, hb6, hp6⟩; have HR6 := Lib.hid hR6; clear hR6; have hF6 := FB.prot HF5.out hp6 (.inl rfl); have HT6 := Lib.hid (HT5.out.step hb6 hp6 (fun k hk => .inr hk)); clear hb6 hp6; obtain ⟨f0, f1, g0, g1, hlt6⟩ := hF6.cells; have HF6 := Lib.hid hF6; clear hF6)
  all_goals (
    clear hw1 hn1 h02 h03 hrun d0 d1
    go_wp2_with fail
    go_region
    all_goals (
      go_wp2
      refine bodyPost_ret (v := .tuple #[.bool true, .bool false, .agg #[.int .i64 0, .int .i64 0]]) (by simp [results, Tryd.results112, go_sem, f0, f1]) rfl ⟨rfl, ?_, ?_⟩
      · exact (((HR6.out.setF (.inl rfl) 0 _).setF (.inl rfl) 1 _).keep (Below.refl _ _).drew (Nat.le_refl _)).less fun k hk => .inr hk
      · exact ((HT6.out.setN hRlt hprl.out (Nat.le_refl _) 0 _).setN hRlt hprl.out (Nat.le_refl _) 1 _).more hRlt hprl.out (Below.refl w.heap.size _).drew (Nat.le_refl _)))

end Go.Proofs.YtflfedfghnnaeaaDoor
