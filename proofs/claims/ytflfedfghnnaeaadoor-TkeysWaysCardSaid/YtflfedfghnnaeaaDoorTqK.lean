/- Walks over package tquotes: the long kinds' steps at marks, and at bytes that stand for themselves; no statement of the seat is proved here. -/
import Derived.Test.YtflfedfghnnaeaaDoorTqJ
namespace Go.Proofs.YtflfedfghnnaeaaDoor
open Go.RowKit

set_option maxRecDepth 100000 in
set_option maxHeartbeats 4000000 in
theorem longBasic_mark (R : Nat) (s : ByteArray) (i q : Nat) (out : List UInt8) (Pr : Nat → Prop) (w : World) (hR : RI w R s i q out Pr) (hin : i < s.size) (hs : s.size ≤ 1073741000) (hq : q < 256) (ho : out.length ≤ 1073741000) (N : Nat) (hN : runB s.data.toList q 5 i = N) (hm : s[i].toNat = q) :
    Calls Tryd.prog 114 #[.agg #[.pointer (some ⟨R, 0, none⟩)]] w fun e w' => e = .returned (.tuple #[.bool (decide (3 ≤ N)), .agg #[.int .i64 0, .int .i64 0]]) ∧ RI w' R s (i + N) q (out ++ List.replicate (if 3 ≤ N then N - 3 else N) (UInt8.ofNat q)) Pr ∧ To R Pr w w' := by
  have hR1 := (hR.new (.cells #[.pointer (some ⟨R, 0, none⟩)] 97)).new (.cells #[.int .i64 0, .int .i64 0] 33)
  rw [size_new1] at hR1
  have hRlt := hR.lt
  have hprl := Lib.hid hR.pr_lt
  have HR1 := Lib.hid hR1; clear hR1 hR
  have hF0 := FB.new (w.alloc (.cells #[.pointer (some ⟨R, 0, none⟩)] 97)) 0 0
  rw [size_new1] at hF0
  have HF := Lib.hid hF0; clear hF0
  have hcm := fun w1 h => common_mark R s i q out (fun k => k = w.heap.size + 1 ∨ (k = w.heap.size ∨ Pr k)) w1 h hq hin (by omega) (by omega) N hN hm
  obtain ⟨M, hM⟩ : ∃ M, Hid ((if 3 ≤ N then N - 3 else N) = M) := ⟨_, Lib.hid rfl⟩
  obtain ⟨bo, hbo⟩ : ∃ bo, Hid (decide (3 ≤ N) = bo) := ⟨_, Lib.hid rfl⟩
  rw [hM.out, hbo.out] at hcm
  rw [hM.out, hbo.out]
  have HC := Lib.hid hcm; clear hcm hm hN
  go_enter Tryd.func114, Tryd.ntmps114
  go_wp2_with fail
  refine (HC.out _ HR1.out).mono ?_
  rintro e w2 ⟨rfl, hR2, hT2⟩
  have hF2 := FB.prot HF.out hT2.prot (.inl rfl)
  have hT3 := (step_to _ _ hRlt hprl.out hT2).alloc (by simp; omega) (fun k hk => by rcases hk with rfl | hk; simp; have := hprl.out k hk; simp; omega) (.cells #[.int .i64 0, .int .i64 0] 33)
  have hR3 := hR2.keep (below_new1 w2 (.cells #[.int .i64 0, .int .i64 0] 33)) (Nat.le_refl _)
  have hFF := hF2.keep (below_new1 w2 (.cells #[.int .i64 0, .int .i64 0] 33)) (Nat.le_refl _)
  have hFf := FB.new w2 0 0
  clear hR2 hT2 hF2
  go_wp2_with fail
  obtain ⟨w3, hw3⟩ : ∃ w3, w3 = w2.alloc (.cells #[.int .i64 0, .int .i64 0] 33) := ⟨_, rfl⟩
  rw [← hw3] at hT3 hR3 hFF hFf ⊢
  clear hw3
  obtain ⟨f0, f1, g0, g1, hltF⟩ := hFF.cells
  obtain ⟨k0, k1, _, _, _⟩ := hFf.cells
  have HR3 := Lib.hid hR3; clear hR3
  have HT3 := Lib.hid hT3; clear hT3 hFF hFf
  go_region
  all_goals (
    go_wp2
    refine bodyPost_ret (v := .tuple #[.bool bo, .agg #[.int .i64 0, .int .i64 0]]) (by simp [results, Tryd.results114, go_sem, f0, f1]) rfl ⟨rfl, ?_⟩
    have hfin := step_fin (.cells #[.pointer (some ⟨R, 0, none⟩)] 97) hRlt hprl.out HR3.out HT3.out (.int .i64 0) (.int .i64 0)
    exact ⟨hfin.1.keep (Below.refl _ _).drew (Nat.le_refl _), ⟨hfin.2.below.drew, hfin.2.prot⟩⟩)

set_option maxRecDepth 100000 in
set_option maxHeartbeats 4000000 in
theorem longBasic_ok (R : Nat) (s : ByteArray) (i q : Nat) (out : List UInt8) (Pr : Nat → Prop) (w : World) (hR : RI w R s i q out Pr) (hin : i < s.size) (hs : s.size ≤ 1073741000) (ho : out.length ≤ 1073741000) (hm : s[i].toNat ≠ q) (hf : feedT s.data.toList i = (0, -1)) (h92 : s[i].toNat ≠ 92) (hp : plainB s[i].toNat = true) :
    Calls Tryd.prog 114 #[.agg #[.pointer (some ⟨R, 0, none⟩)]] w fun e w' => e = .returned (.tuple #[.bool false, .agg #[.int .i64 0, .int .i64 0]]) ∧ RI w' R s (i + 1) q (out ++ [s[i]]) Pr ∧ To R Pr w w' := by
  have hR1 := (hR.new (.cells #[.pointer (some ⟨R, 0, none⟩)] 97)).new (.cells #[.int .i64 0, .int .i64 0] 33)
  rw [size_new1] at hR1
  have hRlt := hR.lt
  have hprl := Lib.hid hR.pr_lt
  have HR1 := Lib.hid hR1; clear hR1 hR
  have hF0 := FB.new (w.alloc (.cells #[.pointer (some ⟨R, 0, none⟩)] 97)) 0 0
  rw [size_new1] at hF0
  have HF := Lib.hid hF0; clear hF0
  have HB := Lib.hid ((BX.new w R 97).keep (below_new1 _ (.cells #[.int .i64 0, .int .i64 0] 33)) (Nat.le_refl _))
  have HC := Lib.hid (fun w1 (h : RI w1 R s i q out (fun k => k = w.heap.size + 1 ∨ (k = w.heap.size ∨ Pr k))) => common_none R s i q out _ w1 h hin (by omega) (-1) (.inl rfl) hf hm)
  have HI := Lib.hid (fun w1 (h : RI w1 R s i q out (fun k => k = w.heap.size + 1 ∨ (k = w.heap.size ∨ Pr k))) => itself_ok R s i q out _ w1 h hin (by omega) (by omega) hp)
  have b92 : ((s[i].toNat : Int) != 92) = true := by simp; omega
  have hi1 : (i : Int) < s.size := by omega
  clear hm hf h92 hp
  go_enter Tryd.func114, Tryd.ntmps114
  go_wp2_with fail
  refine (HC.out _ HR1.out).mono ?_
  rintro e w2 ⟨rfl, hR2, hT2⟩
  have hF2 := FB.prot HF.out hT2.prot (.inl rfl)
  have hB2 := BX.prot HB.out hT2.prot (.inr (.inl rfl))
  have hT3 : To R (fun k => k = w.heap.size + 1 ∨ (k = w.heap.size ∨ Pr k)) ((w.alloc (.cells #[.pointer (some ⟨R, 0, none⟩)] 97)).alloc (.cells #[.int .i64 0, .int .i64 0] 33)) (w2.alloc (.cells #[.int .i64 0, .int .i64 0] 33)) := step_on hT2 (To.new hR2.lt hR2.pr_lt _)
  have hR3 := hR2.keep (below_new1 w2 (.cells #[.int .i64 0, .int .i64 0] 33)) (Nat.le_refl _)
  have hFF := hF2.keep (below_new1 w2 (.cells #[.int .i64 0, .int .i64 0] 33)) (Nat.le_refl _)
  have hBB := hB2.keep (below_new1 w2 (.cells #[.int .i64 0, .int .i64 0] 33)) (Nat.le_refl _)
  clear hR2 hT2 hF2 hB2
  go_wp2_with fail
  obtain ⟨w3, hw3⟩ : ∃ w3, w3 = w2.alloc (.cells #[.int .i64 0, .int .i64 0] 33) := ⟨_, rfl⟩
  rw [← hw3] at hT3 hR3 hFF hBB ⊢
  clear hw3
  have HR3 := Lib.hid hR3; clear hR3
  have HF3 := Lib.hid hFF; clear hFF
  have HB3 := Lib.hid hBB; clear hBB
  have HT3 := Lib.hid hT3; clear hT3
  obtain ⟨c0, c1, _⟩ := HR3.out.cells
  have xn : ∀ n : Later w3, n.at_.cell? ⟨w.heap.size, 0, none⟩ = some (.pointer (some ⟨R, 0, none⟩)) := fun n => (HB3.out.keep n.below (Nat.le_refl _)).cell
  refine wp_region_later w3 (by kernel_rfl) (by kernel_rfl) (Below.refl _ _) ?_
  repeat (go_big_quiet_step (fail))
  refine wpQuiet_nil ?_
  rintro w4 ⟨⟨_, hb4⟩, rfl⟩
  clear c0 c1 xn b92
  have HR4 := Lib.hid (HR3.out.keep hb4 (Nat.le_refl _))
  have HF4 := Lib.hid (HF3.out.keep hb4 (Nat.le_refl _))
  have x0 := (HB3.out.keep hb4 (Nat.le_refl _)).cell
  have HT4 := Lib.hid (step_on HT3.out ((To.refl R (fun k => k = w.heap.size + 1 ∨ (k = w.heap.size ∨ Pr k)) w3).more HR3.out.lt HR3.out.pr_lt hb4 (Nat.le_refl _)))
  clear hb4
  go_wp2_with fail
  refine (HI.out _ HR4.out).mono ?_
  rintro e w5 ⟨rfl, hR5, hT5⟩
  clear x0
  obtain ⟨f0, f1, g0, g1, hltF⟩ := (FB.prot HF4.out hT5.prot (.inl rfl)).cells
  have HT5 := Lib.hid (step_on HT4.out hT5); clear hT5
  have HR5 := Lib.hid hR5; clear hR5
  go_wp2
  exact bodyPost_ret (v := .tuple #[.bool false, .agg #[.int .i64 0, .int .i64 0]]) (by simp [results, Tryd.results114, go_sem, f0, f1]) rfl ⟨rfl, step_fin (.cells #[.pointer (some ⟨R, 0, none⟩)] 97) hRlt hprl.out HR5.out (step_to _ _ hRlt hprl.out HT5.out) _ _⟩

end Go.Proofs.YtflfedfghnnaeaaDoor
