/- Walks over package tquotes: escaped; no statement of the seat is proved here. -/
import Derived.Test.YtflfedfghnnaeaaDoorTqE
namespace Go.Proofs.YtflfedfghnnaeaaDoor
open Go.RowKit

/-- A row of the table of short escapes. -/
theorem sh_all (k : Nat) (h : k < 7) : ∃ x y : UInt8, Hid (∃ h : k < shortT.length, shortT[k] = (x.toNat, y.toNat)) ∧ ∀ w, (Instr.index 83 (.agg #[.int .u8 98, .int .u8 8, .int .u8 116, .int .u8 9, .int .u8 110, .int .u8 10, .int .u8 102, .int .u8 12, .int .u8 114, .int .u8 13, .int .u8 34, .int .u8 34, .int .u8 92, .int .u8 92]) (.int .i64 (k : Int))).run Tryd.prog w = .ok (.agg #[.int .u8 ((x.toNat : Nat) : Int), .int .u8 ((y.toNat : Nat) : Int)]) w := by
  have hk : k = 0 ∨ k = 1 ∨ k = 2 ∨ k = 3 ∨ k = 4 ∨ k = 5 ∨ k = 6 := by omega
  rcases hk with rfl | rfl | rfl | rfl | rfl | rfl | rfl
  · exact ⟨98, 8, ⟨by decide, rfl⟩, fun _ => by kernel_rfl⟩
  · exact ⟨116, 9, ⟨by decide, rfl⟩, fun _ => by kernel_rfl⟩
  · exact ⟨110, 10, ⟨by decide, rfl⟩, fun _ => by kernel_rfl⟩
  · exact ⟨102, 12, ⟨by decide, rfl⟩, fun _ => by kernel_rfl⟩
  · exact ⟨114, 13, ⟨by decide, rfl⟩, fun _ => by kernel_rfl⟩
  · exact ⟨34, 34, ⟨by decide, rfl⟩, fun _ => by kernel_rfl⟩
  · exact ⟨92, 92, ⟨by decide, rfl⟩, fun _ => by kernel_rfl⟩
theorem Glob.cells {w : World} (h : Glob w) : w.cell? ⟨0, 0, none⟩ = some (.int .u8 98) ∧ w.cell? ⟨0, 1, none⟩ = some (.int .u8 8) ∧ w.cell? ⟨0, 2, none⟩ = some (.int .u8 116) ∧ w.cell? ⟨0, 3, none⟩ = some (.int .u8 9) ∧
    w.cell? ⟨0, 4, none⟩ = some (.int .u8 110) ∧ w.cell? ⟨0, 5, none⟩ = some (.int .u8 10) ∧ w.cell? ⟨0, 6, none⟩ = some (.int .u8 102) ∧ w.cell? ⟨0, 7, none⟩ = some (.int .u8 12) ∧
    w.cell? ⟨0, 8, none⟩ = some (.int .u8 114) ∧ w.cell? ⟨0, 9, none⟩ = some (.int .u8 13) ∧ w.cell? ⟨0, 10, none⟩ = some (.int .u8 34) ∧ w.cell? ⟨0, 11, none⟩ = some (.int .u8 34) ∧
    w.cell? ⟨0, 12, none⟩ = some (.int .u8 92) ∧ w.cell? ⟨0, 13, none⟩ = some (.int .u8 92) :=
  ⟨h.shorts 0 _ rfl, h.shorts 1 _ rfl, h.shorts 2 _ rfl, h.shorts 3 _ rfl, h.shorts 4 _ rfl, h.shorts 5 _ rfl, h.shorts 6 _ rfl, h.shorts 7 _ rfl, h.shorts 8 _ rfl, h.shorts 9 _ rfl, h.shorts 10 _ rfl, h.shorts 11 _ rfl, h.shorts 12 _ rfl, h.shorts 13 _ rfl⟩

/-- What unit does, from whatever world. -/
def UnitC (R : Nat) (s : ByteArray) (i q : Nat) (out : List UInt8) (Pr : Nat → Prop) (w : World) (d : Nat) (c a : Int) (j : Nat) (out' : List UInt8) : Prop :=
  ∀ w1 : World, RI w1 R s i q out Pr → Below w.heap.size w w1 → Calls Tryd.prog 81 #[.pointer (some ⟨R, 0, none⟩), .int .i64 (d : Int)] w1 fun e w' => e = .returned (.agg #[.int .i64 c, .int .i64 a]) ∧ RI w' R s j q out' Pr ∧ To R Pr w1 w'

set_option maxRecDepth 100000 in
set_option maxHeartbeats 4000000 in
theorem escaped_is (R : Nat) (s : ByteArray) (i q : Nat) (out : List UInt8) (Pr : Nat → Prop) (w : World) (hR : RI w R s i q out Pr) (hG : Glob w) (hin : i < s.size) (hs : s.size ≤ 1073741000) (ho : out.length ≤ 1073741000) (c a : Int) (j : Nat) (out' : List UInt8)
    (hT : (s.size ≤ i + 1 ∧ c = 3 ∧ a = s.size ∧ j = i ∧ out' = out) ∨ (i + 1 < s.size ∧ ((∃ b, shortFrom (bt s.data.toList (i + 1)) 0 = some b ∧ c = 0 ∧ a = 0 ∧ j = i + 2 ∧ out' = out ++ [UInt8.ofNat b]) ∨
      (shortFrom (bt s.data.toList (i + 1)) 0 = none ∧ ((bt s.data.toList (i + 1) = 117 ∧ UnitC R s i q out (fun k => k = w.heap.size ∨ Pr k) (w.alloc (.cells #[.int .i64 0, .int .i64 0] 33)) 4 c a j out') ∨ (bt s.data.toList (i + 1) = 85 ∧ UnitC R s i q out (fun k => k = w.heap.size ∨ Pr k) (w.alloc (.cells #[.int .i64 0, .int .i64 0] 33)) 8 c a j out') ∨ (bt s.data.toList (i + 1) ≠ 117 ∧ bt s.data.toList (i + 1) ≠ 85 ∧ c = 3 ∧ a = (i : Int) + 1 ∧ j = i ∧ out' = out)))))) :
    Calls Tryd.prog 80 #[.pointer (some ⟨R, 0, none⟩)] w fun e w' => e = .returned (.agg #[.int .i64 c, .int .i64 a]) ∧ RI w' R s j q out' Pr ∧ To R Pr w w' := by
  have hR1 := hR.new (.cells #[.int .i64 0, .int .i64 0] 33)
  obtain ⟨c0, c1, _⟩ := hR1.cells
  have hRlt := hR.lt
  have hprl := Lib.hid hR.pr_lt
  have HR1 := Lib.hid hR1; clear hR1 hR
  have HF := Lib.hid (FB.new w 0 0)
  have HG := Lib.hid hG; clear hG
  have hw1 : IntKind.i64.wrap ((i : Int) + 1) = (i : Int) + 1 := IntWalk.i64_in _ (by omega)
  rcases hT with ⟨hsz, rfl, rfl, rfl, rfl⟩ | ⟨hsz, hT⟩
  · have be : ((j : Int) + 1 == (s.size : Int)) = true := by simp; omega
    go_enter Tryd.func80, Tryd.ntmps80
    go_wp2
    refine wp_region_later _ (by kernel_rfl) (by kernel_rfl) (Below.refl _ _) ?_
    repeat (go_big_quiet_step (fail))
    refine wpQuiet_nil ?_
    rintro w1 ⟨⟨_, hb1⟩, rfl⟩
    have HR2 := Lib.hid (HR1.out.keep hb1 (Nat.le_refl _))
    obtain ⟨d0, _, _, _⟩ := HR2.out.cells0
    clear c0 c1 hw1 be
    go_wp2_with fail
    refine (wrong_any _ _).mono ?_
    rintro e w3 ⟨rfl, hb3⟩
    have hb13 := hb1.trans (hb3.mono hb1.size)
    obtain ⟨f0, f1, g0, g1, hlt3⟩ := (HF.out.keep hb13 (Nat.le_refl _)).cells
    go_wp2
    exact bodyPost_ret (v := .agg #[.int .i64 3, .int .i64 (s.size : Int)]) (by simp [results, Tryd.results80, go_sem, f0, f1]) rfl ⟨rfl, FB.fin hRlt hprl.out (HR1.out.keep hb13 (Nat.le_refl _)) ((To.new hRlt hprl.out _).more hRlt hprl.out hb13 (by simp)) _ _⟩
  · have be : ((i : Int) + 1 == (s.size : Int)) = false := by simp; omega
    have h01 : (0 : Int) ≤ (i : Int) + 1 := by omega
    have h02 : (i : Int) + 1 < (s.size : Int) := by omega
    have hn1 : ((i : Int) + 1).toNat = i + 1 := by omega
    have HT := Lib.hid hT; clear hT
    have hbt := Lib.hid (bt_str hsz)
    go_enter Tryd.func80, Tryd.ntmps80
    go_wp2
    refine wp_region_later _ (by kernel_rfl) (by kernel_rfl) (Below.refl _ _) ?_
    repeat (go_big_quiet_step (fail))
    refine wpQuiet_nil ?_
    rintro w1 ⟨⟨_, hb1⟩, rfl⟩
    go_wp2
    refine wp_region_later (w.alloc (.cells #[.int .i64 0, .int .i64 0] 33)) (by kernel_rfl) (by kernel_rfl) hb1 ?_
    repeat (go_big_quiet_step (fail))
    refine wpQuiet_nil ?_
    rintro w2 ⟨⟨_, hb2⟩, rfl⟩
    clear c0 c1 hw1 be hb1
    obtain ⟨q0, q1, q2, q3, q4, q5, q6, q7, q8, q9, q10, q11, q12, q13⟩ := ((HG.out.keep (below_new1 w _) (Nat.le_refl _)).keep hb2 (Nat.le_refl _)).cells
    go_wp2_with fail
    clear q0 q1 q2 q3 q4 q5 q6 q7 q8 q9 q10 q11 q12 q13
    go_loopg [34] 8 (fun g s34 wr => ∃ k : Nat, s34 = .int .i64 k ∧ k ≤ 7 ∧ Hid (g = 8 - k) ∧ Hid (shortFrom s[i + 1].toNat k = shortFrom s[i + 1].toNat 0) ∧ Hid (Below (w.alloc (.cells #[.int .i64 0, .int .i64 0] 33)).heap.size (w.alloc (.cells #[.int .i64 0, .int .i64 0] 33)) wr))
    case atStart => exact ⟨0, rfl, by omega, rfl, rfl, hb2⟩
    case round =>
      obtain ⟨k, rfl, hk, hg, hr, hbw⟩ := hrel
      have HR2 := Lib.hid (HR1.out.keep hbw.out (Nat.le_refl _))
      have HF2 := Lib.hid (HF.out.keep hbw.out (Nat.le_refl _))
      have HT2 := Lib.hid ((To.new hRlt hprl.out (.cells #[.int .i64 0, .int .i64 0] 33)).more hRlt hprl.out hbw.out (by simp))
      have hlt2 : w.heap.size < wr.heap.size := by have := hbw.out.size; simp at this; omega
      by_cases hlt : k < 7
      · obtain ⟨x, y, hxy, hix⟩ := sh_all k hlt
        by_cases heq : s[i + 1].toNat = x.toNat
        · have hb : ((s[i + 1].toNat : Int) == (x.toNat : Int)) = true := by simp; omega
          have hres : Hid (c = 0 ∧ a = 0 ∧ j = i + 2 ∧ out' = out ++ [y]) := by
            obtain ⟨h8, e8⟩ := hxy.out
            have h1 := shortFrom_yes (c := s[i + 1].toNat) h8 (by rw [e8]; exact heq.symm)
            rw [hr.out, e8] at h1
            rcases HT.out with ⟨b, hb, h2, h3, h4, h5⟩ | ⟨hb, _⟩
            · rw [hbt.out, h1] at hb
              injection hb with hb
              refine ⟨h2, h3, h4, ?_⟩
              rw [h5, ← hb]; simp
            · rw [hbt.out, h1] at hb; cases hb
          obtain ⟨rfl, rfl, rfl, rfl⟩ := hres.out
          clear heq hres
          go_wp2_with fail
          refine (take_at _ R s i q out _ 2 (by rfl) _ 1 1 [y] rfl _ ((HR2.out.keep (below_new1 wr _) (Nat.le_refl _)).keep (below_new1 _ _) (Nat.le_refl _)) (by have := BS.made (wr.alloc (.cells #[.int .u8 ((x.toNat : Nat) : Int), .int .u8 ((y.toNat : Nat) : Int)] 82)) [y] 5 (0, 0); simpa using this) (by omega) (by omega) (by omega) (by simp) (fun a e _ => by injection e with e; subst e; have := HR2.out.lt; show wr.heap.size + 1 ≠ R; omega)).mono ?_
          rintro e w6 ⟨rfl, hR6, hb6, hp6⟩
          have hF6 := FB.prot (F := w.heap.size) (a := 0) (b := 0) ((HF2.out.keep (below_new1 wr _) (Nat.le_refl _)).keep (below_new1 _ _) (Nat.le_refl _)) hp6 (.inl rfl)
          have HT6 := Lib.hid (((HT2.out.alloc hRlt hprl.out _).alloc hRlt hprl.out _).step hb6 hp6 (fun k hk => .inr hk)); clear hb6 hp6
          have HR6 := Lib.hid hR6; clear hR6
          obtain ⟨f0, f1, g0, g1, hlt6⟩ := hF6.cells
          clear hF6
          go_wp2
          exact bodyPost_ret (v := .agg #[.int .i64 0, .int .i64 0]) (by simp [results, Tryd.results80, go_sem, f0, f1]) rfl ⟨rfl, FB.fin hRlt hprl.out HR6.out HT6.out _ _⟩
        · have hb : ((s[i + 1].toNat : Int) == (x.toNat : Int)) = false := by simp; omega
          have hr' : Hid (shortFrom s[i + 1].toNat (k + 1) = shortFrom s[i + 1].toNat 0) := by
            obtain ⟨h8, e8⟩ := hxy.out
            show _ = _
            rw [← hr.out, ← shortFrom_no h8 (by rw [e8]; exact fun h => heq h.symm)]
          clear heq
          go_wp2
          go_roundg (8 - (k + 1))
          case measure => have := hg.out; omega
          case rel => exact ⟨k + 1, by go_num, by omega, rfl, hr', hbw.out.trans ((below_new1 wr _).mono hbw.out.size)⟩
      · have hk7 : k = 7 := by omega
        have hnone : shortFrom (bt s.data.toList (i + 1)) 0 = none := by
          rw [hbt.out, ← hr.out, hk7, shortFrom_end]
        have hT' : Hid ((bt s.data.toList (i + 1) = 117 ∧ UnitC R s i q out (fun k => k = w.heap.size ∨ Pr k) (w.alloc (.cells #[.int .i64 0, .int .i64 0] 33)) 4 c a j out') ∨ (bt s.data.toList (i + 1) = 85 ∧ UnitC R s i q out (fun k => k = w.heap.size ∨ Pr k) (w.alloc (.cells #[.int .i64 0, .int .i64 0] 33)) 8 c a j out') ∨ (bt s.data.toList (i + 1) ≠ 117 ∧ bt s.data.toList (i + 1) ≠ 85 ∧ c = 3 ∧ a = (i : Int) + 1 ∧ j = i ∧ out' = out)) := by
          rcases HT.out with ⟨b, hb, _⟩ | ⟨_, h⟩
          · rw [hnone] at hb; cases hb
          · exact h
        clear hk7 hnone HT
        rcases hT'.out with ⟨h117, hU⟩ | ⟨h85, hU⟩ | ⟨h117, h85, rfl, rfl, hj0, ho0⟩
        · have b117 : ((s[i + 1].toNat : Int) == 117) = true := by rw [hbt.out] at h117; simp; omega
          have HU := Lib.hid hU; clear hU h117 hT'
          go_wp2_with fail
          refine (HU.out wr HR2.out hbw.out).mono ?_
          rintro e w6 ⟨rfl, hR6, hT6⟩
          have hF6 := FB.prot (F := w.heap.size) (a := 0) (b := 0) HF2.out hT6.prot (.inl rfl)
          have HT6 := Lib.hid (HT2.out.step hT6.below hT6.prot (fun k hk => .inr hk)); clear hT6
          have HR6 := Lib.hid hR6; clear hR6
          obtain ⟨f0, f1, g0, g1, hlt6⟩ := hF6.cells
          clear hF6
          go_wp2
          exact bodyPost_ret (v := .agg #[.int .i64 c, .int .i64 a]) (by simp [results, Tryd.results80, go_sem, f0, f1]) rfl ⟨rfl, FB.fin hRlt hprl.out HR6.out HT6.out _ _⟩
        · have b117 : ((s[i + 1].toNat : Int) == 117) = false := by rw [hbt.out] at h85; simp; omega
          have b85 : ((s[i + 1].toNat : Int) == 85) = true := by rw [hbt.out] at h85; simp; omega
          have HU := Lib.hid hU; clear hU h85 hT'
          go_wp2_with fail
          refine (HU.out wr HR2.out hbw.out).mono ?_
          rintro e w6 ⟨rfl, hR6, hT6⟩
          have hF6 := FB.prot (F := w.heap.size) (a := 0) (b := 0) HF2.out hT6.prot (.inl rfl)
          have HT6 := Lib.hid (HT2.out.step hT6.below hT6.prot (fun k hk => .inr hk)); clear hT6
          have HR6 := Lib.hid hR6; clear hR6
          obtain ⟨f0, f1, g0, g1, hlt6⟩ := hF6.cells
          clear hF6
          go_wp2
          exact bodyPost_ret (v := .agg #[.int .i64 c, .int .i64 a]) (by simp [results, Tryd.results80, go_sem, f0, f1]) rfl ⟨rfl, FB.fin hRlt hprl.out HR6.out HT6.out _ _⟩
        · have hj1 := hj0.symm; have ho1 := ho0.symm; clear hj0 ho0; subst hj1 ho1
          have b117 : ((s[i + 1].toNat : Int) == 117) = false := by rw [hbt.out] at h117; simp; omega
          have b85 : ((s[i + 1].toNat : Int) == 85) = false := by rw [hbt.out] at h85; simp; omega
          clear h117 h85 hT'
          obtain ⟨_, d1, _, _⟩ := HR2.out.cells0
          go_wp2_with fail
          refine (wrong_any _ _).mono ?_
          rintro e w3 ⟨rfl, hb3⟩
          obtain ⟨f0, f1, g0, g1, hlt3⟩ := (HF2.out.keep hb3 (Nat.le_refl _)).cells
          go_wp2
          exact bodyPost_ret (v := .agg #[.int .i64 3, .int .i64 ((i : Int) + 1)]) (by simp [results, Tryd.results80, go_sem, f0, f1]) rfl ⟨rfl, FB.fin hRlt hprl.out (HR2.out.keep hb3 (Nat.le_refl _)) (HT2.out.more hRlt hprl.out hb3 (by omega)) _ _⟩

end Go.Proofs.YtflfedfghnnaeaaDoor
