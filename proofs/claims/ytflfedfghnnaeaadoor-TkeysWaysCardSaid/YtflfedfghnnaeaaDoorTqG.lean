/- Walks over package tquotes: the steps; no statement of the seat is proved here. -/
import Derived.Test.YtflfedfghnnaeaaDoorTqF
namespace Go.Proofs.YtflfedfghnnaeaaDoor
open Go.RowKit

/-- A boxed receiver: the reader's address. -/
def BX (w : World) (B : Nat) (R : Nat) (t : TypeId) : Prop := w.heap[B]? = some (.cells #[.pointer (some ⟨R, 0, none⟩)] t (0, 0))
theorem BX.cell {w : World} {B R : Nat} {t : TypeId} (h : BX w B R t) : w.cell? ⟨B, 0, none⟩ = some (.pointer (some ⟨R, 0, none⟩)) := blk_cell h 0
theorem BX.keep {w w' : World} {B0 R : Nat} {t : TypeId} (h : BX w B0 R t) {B : Nat} (hb : Below B w w') (hB : w.heap.size ≤ B) : BX w' B0 R t := blk_later h hb (Nat.lt_of_lt_of_le (blk_lt h) hB)
theorem BX.prot {w w' : World} {B R : Nat} {t : TypeId} {Pr : Nat → Prop} (h : BX w B R t) (hp : Prot Pr w w') (hF : Pr B) : BX w' B R t := (hp B hF).trans h
theorem BX.new (w : World) (R : Nat) (t : TypeId) : BX (w.alloc (.cells #[.pointer (some ⟨R, 0, none⟩)] t)) w.heap.size R t := heap_new1 w _

/-- The end of a step: a fault's cells in the block behind the boxed receiver's. -/
theorem step_fin {w w4 : World} {R : Nat} {s : ByteArray} {i q : Nat} {out : List UInt8} {Pr : Nat → Prop} (b : Obj) (hRlt : R < w.heap.size) (hprl : ∀ k, Pr k → k < w.heap.size) (h1 : RI w4 R s i q out (fun k => k = w.heap.size + 1 ∨ (k = w.heap.size ∨ Pr k))) (h2 : To R (fun k => k = w.heap.size ∨ Pr k) (w.alloc b) w4) (x y : Value) :
    RI ((w4.setCell ⟨w.heap.size + 1, 0, none⟩ x).setCell ⟨w.heap.size + 1, 1, none⟩ y) R s i q out Pr ∧ To R Pr w ((w4.setCell ⟨w.heap.size + 1, 0, none⟩ x).setCell ⟨w.heap.size + 1, 1, none⟩ y) := by
  have hsz : (w.alloc b).heap.size = w.heap.size + 1 := by simp
  refine ⟨((h1.setF (.inl rfl) 0 _).setF (.inl rfl) 1 _).less fun k hk => .inr (.inr hk), ?_⟩
  have h3 := ((h2.setN (by rw [hsz]; omega) (fun k hk => by rw [hsz]; rcases hk with rfl | hk; omega; have := hprl k hk; omega) (by rw [hsz]; exact Nat.le_refl _) 0 x).setN (F := w.heap.size + 1) (by rw [hsz]; omega) (fun k hk => by rw [hsz]; rcases hk with rfl | hk; omega; have := hprl k hk; omega) (by rw [hsz]; exact Nat.le_refl _) 1 y)
  exact (To.new hRlt hprl b).step h3.below h3.prot (fun k hk => .inr hk)

theorem step_to {w w2 : World} {R : Nat} {Pr : Nat → Prop} (b f : Obj) (hRlt : R < w.heap.size) (hprl : ∀ k, Pr k → k < w.heap.size) (h : To R (fun k => k = w.heap.size + 1 ∨ (k = w.heap.size ∨ Pr k)) ((w.alloc b).alloc f) w2) : To R (fun k => k = w.heap.size ∨ Pr k) (w.alloc b) w2 := by
  have hsz : (w.alloc b).heap.size = w.heap.size + 1 := by simp
  exact (To.new (by rw [hsz]; omega) (fun k hk => by rw [hsz]; rcases hk with rfl | hk; omega; have := hprl k hk; omega) f).step h.below h.prot (fun k hk => .inr hk)
theorem step_on {w w2 w3 : World} {R : Nat} {Pr : Nat → Prop} {b f : Obj} (h : To R (fun k => k = w.heap.size + 1 ∨ (k = w.heap.size ∨ Pr k)) ((w.alloc b).alloc f) w2) (h' : To R (fun k => k = w.heap.size + 1 ∨ (k = w.heap.size ∨ Pr k)) w2 w3) : To R (fun k => k = w.heap.size + 1 ∨ (k = w.heap.size ∨ Pr k)) ((w.alloc b).alloc f) w3 := ⟨h.below.trans h'.below, h.prot.trans h'.prot⟩

set_option maxRecDepth 100000 in
set_option maxHeartbeats 4000000 in
theorem literal_end (R : Nat) (s : ByteArray) (i q : Nat) (out : List UInt8) (Pr : Nat → Prop) (w : World) (hR : RI w R s i q out Pr) (hin : i < s.size) (hs : s.size ≤ 1073741000) (hq : s[i].toNat = q) :
    Calls Tryd.prog 76 #[.agg #[.pointer (some ⟨R, 0, none⟩)]] w fun e w' => e = .returned (.tuple #[.bool true, .agg #[.int .i64 0, .int .i64 0]]) ∧ RI w' R s (i + 1) q out Pr ∧ To R Pr w w' := by
  have hR1 := (hR.new (.cells #[.pointer (some ⟨R, 0, none⟩)] 94)).new (.cells #[.int .i64 0, .int .i64 0] 33)
  rw [size_new1] at hR1
  have hRlt := hR.lt
  have hprl := Lib.hid hR.pr_lt
  have HR1 := Lib.hid hR1; clear hR1 hR
  have hF0 := FB.new (w.alloc (.cells #[.pointer (some ⟨R, 0, none⟩)] 94)) 0 0
  rw [size_new1] at hF0
  have HF := Lib.hid hF0; clear hF0
  have HB := Lib.hid ((BX.new w R 94).keep (below_new1 _ (.cells #[.int .i64 0, .int .i64 0] 33)) (Nat.le_refl _))
  have hend := Lib.hid (fun w1 h => end_is R s i q out (fun k => k = w.heap.size + 1 ∨ (k = w.heap.size ∨ Pr k)) w1 h hin (by omega) true (decide_eq_true hq))
  clear hq
  go_enter Tryd.func76, Tryd.ntmps76
  go_wp2_with fail
  refine (hend.out _ HR1.out).mono ?_
  rintro e w2 ⟨rfl, hR2, hT2⟩
  have HR2 := Lib.hid hR2; clear hR2
  have hF2 := FB.prot HF.out hT2.prot (.inl rfl)
  have hB2 := BX.prot HB.out hT2.prot (.inr (.inl rfl))
  have HT2 := Lib.hid hT2; clear hT2
  obtain ⟨f0, f1, g0, g1, hlt2⟩ := hF2.cells
  have x0 := hB2.cell
  have HF2 := Lib.hid hF2; clear hF2
  have HB2 := Lib.hid hB2; clear hB2
  go_wp2
  exact bodyPost_ret (v := .tuple #[.bool true, .agg #[.int .i64 0, .int .i64 0]]) (by simp [results, Tryd.results76, go_sem, f0, f1]) rfl ⟨rfl, step_fin (.cells #[.pointer (some ⟨R, 0, none⟩)] 94) hRlt hprl.out (by have := HR2.out; simpa using this) (step_to _ _ hRlt hprl.out HT2.out) _ _⟩

set_option maxRecDepth 100000 in
set_option maxHeartbeats 4000000 in
theorem basic_end (R : Nat) (s : ByteArray) (i q : Nat) (out : List UInt8) (Pr : Nat → Prop) (w : World) (hR : RI w R s i q out Pr) (hin : i < s.size) (hs : s.size ≤ 1073741000) (hq : s[i].toNat = q) :
    Calls Tryd.prog 79 #[.agg #[.pointer (some ⟨R, 0, none⟩)]] w fun e w' => e = .returned (.tuple #[.bool true, .agg #[.int .i64 0, .int .i64 0]]) ∧ RI w' R s (i + 1) q out Pr ∧ To R Pr w w' := by
  have hR1 := (hR.new (.cells #[.pointer (some ⟨R, 0, none⟩)] 95)).new (.cells #[.int .i64 0, .int .i64 0] 33)
  rw [size_new1] at hR1
  have hRlt := hR.lt
  have hprl := Lib.hid hR.pr_lt
  have HR1 := Lib.hid hR1; clear hR1 hR
  have hF0 := FB.new (w.alloc (.cells #[.pointer (some ⟨R, 0, none⟩)] 95)) 0 0
  rw [size_new1] at hF0
  have HF := Lib.hid hF0; clear hF0
  have HB := Lib.hid ((BX.new w R 95).keep (below_new1 _ (.cells #[.int .i64 0, .int .i64 0] 33)) (Nat.le_refl _))
  have hend := Lib.hid (fun w1 h => end_is R s i q out (fun k => k = w.heap.size + 1 ∨ (k = w.heap.size ∨ Pr k)) w1 h hin (by omega) true (decide_eq_true hq))
  clear hq
  go_enter Tryd.func79, Tryd.ntmps79
  go_wp2_with fail
  refine (hend.out _ HR1.out).mono ?_
  rintro e w2 ⟨rfl, hR2, hT2⟩
  have HR2 := Lib.hid hR2; clear hR2
  have hF2 := FB.prot HF.out hT2.prot (.inl rfl)
  have hB2 := BX.prot HB.out hT2.prot (.inr (.inl rfl))
  have HT2 := Lib.hid hT2; clear hT2
  obtain ⟨f0, f1, g0, g1, hlt2⟩ := hF2.cells
  have x0 := hB2.cell
  have HF2 := Lib.hid hF2; clear hF2
  have HB2 := Lib.hid hB2; clear hB2
  go_wp2
  exact bodyPost_ret (v := .tuple #[.bool true, .agg #[.int .i64 0, .int .i64 0]]) (by simp [results, Tryd.results79, go_sem, f0, f1]) rfl ⟨rfl, step_fin (.cells #[.pointer (some ⟨R, 0, none⟩)] 95) hRlt hprl.out (by have := HR2.out; simpa using this) (step_to _ _ hRlt hprl.out HT2.out) _ _⟩

set_option maxRecDepth 100000 in
set_option maxHeartbeats 4000000 in
theorem literal_ok (R : Nat) (s : ByteArray) (i q : Nat) (out : List UInt8) (Pr : Nat → Prop) (w : World) (hR : RI w R s i q out Pr) (hin : i < s.size) (hs : s.size ≤ 1073741000) (ho : out.length ≤ 1073741000) (hq : s[i].toNat ≠ q) (hp : plainB s[i].toNat = true) :
    Calls Tryd.prog 76 #[.agg #[.pointer (some ⟨R, 0, none⟩)]] w fun e w' => e = .returned (.tuple #[.bool false, .agg #[.int .i64 0, .int .i64 0]]) ∧ RI w' R s (i + 1) q (out ++ [s[i]]) Pr ∧ To R Pr w w' := by
  have hR1 := (hR.new (.cells #[.pointer (some ⟨R, 0, none⟩)] 94)).new (.cells #[.int .i64 0, .int .i64 0] 33)
  rw [size_new1] at hR1
  have hRlt := hR.lt
  have hprl := Lib.hid hR.pr_lt
  have HR1 := Lib.hid hR1; clear hR1 hR
  have hF0 := FB.new (w.alloc (.cells #[.pointer (some ⟨R, 0, none⟩)] 94)) 0 0
  rw [size_new1] at hF0
  have HF := Lib.hid hF0; clear hF0
  have HB := Lib.hid ((BX.new w R 94).keep (below_new1 _ (.cells #[.int .i64 0, .int .i64 0] 33)) (Nat.le_refl _))
  have hend := Lib.hid (fun w1 h => end_is R s i q out (fun k => k = w.heap.size + 1 ∨ (k = w.heap.size ∨ Pr k)) w1 h hin (by omega) false (decide_eq_false hq))
  have hits := Lib.hid (fun w1 (h : RI w1 R s i q out (fun k => k = w.heap.size + 1 ∨ (k = w.heap.size ∨ Pr k))) => itself_ok R s i q out _ w1 h hin (by omega) (by omega) hp)
  clear hq hp
  go_enter Tryd.func76, Tryd.ntmps76
  go_wp2_with fail
  refine (hend.out _ HR1.out).mono ?_
  rintro e w2 ⟨rfl, hR2, hT2⟩
  rw [if_neg (by decide)] at hR2
  have HR2 := Lib.hid hR2; clear hR2
  have hF2 := FB.prot HF.out hT2.prot (.inl rfl)
  have hB2 := BX.prot HB.out hT2.prot (.inr (.inl rfl))
  have HT2 := Lib.hid hT2; clear hT2
  obtain ⟨f0, f1, g0, g1, hlt2⟩ := hF2.cells
  have x0 := hB2.cell
  have HF2 := Lib.hid hF2; clear hF2
  have HB2 := Lib.hid hB2; clear hB2
  go_wp2_with fail
  refine (hits.out _ HR2.out).mono ?_
  rintro e w3 ⟨rfl, hR3, hT3⟩
  clear x0 f0 f1 g0 g1 hlt2
  have HR3 := Lib.hid hR3; clear hR3
  have hF3 := FB.prot HF2.out hT3.prot (.inl rfl)
  have hB3 := BX.prot HB2.out hT3.prot (.inr (.inl rfl))
  have HT3 := Lib.hid (step_on HT2.out hT3); clear hT3
  obtain ⟨f0, f1, g0, g1, hlt3⟩ := hF3.cells
  have x0 := hB3.cell
  have HF3 := Lib.hid hF3; clear hF3
  have HB3 := Lib.hid hB3; clear hB3
  go_wp2
  exact bodyPost_ret (v := .tuple #[.bool false, .agg #[.int .i64 0, .int .i64 0]]) (by simp [results, Tryd.results76, go_sem, f0, f1]) rfl ⟨rfl, step_fin (.cells #[.pointer (some ⟨R, 0, none⟩)] 94) hRlt hprl.out HR3.out (step_to _ _ hRlt hprl.out HT3.out) _ _⟩

set_option maxRecDepth 100000 in
set_option maxHeartbeats 4000000 in
theorem basic_ok (R : Nat) (s : ByteArray) (i q : Nat) (out : List UInt8) (Pr : Nat → Prop) (w : World) (hR : RI w R s i q out Pr) (hin : i < s.size) (hs : s.size ≤ 1073741000) (ho : out.length ≤ 1073741000) (hq : s[i].toNat ≠ q) (hp : plainB s[i].toNat = true) (h92 : s[i].toNat ≠ 92) :
    Calls Tryd.prog 79 #[.agg #[.pointer (some ⟨R, 0, none⟩)]] w fun e w' => e = .returned (.tuple #[.bool false, .agg #[.int .i64 0, .int .i64 0]]) ∧ RI w' R s (i + 1) q (out ++ [s[i]]) Pr ∧ To R Pr w w' := by
  have hR1 := (hR.new (.cells #[.pointer (some ⟨R, 0, none⟩)] 95)).new (.cells #[.int .i64 0, .int .i64 0] 33)
  rw [size_new1] at hR1
  have hRlt := hR.lt
  have hprl := Lib.hid hR.pr_lt
  have HR1 := Lib.hid hR1; clear hR1 hR
  have hF0 := FB.new (w.alloc (.cells #[.pointer (some ⟨R, 0, none⟩)] 95)) 0 0
  rw [size_new1] at hF0
  have HF := Lib.hid hF0; clear hF0
  have HB := Lib.hid ((BX.new w R 95).keep (below_new1 _ (.cells #[.int .i64 0, .int .i64 0] 33)) (Nat.le_refl _))
  have hend := Lib.hid (fun w1 h => end_is R s i q out (fun k => k = w.heap.size + 1 ∨ (k = w.heap.size ∨ Pr k)) w1 h hin (by omega) false (decide_eq_false hq))
  have hits := Lib.hid (fun w1 (h : RI w1 R s i q out (fun k => k = w.heap.size + 1 ∨ (k = w.heap.size ∨ Pr k))) => itself_ok R s i q out _ w1 h hin (by omega) (by omega) hp)
  have b92 : ((s[i].toNat : Int) == 92) = false := by simp; omega
  have hi1 : (i : Int) < s.size := by omega
  clear h92
  clear hq hp
  go_enter Tryd.func79, Tryd.ntmps79
  go_wp2_with fail
  refine (hend.out _ HR1.out).mono ?_
  rintro e w2 ⟨rfl, hR2, hT2⟩
  rw [if_neg (by decide)] at hR2
  have HR2 := Lib.hid hR2; clear hR2
  have hF2 := FB.prot HF.out hT2.prot (.inl rfl)
  have hB2 := BX.prot HB.out hT2.prot (.inr (.inl rfl))
  have HT2 := Lib.hid hT2; clear hT2
  obtain ⟨f0, f1, g0, g1, hlt2⟩ := hF2.cells
  have x0 := hB2.cell
  have HF2 := Lib.hid hF2; clear hF2
  have HB2 := Lib.hid hB2; clear hB2
  obtain ⟨c0, c1, _⟩ := HR2.out.cells
  have xn : ∀ n : Later w2, n.at_.cell? ⟨w.heap.size, 0, none⟩ = some (.pointer (some ⟨R, 0, none⟩)) := fun n => (HB2.out.keep n.below (Nat.le_refl _)).cell
  go_wp2_with fail
  refine wp_region_later w2 (by kernel_rfl) (by kernel_rfl) (Below.refl _ _) ?_
  repeat (go_big_quiet_step (fail))
  refine wpQuiet_nil ?_
  rintro w3 ⟨⟨_, hb3⟩, rfl⟩
  clear c0 c1 xn x0 f0 f1 g0 g1 hlt2 b92
  have HR3 := Lib.hid (HR2.out.keep hb3 (Nat.le_refl _))
  have HF3 := Lib.hid (HF2.out.keep hb3 (Nat.le_refl _))
  have HB3 := Lib.hid (HB2.out.keep hb3 (Nat.le_refl _))
  have HT3 := Lib.hid (step_on HT2.out ((To.refl R (fun k => k = w.heap.size + 1 ∨ (k = w.heap.size ∨ Pr k)) w2).more HR2.out.lt HR2.out.pr_lt hb3 (Nat.le_refl _)))
  have x0 := HB3.out.cell
  clear hb3
  go_wp2_with fail
  refine (hits.out _ HR3.out).mono ?_
  rintro e w4 ⟨rfl, hR4, hT4⟩
  clear x0
  have HR4 := Lib.hid hR4; clear hR4
  have hF4 := FB.prot HF3.out hT4.prot (.inl rfl)
  have hB4 := BX.prot HB3.out hT4.prot (.inr (.inl rfl))
  have HT4 := Lib.hid (step_on HT3.out hT4); clear hT4
  obtain ⟨f0, f1, g0, g1, hlt4⟩ := hF4.cells
  have x0 := hB4.cell
  have HF4 := Lib.hid hF4; clear hF4
  have HB4 := Lib.hid hB4; clear hB4
  go_wp2
  exact bodyPost_ret (v := .tuple #[.bool false, .agg #[.int .i64 0, .int .i64 0]]) (by simp [results, Tryd.results79, go_sem, f0, f1]) rfl ⟨rfl, step_fin (.cells #[.pointer (some ⟨R, 0, none⟩)] 95) hRlt hprl.out HR4.out (step_to _ _ hRlt hprl.out HT4.out) _ _⟩

set_option maxRecDepth 100000 in
set_option maxHeartbeats 4000000 in
theorem literal_bad (R : Nat) (s : ByteArray) (i q : Nat) (out : List UInt8) (Pr : Nat → Prop) (w : World) (hR : RI w R s i q out Pr) (hin : i < s.size) (hs : s.size ≤ 1073741000) (hq : s[i].toNat ≠ q) (hp : plainB s[i].toNat = false) :
    Calls Tryd.prog 76 #[.agg #[.pointer (some ⟨R, 0, none⟩)]] w fun e w' => e = .returned (.tuple #[.bool false, .agg #[.int .i64 3, .int .i64 (i : Int)]]) ∧ RI w' R s i q out Pr ∧ To R Pr w w' := by
  have hR1 := (hR.new (.cells #[.pointer (some ⟨R, 0, none⟩)] 94)).new (.cells #[.int .i64 0, .int .i64 0] 33)
  rw [size_new1] at hR1
  have hRlt := hR.lt
  have hprl := Lib.hid hR.pr_lt
  have HR1 := Lib.hid hR1; clear hR1 hR
  have hF0 := FB.new (w.alloc (.cells #[.pointer (some ⟨R, 0, none⟩)] 94)) 0 0
  rw [size_new1] at hF0
  have HF := Lib.hid hF0; clear hF0
  have HB := Lib.hid ((BX.new w R 94).keep (below_new1 _ (.cells #[.int .i64 0, .int .i64 0] 33)) (Nat.le_refl _))
  have hend := Lib.hid (fun w1 h => end_is R s i q out (fun k => k = w.heap.size + 1 ∨ (k = w.heap.size ∨ Pr k)) w1 h hin (by omega) false (decide_eq_false hq))
  have hits := Lib.hid (fun w1 (h : RI w1 R s i q out (fun k => k = w.heap.size + 1 ∨ (k = w.heap.size ∨ Pr k))) => itself_bad R s i q out _ w1 h hin (by omega) hp)
  clear hq hp
  go_enter Tryd.func76, Tryd.ntmps76
  go_wp2_with fail
  refine (hend.out _ HR1.out).mono ?_
  rintro e w2 ⟨rfl, hR2, hT2⟩
  rw [if_neg (by decide)] at hR2
  have HR2 := Lib.hid hR2; clear hR2
  have hF2 := FB.prot HF.out hT2.prot (.inl rfl)
  have hB2 := BX.prot HB.out hT2.prot (.inr (.inl rfl))
  have HT2 := Lib.hid hT2; clear hT2
  obtain ⟨f0, f1, g0, g1, hlt2⟩ := hF2.cells
  have x0 := hB2.cell
  have HF2 := Lib.hid hF2; clear hF2
  have HB2 := Lib.hid hB2; clear hB2
  go_wp2_with fail
  refine (hits.out _ HR2.out).mono ?_
  rintro e w3 ⟨rfl, hR3, hT3⟩
  clear x0 f0 f1 g0 g1 hlt2
  have HR3 := Lib.hid hR3; clear hR3
  have hF3 := FB.prot HF2.out hT3.prot (.inl rfl)
  have hB3 := BX.prot HB2.out hT3.prot (.inr (.inl rfl))
  have HT3 := Lib.hid (step_on HT2.out hT3); clear hT3
  obtain ⟨f0, f1, g0, g1, hlt3⟩ := hF3.cells
  have x0 := hB3.cell
  have HF3 := Lib.hid hF3; clear hF3
  have HB3 := Lib.hid hB3; clear hB3
  go_wp2
  exact bodyPost_ret (v := .tuple #[.bool false, .agg #[.int .i64 3, .int .i64 (i : Int)]]) (by simp [results, Tryd.results76, go_sem, f0, f1]) rfl ⟨rfl, step_fin (.cells #[.pointer (some ⟨R, 0, none⟩)] 94) hRlt hprl.out HR3.out (step_to _ _ hRlt hprl.out HT3.out) _ _⟩

set_option maxRecDepth 100000 in
set_option maxHeartbeats 4000000 in
theorem basic_bad (R : Nat) (s : ByteArray) (i q : Nat) (out : List UInt8) (Pr : Nat → Prop) (w : World) (hR : RI w R s i q out Pr) (hin : i < s.size) (hs : s.size ≤ 1073741000) (hq : s[i].toNat ≠ q) (hp : plainB s[i].toNat = false) (h92 : s[i].toNat ≠ 92) :
    Calls Tryd.prog 79 #[.agg #[.pointer (some ⟨R, 0, none⟩)]] w fun e w' => e = .returned (.tuple #[.bool false, .agg #[.int .i64 3, .int .i64 (i : Int)]]) ∧ RI w' R s i q out Pr ∧ To R Pr w w' := by
  have hR1 := (hR.new (.cells #[.pointer (some ⟨R, 0, none⟩)] 95)).new (.cells #[.int .i64 0, .int .i64 0] 33)
  rw [size_new1] at hR1
  have hRlt := hR.lt
  have hprl := Lib.hid hR.pr_lt
  have HR1 := Lib.hid hR1; clear hR1 hR
  have hF0 := FB.new (w.alloc (.cells #[.pointer (some ⟨R, 0, none⟩)] 95)) 0 0
  rw [size_new1] at hF0
  have HF := Lib.hid hF0; clear hF0
  have HB := Lib.hid ((BX.new w R 95).keep (below_new1 _ (.cells #[.int .i64 0, .int .i64 0] 33)) (Nat.le_refl _))
  have hend := Lib.hid (fun w1 h => end_is R s i q out (fun k => k = w.heap.size + 1 ∨ (k = w.heap.size ∨ Pr k)) w1 h hin (by omega) false (decide_eq_false hq))
  have hits := Lib.hid (fun w1 (h : RI w1 R s i q out (fun k => k = w.heap.size + 1 ∨ (k = w.heap.size ∨ Pr k))) => itself_bad R s i q out _ w1 h hin (by omega) hp)
  have b92 : ((s[i].toNat : Int) == 92) = false := by simp; omega
  have hi1 : (i : Int) < s.size := by omega
  clear h92
  clear hq hp
  go_enter Tryd.func79, Tryd.ntmps79
  go_wp2_with fail
  refine (hend.out _ HR1.out).mono ?_
  rintro e w2 ⟨rfl, hR2, hT2⟩
  rw [if_neg (by decide)] at hR2
  have HR2 := Lib.hid hR2; clear hR2
  have hF2 := FB.prot HF.out hT2.prot (.inl rfl)
  have hB2 := BX.prot HB.out hT2.prot (.inr (.inl rfl))
  have HT2 := Lib.hid hT2; clear hT2
  obtain ⟨f0, f1, g0, g1, hlt2⟩ := hF2.cells
  have x0 := hB2.cell
  have HF2 := Lib.hid hF2; clear hF2
  have HB2 := Lib.hid hB2; clear hB2
  obtain ⟨c0, c1, _⟩ := HR2.out.cells
  have xn : ∀ n : Later w2, n.at_.cell? ⟨w.heap.size, 0, none⟩ = some (.pointer (some ⟨R, 0, none⟩)) := fun n => (HB2.out.keep n.below (Nat.le_refl _)).cell
  go_wp2_with fail
  refine wp_region_later w2 (by kernel_rfl) (by kernel_rfl) (Below.refl _ _) ?_
  repeat (go_big_quiet_step (fail))
  refine wpQuiet_nil ?_
  rintro w3 ⟨⟨_, hb3⟩, rfl⟩
  clear c0 c1 xn x0 f0 f1 g0 g1 hlt2 b92
  have HR3 := Lib.hid (HR2.out.keep hb3 (Nat.le_refl _))
  have HF3 := Lib.hid (HF2.out.keep hb3 (Nat.le_refl _))
  have HB3 := Lib.hid (HB2.out.keep hb3 (Nat.le_refl _))
  have HT3 := Lib.hid (step_on HT2.out ((To.refl R (fun k => k = w.heap.size + 1 ∨ (k = w.heap.size ∨ Pr k)) w2).more HR2.out.lt HR2.out.pr_lt hb3 (Nat.le_refl _)))
  have x0 := HB3.out.cell
  clear hb3
  go_wp2_with fail
  refine (hits.out _ HR3.out).mono ?_
  rintro e w4 ⟨rfl, hR4, hT4⟩
  clear x0
  have HR4 := Lib.hid hR4; clear hR4
  have hF4 := FB.prot HF3.out hT4.prot (.inl rfl)
  have hB4 := BX.prot HB3.out hT4.prot (.inr (.inl rfl))
  have HT4 := Lib.hid (step_on HT3.out hT4); clear hT4
  obtain ⟨f0, f1, g0, g1, hlt4⟩ := hF4.cells
  have x0 := hB4.cell
  have HF4 := Lib.hid hF4; clear hF4
  have HB4 := Lib.hid hB4; clear hB4
  go_wp2
  exact bodyPost_ret (v := .tuple #[.bool false, .agg #[.int .i64 3, .int .i64 (i : Int)]]) (by simp [results, Tryd.results79, go_sem, f0, f1]) rfl ⟨rfl, step_fin (.cells #[.pointer (some ⟨R, 0, none⟩)] 95) hRlt hprl.out HR4.out (step_to _ _ hRlt hprl.out HT4.out) _ _⟩

set_option maxRecDepth 100000 in
set_option maxHeartbeats 4000000 in
theorem basic_esc (R : Nat) (s : ByteArray) (i q : Nat) (out : List UInt8) (Pr : Nat → Prop) (w : World) (hR : RI w R s i q out Pr) (hin : i < s.size) (hs : s.size ≤ 1073741000) (h92 : s[i].toNat = 92) (hq : s[i].toNat ≠ q) (c a : Int) (j : Nat) (out' : List UInt8) (hesc : ∀ w1 : World, RI w1 R s i q out (fun k => k = w.heap.size + 1 ∨ (k = w.heap.size ∨ Pr k)) → To R Pr w w1 → Calls Tryd.prog 80 #[.pointer (some ⟨R, 0, none⟩)] w1 fun e w' => e = .returned (.agg #[.int .i64 c, .int .i64 a]) ∧ RI w' R s j q out' (fun k => k = w.heap.size + 1 ∨ (k = w.heap.size ∨ Pr k)) ∧ To R (fun k => k = w.heap.size + 1 ∨ (k = w.heap.size ∨ Pr k)) w1 w') :
    Calls Tryd.prog 79 #[.agg #[.pointer (some ⟨R, 0, none⟩)]] w fun e w' => e = .returned (.tuple #[.bool false, .agg #[.int .i64 c, .int .i64 a]]) ∧ RI w' R s j q out' Pr ∧ To R Pr w w' := by
  have hR1 := (hR.new (.cells #[.pointer (some ⟨R, 0, none⟩)] 95)).new (.cells #[.int .i64 0, .int .i64 0] 33)
  rw [size_new1] at hR1
  have hRlt := hR.lt
  have hprl := Lib.hid hR.pr_lt
  have HR1 := Lib.hid hR1; clear hR1 hR
  have hF0 := FB.new (w.alloc (.cells #[.pointer (some ⟨R, 0, none⟩)] 95)) 0 0
  rw [size_new1] at hF0
  have HF := Lib.hid hF0; clear hF0
  have HB := Lib.hid ((BX.new w R 95).keep (below_new1 _ (.cells #[.int .i64 0, .int .i64 0] 33)) (Nat.le_refl _))
  have hend := Lib.hid (fun w1 h => end_is R s i q out (fun k => k = w.heap.size + 1 ∨ (k = w.heap.size ∨ Pr k)) w1 h hin (by omega) false (decide_eq_false hq))
  have b92 : ((s[i].toNat : Int) == 92) = true := by simp; omega
  have hi1 : (i : Int) < s.size := by omega
  have hits := Lib.hid hesc; clear hesc
  clear hq h92
  go_enter Tryd.func79, Tryd.ntmps79
  go_wp2_with fail
  refine (hend.out _ HR1.out).mono ?_
  rintro e w2 ⟨rfl, hR2, hT2⟩
  rw [if_neg (by decide)] at hR2
  have HR2 := Lib.hid hR2; clear hR2
  have hF2 := FB.prot HF.out hT2.prot (.inl rfl)
  have hB2 := BX.prot HB.out hT2.prot (.inr (.inl rfl))
  have HT2 := Lib.hid hT2; clear hT2
  obtain ⟨f0, f1, g0, g1, hlt2⟩ := hF2.cells
  have x0 := hB2.cell
  have HF2 := Lib.hid hF2; clear hF2
  have HB2 := Lib.hid hB2; clear hB2
  obtain ⟨c0, c1, _⟩ := HR2.out.cells
  have xn : ∀ n : Later w2, n.at_.cell? ⟨w.heap.size, 0, none⟩ = some (.pointer (some ⟨R, 0, none⟩)) := fun n => (HB2.out.keep n.below (Nat.le_refl _)).cell
  go_wp2_with fail
  refine wp_region_later w2 (by kernel_rfl) (by kernel_rfl) (Below.refl _ _) ?_
  repeat (go_big_quiet_step (fail))
  refine wpQuiet_nil ?_
  rintro w3 ⟨⟨_, hb3⟩, rfl⟩
  clear c0 c1 xn x0 f0 f1 g0 g1 hlt2 b92
  have HR3 := Lib.hid (HR2.out.keep hb3 (Nat.le_refl _))
  have HF3 := Lib.hid (HF2.out.keep hb3 (Nat.le_refl _))
  have HB3 := Lib.hid (HB2.out.keep hb3 (Nat.le_refl _))
  have HT3 := Lib.hid (step_on HT2.out ((To.refl R (fun k => k = w.heap.size + 1 ∨ (k = w.heap.size ∨ Pr k)) w2).more HR2.out.lt HR2.out.pr_lt hb3 (Nat.le_refl _)))
  have x0 := HB3.out.cell
  clear hb3
  go_wp2_with fail
  refine (hits.out _ HR3.out ((To.new hRlt hprl.out _).step (step_to _ _ hRlt hprl.out HT3.out).below (step_to _ _ hRlt hprl.out HT3.out).prot (fun k hk => .inr hk))).mono ?_
  rintro e w4 ⟨rfl, hR4, hT4⟩
  clear x0
  have HR4 := Lib.hid hR4; clear hR4
  have hF4 := FB.prot HF3.out hT4.prot (.inl rfl)
  have hB4 := BX.prot HB3.out hT4.prot (.inr (.inl rfl))
  have HT4 := Lib.hid (step_on HT3.out hT4); clear hT4
  obtain ⟨f0, f1, g0, g1, hlt4⟩ := hF4.cells
  have x0 := hB4.cell
  have HF4 := Lib.hid hF4; clear hF4
  have HB4 := Lib.hid hB4; clear hB4
  go_wp2
  exact bodyPost_ret (v := .tuple #[.bool false, .agg #[.int .i64 c, .int .i64 a]]) (by simp [results, Tryd.results79, go_sem, f0, f1]) rfl ⟨rfl, step_fin (.cells #[.pointer (some ⟨R, 0, none⟩)] 95) hRlt hprl.out HR4.out (step_to _ _ hRlt hprl.out HT4.out) _ _⟩

end Go.Proofs.YtflfedfghnnaeaaDoor
