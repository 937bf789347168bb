/- Walks over package tquotes: itself, end; no statement of the seat is proved here. -/
import Derived.Test.YtflfedfghnnaeaaDoorTqA
import Derived.Test.YtflfedfghnnaeaaDoorPre
namespace Go.Proofs.YtflfedfghnnaeaaDoor
open Go.RowKit

/-- What is read of the reader's block in all worlds that come later. -/
theorem RI.cells {w : World} {R : Nat} {s : ByteArray} {i q : Nat} {out : List UInt8} {Pr : Nat → Prop} (h : RI w R s i q out Pr) :
    (∀ n : Later w, n.at_.cell? ⟨R, 0, none⟩ = some (.string s)) ∧ (∀ n : Later w, n.at_.cell? ⟨R, 1, none⟩ = some (.int .i64 (i : Int))) ∧ (∀ n : Later w, n.at_.cell? ⟨R, 2, none⟩ = some (.int .u8 (q : Int))) := by
  obtain ⟨A, n, c, h1, _⟩ := h
  exact ⟨fun n => later_cell h1 0 n, fun n => later_cell h1 1 n, fun n => later_cell h1 2 n⟩
theorem RI.cells0 {w : World} {R : Nat} {s : ByteArray} {i q : Nat} {out : List UInt8} {Pr : Nat → Prop} (h : RI w R s i q out Pr) :
    w.cell? ⟨R, 0, none⟩ = some (.string s) ∧ w.cell? ⟨R, 1, none⟩ = some (.int .i64 (i : Int)) ∧ w.cell? ⟨R, 2, none⟩ = some (.int .u8 (q : Int)) ∧ w.frozen? ⟨R, 1, none⟩ = false := by
  obtain ⟨A, n, c, h1, _⟩ := h
  exact ⟨blk_cell h1 0, blk_cell h1 1, blk_cell h1 2, blk_frozen h1 1⟩
theorem RI.setAt {w : World} {R : Nat} {s : ByteArray} {i q : Nat} {out : List UInt8} {Pr : Nat → Prop} (h : RI w R s i q out Pr) (j : Nat) (u : Value) (hu : u = .int .i64 (j : Int)) : RI (w.setCell ⟨R, 1, none⟩ u) R s j q out Pr := by
  subst hu
  obtain ⟨A, n, c, h1, h2, h3⟩ := h
  exact ⟨A, n, c, four1 h1, own_set h2 (p := ⟨R, 1, none⟩) (Nat.lt_succ_self R) _, fun k hk => ⟨(h3 k hk).1, by simpa using (h3 k hk).2.1, (h3 k hk).2.2⟩⟩
/-- A fault's cells of the call's own. -/
def FB (w : World) (F : Nat) (a b : Int) : Prop := w.heap[F]? = some (.cells #[.int .i64 a, .int .i64 b] 33 (0, 0))
theorem FB.cells {w : World} {F : Nat} {a b : Int} (h : FB w F a b) : w.cell? ⟨F, 0, none⟩ = some (.int .i64 a) ∧ w.cell? ⟨F, 1, none⟩ = some (.int .i64 b) ∧ w.frozen? ⟨F, 0, none⟩ = false ∧ w.frozen? ⟨F, 1, none⟩ = false ∧ F < w.heap.size :=
  ⟨blk_cell h 0, blk_cell h 1, blk_frozen h 0, blk_frozen h 1, blk_lt h⟩
theorem FB.keep {w w' : World} {F : Nat} {a b : Int} (h : FB w F a b) {B : Nat} (hb : Below B w w') (hB : w.heap.size ≤ B) : FB w' F a b := blk_later h hb (Nat.lt_of_lt_of_le (blk_lt h) hB)
theorem FB.new (w : World) (a b : Int) : FB (w.alloc (.cells #[.int .i64 a, .int .i64 b] 33)) w.heap.size a b := heap_new1 w _
theorem FB.prot {w w' : World} {F : Nat} {a b : Int} {Pr : Nat → Prop} (h : FB w F a b) (hp : Prot Pr w w') (hF : Pr F) : FB w' F a b := (hp F hF).trans h
theorem prot_less {Pr Pr' : Nat → Prop} {w w' : World} (h : Prot Pr w w') (hp : ∀ k, Pr' k → Pr k) : Prot Pr' w w' := fun k hk => h k (hp k hk)
theorem RI.pr_lt {w : World} {R : Nat} {s : ByteArray} {i q : Nat} {out : List UInt8} {Pr : Nat → Prop} (h : RI w R s i q out Pr) : ∀ k, Pr k → k < w.heap.size := by
  obtain ⟨A, n, c, _, _, h3⟩ := h
  exact fun k hk => (h3 k hk).2.1
theorem RI.place {w : World} {R : Nat} {s : ByteArray} {i j q : Nat} {out out' : List UInt8} {Pr : Nat → Prop} (h : RI w R s i q out Pr) (hi : i = j) (ho : out = out') : RI w R s j q out' Pr := by subst hi ho; exact h

theorem own_set_ne {w : World} {base : Nat} {e : TypeId} {size : Nat} {v : Value} {n : Nat} {xs : List Value} (h : w.ownsRow base e size v n xs) {p : Addr} (hp : v.ownBlock ≠ some p.block) (u : Value) : (w.setCell p u).ownsRow base e size v n xs := by
  refine ⟨h.1, ?_⟩
  rcases h.2 with h2 | ⟨g, cap, cur, hv, hg, hh, r⟩
  · exact .inl h2
  · refine .inr ⟨g, cap, cur, hv, hg, (Below.heap_setCell w p u g (fun e => hp ?_)).trans hh, r⟩
    rw [hv, e]; rfl
theorem RI.setF {w : World} {R : Nat} {s : ByteArray} {i q : Nat} {out : List UInt8} {Pr : Nat → Prop} (h : RI w R s i q out Pr) {F : Nat} (hF : Pr F) (j : Nat) (u : Value) : RI (w.setCell ⟨F, j, none⟩ u) R s i q out Pr := by
  obtain ⟨A, n, c, h1, h2, h3⟩ := h
  obtain ⟨p1, p2, p3⟩ := h3 F hF
  refine ⟨A, n, c, (Below.heap_setCell w ⟨F, j, none⟩ u R (by show R ≠ F; omega)).trans h1, own_set_ne h2 p3 u, fun k hk => ⟨(h3 k hk).1, by simpa using (h3 k hk).2.1, (h3 k hk).2.2⟩⟩
/-- From one world to a later one: below block R, and in the blocks Pr, all is as it was. -/
structure To (R : Nat) (Pr : Nat → Prop) (w w' : World) : Prop where
  below : Below R w w'
  prot : Prot Pr w w'
theorem To.new {w : World} {R : Nat} {Pr : Nat → Prop} (hR : R < w.heap.size) (hp : ∀ k, Pr k → k < w.heap.size) (o : Obj) : To R Pr w (w.alloc o) := ⟨(below_new1 w o).mono (Nat.le_of_lt hR), Prot.below (below_new1 w o) hp⟩
theorem To.later {w w1 w2 : World} {R : Nat} {Pr : Nat → Prop} (h : To R Pr w w1) {B : Nat} (hb : Below B w1 w2) (hR : R ≤ B) (hp : ∀ k, Pr k → k < B) : To R Pr w w2 := ⟨h.below.trans (hb.mono hR), h.prot.trans (Prot.below hb hp)⟩
theorem To.more {w w1 w2 : World} {R : Nat} {Pr : Nat → Prop} (h : To R Pr w w1) (hR : R < w.heap.size) (hp : ∀ k, Pr k → k < w.heap.size) {B : Nat} (hb : Below B w1 w2) (hB : w.heap.size ≤ B) : To R Pr w w2 :=
  h.later hb (by omega) (fun k hk => by have := hp k hk; omega)
theorem To.alloc {w w1 : World} {R : Nat} {Pr : Nat → Prop} (h : To R Pr w w1) (hR : R < w.heap.size) (hp : ∀ k, Pr k → k < w.heap.size) (o : Obj) : To R Pr w (w1.alloc o) :=
  h.more hR hp (below_new1 w1 o) h.below.size
theorem To.refl (R : Nat) (Pr : Nat → Prop) (w : World) : To R Pr w w := ⟨Below.refl _ _, Prot.refl _ _⟩
theorem To.setN {w w1 : World} {R : Nat} {Pr : Nat → Prop} (h : To R Pr w w1) (hR : R < w.heap.size) (hp : ∀ k, Pr k → k < w.heap.size) {F : Nat} (hF : w.heap.size ≤ F) (j : Nat) (u : Value) : To R Pr w (w1.setCell ⟨F, j, none⟩ u) :=
  ⟨h.below.setCell (p := ⟨F, j, none⟩) (by show R ≤ F; omega) u, h.prot.trans (Prot.set_ w1 (p := ⟨F, j, none⟩) (fun k hk => by have := hp k hk; show k ≠ F; omega) u)⟩
theorem To.step {w w1 w2 : World} {R : Nat} {Pr Pr' : Nat → Prop} (h : To R Pr w w1) (hb : Below R w1 w2) (hp : Prot Pr' w1 w2) (hs : ∀ k, Pr k → Pr' k) : To R Pr w w2 := ⟨h.below.trans hb, h.prot.trans (prot_less hp hs)⟩
theorem To.setF {w w1 : World} {R : Nat} {Pr : Nat → Prop} (h : To R Pr w w1) {F : Nat} (hR : R ≤ F) (hp : ∀ k, Pr k → k ≠ F) (j : Nat) (u : Value) : To R Pr w (w1.setCell ⟨F, j, none⟩ u) := ⟨h.below.setCell (p := ⟨F, j, none⟩) hR u, h.prot.trans (Prot.set_ w1 (p := ⟨F, j, none⟩) hp u)⟩
theorem plain_is (c : Nat) (b : Bool) (h : plainB c = b) (hc : c < 256) (w : World) : Calls Tryd.prog 34 #[.int .u8 (c : Int)] w fun e w' => e = .returned (.bool b) ∧ w = w' := by
  subst h; exact plain_any c hc w

set_option maxRecDepth 100000 in
set_option maxHeartbeats 1000000 in
theorem itself_ok (R : Nat) (s : ByteArray) (i q : Nat) (out : List UInt8) (Pr : Nat → Prop) (w : World) (hR : RI w R s i q out Pr) (hin : i < s.size) (hs : s.size ≤ 1073741823) (ho : out.length ≤ 1073741823) (hp : plainB s[i].toNat = true) :
    Calls Tryd.prog 77 #[.pointer (some ⟨R, 0, none⟩)] w fun e w' => e = .returned (.tuple #[.bool false, .agg #[.int .i64 0, .int .i64 0]]) ∧ RI w' R s (i + 1) q (out ++ [s[i]]) Pr ∧ To R Pr w w' := by
  have hR1 := hR.new (.cells #[.int .i64 0, .int .i64 0] 33)
  obtain ⟨c0, c1, c2⟩ := hR1.cells
  have HP := Lib.hid hp; clear hp
  have hRlt := hR.lt
  have hprl := Lib.hid hR.pr_lt
  have HR1 := Lib.hid hR1; clear hR1 hR
  have HF := Lib.hid (FB.new w 0 0)
  obtain ⟨x, hx⟩ : ∃ x, x = s[i] := ⟨_, rfl⟩
  have hx255 := s[i].toNat_lt
  have hi1 : (i : Int) < s.size := by omega
  go_enter Tryd.func77, Tryd.ntmps77
  go_wp2
  refine wp_region_later _ (by kernel_rfl) (by kernel_rfl) (Below.refl _ _) ?_
  repeat (go_big_quiet_step (fail))
  refine wpQuiet_nil ?_
  rintro w1 ⟨⟨_, hb1⟩, rfl⟩
  have hR2 := Lib.hid (HR1.out.keep hb1 (Nat.le_refl _))
  have hF2 := Lib.hid (HF.out.keep hb1 (Nat.le_refl _))
  clear c0 c1 c2
  go_wp2_with fail
  refine (plain_is _ true HP.out hx255 _).mono ?_
  rintro e w2 ⟨rfl, rfl⟩
  go_wp2_with fail
  refine (take_any R s i q out _ 1 _ 1 1 [s[i]] rfl _ (hR2.out.keep (below_new1 w1 _) (Nat.le_refl _)) (by have := BS.made w1 [s[i]] 5 (0, 0); simpa using this) (by omega) (by omega) (by omega) (by simp) (fun a e _ => by injection e with e; subst e; have := hR2.out.lt; show w1.heap.size ≠ R; omega)).mono ?_
  rintro e w3 ⟨rfl, hR3, hb3, hp3⟩
  have hF3 := FB.prot (F := w.heap.size) (a := 0) (b := 0) (hF2.out.keep (below_new1 w1 _) (Nat.le_refl _)) hp3 (.inl rfl)
  obtain ⟨f0, f1, g0, g1, hlt3⟩ := hF3.cells
  have HR3 := Lib.hid hR3; clear hR3
  have HP3 := Lib.hid hp3; clear hp3 hF3
  go_wp2
  refine bodyPost_ret (v := .tuple #[.bool false, .agg #[.int .i64 0, .int .i64 0]]) (by simp [results, Tryd.results77, go_sem, f0, f1]) rfl ⟨rfl, ?_, ?_⟩
  · exact ((HR3.out.setF (.inl rfl) 0 _).setF (.inl rfl) 1 _).less fun k hk => .inr hk
  · have hpl := hprl.out
    exact (((((To.new hRlt hpl _).more hRlt hpl hb1 (by simp)).alloc hRlt hpl _).step hb3 HP3.out (fun k hk => .inr hk)).setN hRlt hpl (Nat.le_refl _) 0 _).setN hRlt hpl (Nat.le_refl _) 1 _

theorem To.setR {w w1 : World} {R : Nat} {Pr : Nat → Prop} (h : To R Pr w w1) (hp : ∀ k, Pr k → k ≠ R) (j : Nat) (u : Value) : To R Pr w (w1.setCell ⟨R, j, none⟩ u) :=
  ⟨h.below.setCell (p := ⟨R, j, none⟩) (Nat.le_refl R) u, h.prot.trans (Prot.set_ w1 (p := ⟨R, j, none⟩) hp u)⟩
theorem RI.pr_ne {w : World} {R : Nat} {s : ByteArray} {i q : Nat} {out : List UInt8} {Pr : Nat → Prop} (h : RI w R s i q out Pr) : ∀ k, Pr k → k ≠ R := by
  obtain ⟨A, n, c, _, _, h3⟩ := h
  exact fun k hk => (h3 k hk).1

set_option maxRecDepth 100000 in
set_option maxHeartbeats 1000000 in
theorem itself_bad (R : Nat) (s : ByteArray) (i q : Nat) (out : List UInt8) (Pr : Nat → Prop) (w : World) (hR : RI w R s i q out Pr) (hin : i < s.size) (_hs : s.size ≤ 1073741823) (hp : plainB s[i].toNat = false) :
    Calls Tryd.prog 77 #[.pointer (some ⟨R, 0, none⟩)] w fun e w' => e = .returned (.tuple #[.bool false, .agg #[.int .i64 3, .int .i64 (i : Int)]]) ∧ RI w' R s i q out Pr ∧ To R Pr w w' := by
  have hR1 := hR.new (.cells #[.int .i64 0, .int .i64 0] 33)
  obtain ⟨c0, c1, _⟩ := hR1.cells
  have HP := Lib.hid hp; clear hp
  have hRlt := hR.lt
  have hprl := Lib.hid hR.pr_lt
  have HR1 := Lib.hid hR1; clear hR1 hR
  have HF := Lib.hid (FB.new w 0 0)
  have hx255 := s[i].toNat_lt
  have hi1 : (i : Int) < s.size := by omega
  go_enter Tryd.func77, Tryd.ntmps77
  go_wp2
  refine wp_region_later _ (by kernel_rfl) (by kernel_rfl) (Below.refl _ _) ?_
  repeat (go_big_quiet_step (fail))
  refine wpQuiet_nil ?_
  rintro w1 ⟨⟨_, hb1⟩, rfl⟩
  have hR2 := Lib.hid (HR1.out.keep hb1 (Nat.le_refl _))
  obtain ⟨_, d1, _, _⟩ := hR2.out.cells0
  have hF2 := Lib.hid (HF.out.keep hb1 (Nat.le_refl _))
  clear c0 c1
  go_wp2_with fail
  refine (plain_is _ false HP.out hx255 _).mono ?_
  rintro e w2 ⟨rfl, rfl⟩
  go_wp2_with fail
  refine (wrong_any _ _).mono ?_
  rintro e w3 ⟨rfl, hb3⟩
  obtain ⟨f0, f1, g0, g1, hlt3⟩ := (hF2.out.keep hb3 (Nat.le_refl _)).cells
  have HR3 := Lib.hid (hR2.out.keep hb3 (Nat.le_refl _))
  go_wp2
  refine bodyPost_ret (v := .tuple #[.bool false, .agg #[.int .i64 3, .int .i64 (i : Int)]]) (by simp [results, Tryd.results77, go_sem, f0, f1]) rfl ⟨rfl, ?_, ?_⟩
  · exact ((HR3.out.setF (.inl rfl) 0 _).setF (.inl rfl) 1 _).less fun k hk => .inr hk
  · have hpl := hprl.out
    exact (((((To.new hRlt hpl _).more hRlt hpl hb1 (by simp)).more hRlt hpl hb3 (by have := hb1.size; simp at this; omega))).setN hRlt hpl (Nat.le_refl _) 0 _).setN hRlt hpl (Nat.le_refl _) 1 _

set_option maxRecDepth 100000 in
set_option maxHeartbeats 1000000 in
theorem end_is (R : Nat) (s : ByteArray) (i q : Nat) (out : List UInt8) (Pr : Nat → Prop) (w : World) (hR : RI w R s i q out Pr) (hin : i < s.size) (hs : s.size ≤ 1073741823) (b : Bool) (hb : decide (s[i].toNat = q) = b) :
    Calls Tryd.prog 75 #[.pointer (some ⟨R, 0, none⟩)] w fun e w' => e = .returned (.bool b) ∧ RI w' R s (if b then i + 1 else i) q out Pr ∧ To R Pr w w' := by
  obtain ⟨c0, c1, c2⟩ := hR.cells
  have hRlt := hR.lt
  have hprl := Lib.hid hR.pr_lt
  have hprn := Lib.hid hR.pr_ne
  have HR := Lib.hid hR; clear hR
  have hi1 : (i : Int) < s.size := by omega
  cases b
  · have hq : ((s[i].toNat : Int) != (q : Int)) = true := by simp at hb ⊢; omega
    clear hb
    go_enter Tryd.func75, Tryd.ntmps75
    go_wp2
    refine wp_region_later w (by kernel_rfl) (by kernel_rfl) (Below.refl _ _) ?_
    repeat (go_big_quiet_step (fail))
    refine wpQuiet_nil ?_
    rintro w1 ⟨⟨_, hb1⟩, rfl⟩
    have hR2 := Lib.hid (HR.out.keep hb1 (Nat.le_refl _))
    clear c0 c1 c2
    go_wp2
    go_ret
    exact ⟨rfl, hR2.out, (To.refl R Pr w).more hRlt hprl.out hb1 (Nat.le_refl _)⟩
  · have hq : ((s[i].toNat : Int) != (q : Int)) = false := by simp at hb ⊢; omega
    clear hb
    go_enter Tryd.func75, Tryd.ntmps75
    go_wp2
    refine wp_region_later w (by kernel_rfl) (by kernel_rfl) (Below.refl _ _) ?_
    repeat (go_big_quiet_step (fail))
    refine wpQuiet_nil ?_
    rintro w1 ⟨⟨_, hb1⟩, rfl⟩
    have hR2 := Lib.hid (HR.out.keep hb1 (Nat.le_refl _))
    obtain ⟨_, d1, _, k1⟩ := hR2.out.cells0
    have hlt1 := hR2.out.lt
    clear c0 c1 c2
    go_wp2
    go_ret
    exact ⟨rfl, hR2.out.setAt (i + 1) _ (by go_num), ((To.refl R Pr w).more hRlt hprl.out hb1 (Nat.le_refl _)).setR hprn.out 1 _⟩

end Go.Proofs.YtflfedfghnnaeaaDoor
