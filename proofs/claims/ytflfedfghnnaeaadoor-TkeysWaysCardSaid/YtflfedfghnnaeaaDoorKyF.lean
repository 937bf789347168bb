/- Walks over the helpers of the laws of chapter 10: SameTexts, is, fails, lives; no statement of the seat is proved here. -/
import Derived.Test.YtflfedfghnnaeaaDoorKyE
namespace Go.Proofs.YtflfedfghnnaeaaDoor
open Go.RowKit

/-- Texts in memory. -/
def TxA (w : World) (b o : Nat) (xs : List ByteArray) : Prop := b < w.heap.size ∧ ∀ j (h : j < xs.length), w.cell? ⟨b, o + j, none⟩ = some (.string xs[j])
theorem TxA.keep {w w' : World} {b o : Nat} {xs : List ByteArray} (h : TxA w b o xs) {B : Nat} (hb : Below B w w') (hB : w.heap.size ≤ B) : TxA w' b o xs :=
  ⟨by have := hb.size; have := h.1; omega, fun j hj => (hb.cell (p := ⟨b, o + j, none⟩) (by have := h.1; show b < B; omega)).trans (h.2 j hj)⟩
set_option maxRecDepth 100000 in
set_option maxHeartbeats 2000000 in
theorem same_is (xs : List ByteArray) (hx : xs.length ≤ 100000) (g b o n c1 c2 : Nat) (hn : n = xs.length) (w : World) (h1 : TxA w g 0 xs) (h2 : TxA w b o xs) :
    Calls Tryd.prog 16 #[.slice (some ⟨g, 0, none⟩) n c1, .slice (some ⟨b, o, none⟩) n c2] w fun e w' => e = .returned (.bool true) ∧ Below w.heap.size w w' := by
  have H1 := Lib.hid h1; have H2 := Lib.hid h2; have HN := Lib.hid hn
  have hn1 : n ≤ 100000 := by omega
  clear h1 h2 hn hx
  go_enter Tryd.func16, Tryd.ntmps16
  go_wp2
  go_loopg [5] n (fun q s5 wr => ∃ k : Nat, s5 = .int .i64 (k : Int) ∧ k ≤ n ∧ Hid (q = n - k) ∧ Hid (Below w.heap.size w wr))
  case atStart => exact ⟨0, rfl, by omega, by show _ = _; omega, Below.refl _ _⟩
  case round =>
    obtain ⟨k, rfl, hk, hq, hb⟩ := hrel
    by_cases hlt : k < n
    · have hkl : k < xs.length := by have := HN.out; omega
      have HB1 := Lib.hid (H1.out.keep hb.out (Nat.le_refl _)); have HB2 := Lib.hid (H2.out.keep hb.out (Nat.le_refl _))
      obtain ⟨x, hxk⟩ : ∃ x, xs[k] = x := ⟨_, rfl⟩
      have e1 : ∀ m : Later wr, m.at_.cell? ⟨g, k, none⟩ = some (.string x) := fun m => by
        have := (HB1.out.keep m.below (Nat.le_refl _)).2 k hkl
        rwa [Nat.zero_add, hxk] at this
      have e2 : ∀ m : Later wr, m.at_.cell? ⟨b, o + k, none⟩ = some (.string x) := fun m => by
        have := (HB2.out.keep m.below (Nat.le_refl _)).2 k hkl
        rwa [hxk] at this
      have hki : (k : Int) < (n : Int) := by omega
      clear hxk hkl
      go_wp2
      refine wp_region_later wr (by kernel_rfl) (by kernel_rfl) (Below.refl _ _) ?_
      repeat (go_big_quiet_step (fail))
      refine wpQuiet_nil ?_
      rintro w4 ⟨⟨w5, hb4⟩, rfl⟩
      go_wp2
      go_roundg (n - (k + 1))
      case measure => have := hq.out; omega
      case rel => exact ⟨k + 1, by go_num, by omega, rfl, hb.out.trans (hb4.mono hb.out.size)⟩
    · go_wp2
      go_ret
      exact ⟨rfl, hb.out⟩

/-- The texts that were read are the words. -/
def SameW (es : List Ent) (xs : List ByteArray) : Prop := es.length = xs.length ∧ ∀ j (h : j < es.length) (h' : j < xs.length), (⟨es[j].1.toArray⟩ : ByteArray) = xs[j]
set_option maxRecDepth 100000 in
set_option maxHeartbeats 2000000 in
theorem is_of (s : ByteArray) (i : Int) (es : List Ent) (en : Int) (xs : List ByteArray) (hsw : SameW es xs) (hx : xs.length ≤ 100000) (b o n c : Nat) (hn : n = xs.length) (w : World) (hM : TxA w b o xs)
    (hr : Calls Tryd.prog 9 #[.string s, .int .i64 i] w (KyPost (es, en, 0, 0) w)) :
    Calls Tryd.prog 7 #[.string s, .int .i64 i, .int .i64 en, .slice (some ⟨b, o, none⟩) n c] w fun e w' => e = .returned (.bool true) ∧ Below w.heap.size w w' := by
  have HR := Lib.hid hr; have HM := Lib.hid hM; have HW := Lib.hid hsw; have HN := Lib.hid hn
  have hxl := Lib.hid hx
  clear hr hM hsw hn hx
  go_enter Tryd.func7, Tryd.ntmps7
  go_wp2_with fail
  refine HR.out.mono ?_
  rintro e w1 (⟨_, A, B, rfl, hT, hS, hb1⟩ | ⟨h0, _⟩)
  · obtain ⟨g, rfl, hg1, hg2, hg3⟩ := hT
    have hTA : TxA w1 g 0 xs := ⟨hg2, fun j hj => by rw [Nat.zero_add, hg3 j (by rw [HW.out.1]; exact hj), HW.out.2 j (by rw [HW.out.1]; exact hj) hj]⟩
    have hne : es.length = n := by rw [HN.out, HW.out.1]
    dsimp only
    rw [hne]
    have HTA := Lib.hid hTA; have HM1 := Lib.hid (HM.out.keep hb1 (Nat.le_refl _)); have HB1 := Lib.hid hb1
    clear hTA hS hg3 hne hb1
    have hsm := fun w2 hb => same_is xs hxl.out g b o n n c HN.out w2 (HTA.out.keep hb (Nat.le_refl w1.heap.size)) (HM1.out.keep hb (Nat.le_refl w1.heap.size))
    have HSM := Lib.hid hsm; clear hsm
    go_wp2_with (go_at_call 16; (with_reducible refine (HSM.out _ ((below_new1 w1 _).trans ((below_new1 _ _).mono (by simp)))).mono ?_); rintro e w3 ⟨rfl, hb3⟩)
    go_ret
    exact ⟨rfl, HB1.out.trans ((((below_new1 w1 _).trans ((below_new1 _ _).mono (by simp))).trans (hb3.mono (by simp; omega))).mono HB1.out.size)⟩
  · exact absurd rfl h0

set_option maxRecDepth 100000 in
set_option maxHeartbeats 2000000 in
theorem fails_of (s : ByteArray) (i bad : Int) (w : World) (hr : Calls Tryd.prog 9 #[.string s, .int .i64 i] w (KyPost ([], 0, 3, bad) w)) :
    Calls Tryd.prog 8 #[.string s, .int .i64 i, .int .i64 bad] w fun e w' => e = .returned (.bool true) ∧ Below w.heap.size w w' := by
  have HR := Lib.hid hr
  clear hr
  go_enter Tryd.func8, Tryd.ntmps8
  go_wp2_with fail
  refine HR.out.mono ?_
  rintro e w1 (⟨h0, _⟩ | ⟨_, rfl, hb1⟩)
  · exact absurd h0 (show (3 : Int) ≠ 0 by decide)
  · dsimp only
    go_wp2
    go_ret
    exact ⟨rfl, hb1.trans ((((below_new1 w1 _).trans ((below_new1 _ _).mono (by simp)))).mono hb1.size)⟩

end Go.Proofs.YtflfedfghnnaeaaDoor
