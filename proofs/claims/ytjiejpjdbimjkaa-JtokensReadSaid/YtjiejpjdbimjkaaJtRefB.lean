/- Walks over the reference of chapter 08: Next, out of range, and at spaces, marks, words; no statement of the seat is proved here. -/
import Derived.Test.YtjiejpjdbimjkaaJtRefA
import Derived.Test.YtjiejpjdbimjkaaJtQ
namespace Go.Proofs.Ytjiejpjdbimjkaa
open Go.RowKit

def TokF.rval (t : TokF) : Value := .tuple #[.agg #[.int .i64 t.kind, .int .i64 t.from_, .int .i64 t.to_], .agg #[.int .i64 t.code, .int .i64 t.at_]]

/-- What the reference's Next returns lies in two blocks of its own. -/
def RxB (N : Nat) (w : World) : Prop := w.heap[N]? = some (.cells #[.int .i64 0, .int .i64 0, .int .i64 0] 40 (0, 0)) ∧ w.heap[N + 1]? = some (.cells #[.int .i64 0, .int .i64 0] 28 (0, 0))
theorem RxB.later {N : Nat} {w w' : World} (h : RxB N w) {B : Nat} (hb : Below B w w') (hB : N + 1 < B) : RxB N w' := ⟨blk_later h.1 hb (by omega), blk_later h.2 hb hB⟩
theorem RxB.facts {N : Nat} {w : World} (h : RxB N w) : w.cell? ⟨N, 0, none⟩ = some (.int .i64 0) ∧ w.cell? ⟨N, 1, none⟩ = some (.int .i64 0) ∧ w.cell? ⟨N, 2, none⟩ = some (.int .i64 0) ∧ w.cell? ⟨N + 1, 0, none⟩ = some (.int .i64 0) ∧ w.cell? ⟨N + 1, 1, none⟩ = some (.int .i64 0) ∧
    w.frozen? ⟨N, 0, none⟩ = false ∧ w.frozen? ⟨N, 1, none⟩ = false ∧ w.frozen? ⟨N, 2, none⟩ = false ∧ w.frozen? ⟨N + 1, 0, none⟩ = false ∧ w.frozen? ⟨N + 1, 1, none⟩ = false ∧ N + 1 < w.heap.size :=
  ⟨blk_cell h.1 0, blk_cell h.1 1, blk_cell h.1 2, blk_cell h.2 0, blk_cell h.2 1, blk_frozen h.1 0, blk_frozen h.1 1, blk_frozen h.1 2, blk_frozen h.2 0, blk_frozen h.2 1, blk_lt h.2⟩
theorem RxB.new (w : World) : RxB w.heap.size ((w.alloc (.cells #[.int .i64 0, .int .i64 0, .int .i64 0] 40)).alloc (.cells #[.int .i64 0, .int .i64 0] 28)) := heap_new2 w _ _
theorem RxB.call {w w1 : World} (hb : Below ((w.alloc (.cells #[.int .i64 0, .int .i64 0, .int .i64 0] 40)).alloc (.cells #[.int .i64 0, .int .i64 0] 28)).heap.size ((w.alloc (.cells #[.int .i64 0, .int .i64 0, .int .i64 0] 40)).alloc (.cells #[.int .i64 0, .int .i64 0] 28)) w1) :
    RxB w.heap.size w1 ∧ Below w.heap.size w w1 := ⟨(RxB.new w).later hb (by rw [size_new2]; omega), (below_new2 w _ _).trans (hb.mono (by rw [size_new2]; omega))⟩

set_option maxRecDepth 100000 in
set_option maxHeartbeats 1000000 in
theorem rnext_out (A : Option Addr) (l : List UInt8) (c : Nat) (i : Int) (h : ¬ (0 ≤ i ∧ i.toNat < l.length)) (w : World) :
    Calls Try.prog 11 #[.slice A l.length c, .int .i64 i] w fun e w' => e = .returned (nextM l i).rval ∧ Below w.heap.size w w' := by
  rw [nextM, dif_neg h]
  by_cases h0 : i < 0
  · have hm : max i 0 = 0 := by omega
    rw [hm]
    clear h hm
    go_enter Try.func11, Try.ntmps11
    go_wp2_with (go_at_call 17; refine (syntax_any _ _).mono ?_; rintro e w1 ⟨rfl, hb1⟩; obtain ⟨hx, hbw⟩ := RxB.call hb1; obtain ⟨c1, c2, c3, c4, c5, f1, f2, f3, f4, f5, hltn⟩ := hx.facts; clear hx hb1)
    refine bodyPost_ret (v := .tuple #[.agg #[.int .i64 0, .int .i64 0, .int .i64 0], .agg #[.int .i64 3, .int .i64 0]]) (by simp [results, Try.results11, go_sem, c1, c2, c3, c4, c5]) rfl ⟨rfl, ?_⟩
    exact ((((hbw.setCell (Nat.le_refl _) _).setCell (Nat.le_refl _) _).setCell (Nat.le_refl _) _).setCell (by simp) _).setCell (by simp) _
  · have h1 : (l.length : Int) ≤ i := by omega
    have hm : max i 0 = i := by omega
    rw [hm]
    clear h hm
    go_enter Try.func11, Try.ntmps11
    go_wp2_with (go_at_call 17; refine (syntax_any _ _).mono ?_; rintro e w1 ⟨rfl, hb1⟩; obtain ⟨hx, hbw⟩ := RxB.call hb1; obtain ⟨c1, c2, c3, c4, c5, f1, f2, f3, f4, f5, hltn⟩ := hx.facts; clear hx hb1)
    refine bodyPost_ret (v := .tuple #[.agg #[.int .i64 0, .int .i64 0, .int .i64 0], .agg #[.int .i64 3, .int .i64 i]]) (by simp [results, Try.results11, go_sem, c1, c2, c3, c4, c5]) rfl ⟨rfl, ?_⟩
    exact ((((hbw.setCell (Nat.le_refl _) _).setCell (Nat.le_refl _) _).setCell (Nat.le_refl _) _).setCell (by simp) _).setCell (by simp) _

theorem rret (t : TokF) (kd f e co a : Int) (h : t = ⟨kd, f, e, co, a⟩) : Ending.returned (.tuple #[.agg #[.int .i64 kd, .int .i64 f, .int .i64 e], .agg #[.int .i64 co, .int .i64 a]]) = .returned t.rval := by subst h; rfl

set_option maxRecDepth 100000 in
set_option maxHeartbeats 1000000 in
theorem rnext_space (A : Option Addr) (l : List UInt8) (c : Nat) (k : Nat) (hk : k < l.length) (hl : l.length ≤ 4611686018427387904) (hsp : isSpace l[k] = true) (w : World) (hB : BS w w.heap.size A l) :
    Calls Try.prog 11 #[.slice A l.length c, .int .i64 k] w fun e w' => e = .returned (nextM l k).rval ∧ Below w.heap.size w w' := by
  have HN : Hid (nextM l k = ⟨0, k, (runL isSpace l k : Nat), 0, 0⟩) := by
    show _ = _
    rw [nextM_in hk, nextF, if_pos ⟨by omega, hsp⟩]; rfl
  obtain ⟨a, rfl, ha, hc⟩ := hB k hk
  have HB := Lib.hid hB; clear hB
  have hca : ∀ o p, ((w.alloc o).alloc p).cell? (a.add k) = some (.int .u8 ((l[k].toNat : Nat) : Int)) := fun o p => cell_later (below_new2 w o p) hc
  have HD := Lib.hid rspace_tells
  have hkl : ¬ l.length ≤ k := by omega
  go_enter Try.func11, Try.ntmps11
  go_wp2_with (go_at_call 18; refine (HD.out _ _).mono ?_; rintro e w' ⟨rfl, rfl⟩)
  go_loop [7] (fun s => ∃ j : Nat, s = .int .i64 j ∧ k ≤ j ∧ j ≤ l.length ∧ Hid (runL isSpace l j = runL isSpace l k)) (fun s => l.length - (intOf s).toNat)
  case atStart => exact ⟨k, rfl, by omega, by omega, rfl⟩
  case round =>
    obtain ⟨j, rfl, hkj, hj, hr⟩ := hrel
    have HBA := Lib.hid (HB.out.below (below_new2 w (.cells #[.int .i64 0, .int .i64 0, .int .i64 0] 40) (.cells #[.int .i64 0, .int .i64 0] 28)))
    by_cases hs : isSpace (atR l j) = true
    · have h := runR_yes zero_not.2.1 hs
      have HS := Lib.hid h.2
      have hlt := h.1
      clear h
      go_wp2_with (first | (go_at_call 19; refine (rat_any _ _ _ rfl _ _ (by omega) _ HBA.out).mono ?_; rw [Int.toNat_natCast]; rintro e w' ⟨rfl, rfl⟩) | (go_at_call 18; refine (HD.out _ _).mono ?_; rintro e w' ⟨rfl, rfl⟩))
      go_round
      case rel => exact ⟨j + 1, by go_num, by omega, by omega, HS.out.symm.trans hr.out⟩
      case measure => simp [intOf]; omega
    · have hs' : isSpace (atR l j) = false := by simpa using hs
      have HS := Lib.hid (runR_no hs')
      clear hs
      go_wp2_with (first | (go_at_call 19; refine (rat_any _ _ _ rfl _ _ (by omega) _ HBA.out).mono ?_; rw [Int.toNat_natCast]; rintro e w' ⟨rfl, rfl⟩) | (go_at_call 18; refine (HD.out _ _).mono ?_; rintro e w' ⟨rfl, rfl⟩))
      have e : runL isSpace l k = j := hr.out.symm.trans HS.out
      refine bodyPost_ret (v := .tuple #[.agg #[.int .i64 0, .int .i64 k, .int .i64 j], .agg #[.int .i64 0, .int .i64 0]]) (by simp [results, Try.results11, go_sem]) rfl ⟨rret _ _ _ _ _ _ (by rw [HN.out, e]), below_new2 _ _ _⟩

theorem mark_chain {c : UInt8} (h : isMark c = true) :
    (((c.toNat : Int) == 123) = true) ∨
    (((c.toNat : Int) == 123) = false ∧ ((c.toNat : Int) == 125) = true) ∨
    (((c.toNat : Int) == 123) = false ∧ ((c.toNat : Int) == 125) = false ∧ ((c.toNat : Int) == 91) = true) ∨
    (((c.toNat : Int) == 123) = false ∧ ((c.toNat : Int) == 125) = false ∧ ((c.toNat : Int) == 91) = false ∧ ((c.toNat : Int) == 93) = true) ∨
    (((c.toNat : Int) == 123) = false ∧ ((c.toNat : Int) == 125) = false ∧ ((c.toNat : Int) == 91) = false ∧ ((c.toNat : Int) == 93) = false ∧ ((c.toNat : Int) == 44) = true) ∨
    (((c.toNat : Int) == 123) = false ∧ ((c.toNat : Int) == 125) = false ∧ ((c.toNat : Int) == 91) = false ∧ ((c.toNat : Int) == 93) = false ∧ ((c.toNat : Int) == 44) = false ∧ ((c.toNat : Int) == 58) = true) := by
  rcases mark_cases h with rfl | rfl | rfl | rfl | rfl | rfl <;> decide
theorem mark_chain_not {c : UInt8} (h : isMark c = false) : ((c.toNat : Int) == 123) = false ∧ ((c.toNat : Int) == 125) = false ∧ ((c.toNat : Int) == 91) = false ∧ ((c.toNat : Int) == 93) = false ∧ ((c.toNat : Int) == 44) = false ∧ ((c.toNat : Int) == 58) = false := by
  have h1 := byteEq c 123 (by omega); have h2 := byteEq c 125 (by omega); have h3 := byteEq c 91 (by omega); have h4 := byteEq c 93 (by omega); have h5 := byteEq c 44 (by omega); have h6 := byteEq c 58 (by omega)
  simp only [Int.cast_ofNat_Int] at h1 h2 h3 h4 h5 h6
  rw [h1, h2, h3, h4, h5, h6]
  simp only [isMark, List.contains_cons, List.contains_nil, Bool.or_false, Bool.or_eq_false_iff] at h
  exact ⟨h.1, h.2.1, h.2.2.1, h.2.2.2.1, h.2.2.2.2.1, h.2.2.2.2.2⟩

set_option maxRecDepth 100000 in
set_option maxHeartbeats 2000000 in
theorem rnext_mark (A : Option Addr) (l : List UInt8) (c : Nat) (k : Nat) (hk : k < l.length) (hl : l.length ≤ 4611686018427387904) (hsp : isSpace l[k] = false) (hmk : isMark l[k] = true) (w : World) (hB : BS w w.heap.size A l) :
    Calls Try.prog 11 #[.slice A l.length c, .int .i64 k] w fun e w' => e = .returned (nextM l k).rval ∧ Below w.heap.size w w' := by
  have HN : Hid (nextM l k = ⟨1, k, (k : Int) + 1, 0, 0⟩) := by
    show _ = _
    rw [nextM_in hk, nextF, if_neg (by simp [hsp]), if_pos ⟨by omega, hmk⟩]; rfl
  obtain ⟨a, rfl, ha, hc⟩ := hB k hk
  clear hB
  have hca : ∀ o p, ((w.alloc o).alloc p).cell? (a.add k) = some (.int .u8 ((l[k].toNat : Nat) : Int)) := fun o p => cell_later (below_new2 w o p) hc
  have HD := Lib.hid rspace_tells
  have hkl : ¬ l.length ≤ k := by omega
  have hm := mark_chain hmk
  rcases hm with m1 | ⟨m1, m2⟩ | ⟨m1, m2, m3⟩ | ⟨m1, m2, m3, m4⟩ | ⟨m1, m2, m3, m4, m5⟩ | ⟨m1, m2, m3, m4, m5, m6⟩
  all_goals (
    go_enter Try.func11, Try.ntmps11
    go_wp2_with (go_at_call 18; refine (HD.out _ _).mono ?_; rintro e w' ⟨rfl, rfl⟩)
    exact bodyPost_ret (v := .tuple #[.agg #[.int .i64 1, .int .i64 k, .int .i64 ((k : Int) + 1)], .agg #[.int .i64 0, .int .i64 0]]) (by simp [results, Try.results11, go_sem]) rfl ⟨rret _ _ _ _ _ _ HN.out, below_new2 _ _ _⟩)

theorem memS_words (s : List UInt8) : memS words3 s = (s == [116, 114, 117, 101] || s == [102, 97, 108, 115, 101] || s == [110, 117, 108, 108]) := by
  rw [Bool.eq_iff_iff]; simp [memS, words3]; simp only [or_assoc]
theorem letter_le (c : UInt8) : isLetter c = (decide (97 ≤ (c.toNat : Int)) && decide ((c.toNat : Int) ≤ 122)) := rfl
set_option maxRecDepth 100000 in
set_option maxHeartbeats 2000000 in
theorem rnext_word (A : Option Addr) (l : List UInt8) (c : Nat) (hlc : l.length ≤ c) (k : Nat) (hk : k < l.length) (hl : l.length ≤ 4611686018427387904) (hsp : isSpace l[k] = false) (hmk : isMark l[k] = false) (hle : isLetter l[k] = true) (w : World) (hB : BS w w.heap.size A l) :
    Calls Try.prog 11 #[.slice A l.length c, .int .i64 k] w fun e w' => e = .returned (nextM l k).rval ∧ Below w.heap.size w w' := by
  have HN : Hid (nextM l k = tokEnd 2 k (wordM l k)) := by
    show _ = _
    rw [nextM_in hk, nextF, if_neg (by simp [hsp]), if_neg (by simp [hmk]), if_pos ⟨by omega, hle⟩]
  obtain ⟨a, rfl, ha, hc⟩ := hB k hk
  have HB := Lib.hid hB; clear hB
  have hca : ∀ o p, ((w.alloc o).alloc p).cell? (a.add k) = some (.int .u8 ((l[k].toNat : Nat) : Int)) := fun o p => cell_later (below_new2 w o p) hc
  have HD := Lib.hid rspace_tells
  have hkl : ¬ l.length ≤ k := by omega
  obtain ⟨m1, m2, m3, m4, m5, m6⟩ := mark_chain_not hmk
  obtain ⟨l1, l2⟩ : 97 ≤ (l[k].toNat : Int) ∧ (l[k].toNat : Int) ≤ 122 := by rw [letter_le] at hle; simpa using hle
  obtain ⟨t, ht⟩ : ∃ t, Hid (t = runL isLetter l k) := ⟨runL isLetter l k, rfl⟩
  have hbt := runL_le isLetter l k (by omega)
  rw [← ht.out] at hbt
  have HBA := Lib.hid (HB.out.below (below_new2 w (.cells #[.int .i64 0, .int .i64 0, .int .i64 0] 40) (.cells #[.int .i64 0, .int .i64 0] 28)))
  have hsl := fun w => run_slice_cut (P := Try.prog) 22 5 Try.underlying22 (fun w => by kernel_rfl) (some a) l.length c k t hbt.1 (by omega) w
  have hcv : (convert 22 9 (.slice (cutA (some a) c k) (t - k) (c - k))).run Try.prog ((w.alloc (.cells #[.int .i64 0, .int .i64 0, .int .i64 0] 40)).alloc (.cells #[.int .i64 0, .int .i64 0] 28)) = .ok (.string ⟨(cutL l k t).toArray⟩) ((w.alloc (.cells #[.int .i64 0, .int .i64 0, .int .i64 0] 40)).alloc (.cells #[.int .i64 0, .int .i64 0] 28)) := by
    have h2 := conv_bs (P := Try.prog) ((w.alloc (.cells #[.int .i64 0, .int .i64 0, .int .i64 0] 40)).alloc (.cells #[.int .i64 0, .int .i64 0] 28)) 22 9 5 Try.underlying22 Try.underlying5 Try.underlying9 (HBA.out.cut (cap := c) hbt.1 hbt.2 hlc) (c - k)
    rwa [cut_length hbt.2] at h2
  go_enter Try.func11, Try.ntmps11
  go_wp2_with (go_at_call 18; refine (HD.out _ _).mono ?_; rintro e w' ⟨rfl, rfl⟩)
  have HAT := Lib.hid (fun (j : Nat) => rat_any (some a) l l.length rfl c (j : Int) (by omega) _ HBA.out)
  go_loop [7] (fun s => ∃ j : Nat, s = .int .i64 j ∧ k ≤ j ∧ j ≤ l.length ∧ Hid (runL isLetter l j = runL isLetter l k)) (fun s => l.length - (intOf s).toNat)
  case atStart => exact ⟨k, rfl, by omega, by omega, rfl⟩
  case round =>
    obtain ⟨j, rfl, hkj, hj, hr⟩ := hrel
    by_cases hs : isLetter (atR l j) = true
    · have h := runR_yes zero_not.2.2.2 hs
      have HS := Lib.hid h.2
      have hlt := h.1
      clear h
      obtain ⟨x1, x2⟩ : 97 ≤ ((atR l j).toNat : Int) ∧ ((atR l j).toNat : Int) ≤ 122 := by rw [letter_le] at hs; simpa using hs
      clear hs
      go_wp2_with (go_at_call 19; refine (HAT.out j).mono ?_; rw [Int.toNat_natCast]; rintro e w' ⟨rfl, rfl⟩)
      go_round
      case rel => exact ⟨j + 1, by go_num, by omega, by omega, HS.out.symm.trans hr.out⟩
      case measure => simp [intOf]; omega
    · have hs' : isLetter (atR l j) = false := by simpa using hs
      have hjt : j = t := by rw [ht.out, ← hr.out]; exact (runR_no hs').symm
      subst hjt
      have hx : ((atR l j).toNat : Int) < 97 ∨ 97 ≤ ((atR l j).toNat : Int) ∧ 122 < ((atR l j).toNat : Int) := by rw [letter_le] at hs'; simp at hs'; omega
      clear hs hs'
      rcases hx with x1 | ⟨x1, x2⟩
      all_goals (
        go_wp2_with (first | (go_at_call 19; refine (HAT.out j).mono ?_; rw [Int.toNat_natCast]; rintro e w' ⟨rfl, rfl⟩) | (go_at_call 17; refine (syntax_any _ _).mono ?_; rintro e w1 ⟨rfl, hb1⟩; obtain ⟨hx, hbw⟩ := RxB.call hb1; obtain ⟨c1, c2, c3, c4, c5, f1, f2, f3, f4, f5, hltn⟩ := hx.facts; clear hx hb1)))
      all_goals first
        | (have hm : memS words3 (cutL l k j) = true := by rw [memS_words]; simp_all
           have e : nextM l k = ⟨2, k, j, 0, 0⟩ := by rw [HN.out, wordM, ← ht.out, if_pos hm, tokEnd_mk]
           exact bodyPost_ret (v := .tuple #[.agg #[.int .i64 2, .int .i64 k, .int .i64 j], .agg #[.int .i64 0, .int .i64 0]]) (by simp [results, Try.results11, go_sem]) rfl ⟨rret _ _ _ _ _ _ e, below_new2 _ _ _⟩)
        | (have hm : memS words3 (cutL l k j) = false := by rw [memS_words]; simp_all
           have e : nextM l k = ⟨0, 0, 0, 3, k⟩ := by rw [HN.out, wordM, ← ht.out, if_neg (by rw [hm]; simp), tokEnd, if_neg (by simp; try omega)]; rfl
           exact bodyPost_ret (v := .tuple #[.agg #[.int .i64 0, .int .i64 0, .int .i64 0], .agg #[.int .i64 3, .int .i64 k]]) (by simp [results, Try.results11, go_sem, c1, c2, c3, c4, c5]) rfl ⟨rret _ _ _ _ _ _ e, ((((hbw.setCell (Nat.le_refl _) _).setCell (Nat.le_refl _) _).setCell (Nat.le_refl _) _).setCell (by simp) _).setCell (by simp) _⟩)

end Go.Proofs.Ytjiejpjdbimjkaa
