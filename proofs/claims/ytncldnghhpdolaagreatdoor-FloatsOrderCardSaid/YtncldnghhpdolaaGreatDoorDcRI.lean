/- Walks over the reference of chapter 02: Is; no statement of the seat is proved here. -/
import Derived.Test.YtncldnghhpdolaaGreatDoorDcR
namespace Go.Proofs.YtncldnghhpdolaaGreatDoor
open Go.RowKit

def six (x0 x1 x2 x3 x4 x5 : Int) : Array Value := #[.int .i64 x0, .int .i64 x1, .int .i64 x2, .int .i64 x3, .int .i64 x4, .int .i64 x5]
/-- The places in memory, in a world that came of w0. -/
structure PB (w0 w : World) (x0 x1 x2 x3 x4 x5 : Int) : Prop where
  res : w.heap[w0.heap.size]? = some (.cells #[.int .i64 0, .int .i64 0, .int .i64 0, .int .i64 0, .int .i64 0, .int .i64 0] 64 (0, 0))
  blk : w.heap[w0.heap.size + 1]? = some (.cells #[.int .i64 x0, .int .i64 x1, .int .i64 x2, .int .i64 x3, .int .i64 x4, .int .i64 x5] 64 (0, 0))
  below : Below w0.heap.size w0 w
theorem PB.facts {w0 w : World} {x0 x1 x2 x3 x4 x5 : Int} (h : PB w0 w x0 x1 x2 x3 x4 x5) :
    (w.cell? ⟨w0.heap.size + 1, 0, none⟩ = some (.int .i64 x0) ∧ w.cell? ⟨w0.heap.size + 1, 1, none⟩ = some (.int .i64 x1) ∧ w.cell? ⟨w0.heap.size + 1, 2, none⟩ = some (.int .i64 x2) ∧ w.cell? ⟨w0.heap.size + 1, 3, none⟩ = some (.int .i64 x3) ∧ w.cell? ⟨w0.heap.size + 1, 4, none⟩ = some (.int .i64 x4) ∧ w.cell? ⟨w0.heap.size + 1, 5, none⟩ = some (.int .i64 x5) ∧ (∀ i, w.frozen? ⟨w0.heap.size + 1, i, none⟩ = false)) :=
  ⟨blk_cell h.blk 0, blk_cell h.blk 1, blk_cell h.blk 2, blk_cell h.blk 3, blk_cell h.blk 4, blk_cell h.blk 5, fun i => blk_frozen h.blk i⟩
theorem PB.rfacts {w0 w : World} {x0 x1 x2 x3 x4 x5 : Int} (h : PB w0 w x0 x1 x2 x3 x4 x5) :
    (w.cell? ⟨w0.heap.size, 0, none⟩ = some (.int .i64 0) ∧ w.cell? ⟨w0.heap.size, 1, none⟩ = some (.int .i64 0) ∧ w.cell? ⟨w0.heap.size, 2, none⟩ = some (.int .i64 0) ∧ w.cell? ⟨w0.heap.size, 3, none⟩ = some (.int .i64 0) ∧ w.cell? ⟨w0.heap.size, 4, none⟩ = some (.int .i64 0) ∧ w.cell? ⟨w0.heap.size, 5, none⟩ = some (.int .i64 0) ∧ (∀ i, w.frozen? ⟨w0.heap.size, i, none⟩ = false)) :=
  ⟨blk_cell h.res 0, blk_cell h.res 1, blk_cell h.res 2, blk_cell h.res 3, blk_cell h.res 4, blk_cell h.res 5, fun i => blk_frozen h.res i⟩
theorem PB.new (w : World) : PB w ((w.alloc (.cells #[.int .i64 0, .int .i64 0, .int .i64 0, .int .i64 0, .int .i64 0, .int .i64 0] 64)).alloc (.cells #[.int .i64 0, .int .i64 0, .int .i64 0, .int .i64 0, .int .i64 0, .int .i64 0] 64)) 0 0 0 0 0 0 :=
  ⟨(heap_new2 w _ _).1, (heap_new2 w _ _).2, below_new2 w _ _⟩
theorem PB.set {w0 w : World} {x0 x1 x2 x3 x4 x5 y0 y1 y2 y3 y4 y5 : Int} (h : PB w0 w x0 x1 x2 x3 x4 x5) (k : Nat) (v : Value)
    (he : (#[.int .i64 x0, .int .i64 x1, .int .i64 x2, .int .i64 x3, .int .i64 x4, .int .i64 x5] : Array Value).setIfInBounds k v = #[.int .i64 y0, .int .i64 y1, .int .i64 y2, .int .i64 y3, .int .i64 y4, .int .i64 y5]) : PB w0 (w.setCell ⟨w0.heap.size + 1, k, none⟩ v) y0 y1 y2 y3 y4 y5 :=
  ⟨cset_other h.res (by omega) k v, by rw [← he]; exact cset_own h.blk k v, h.below.setCell (by simp) _⟩
/-- What Is hands back. -/
def IsPost (s : ByteArray) (q0 q1 q2 q3 q5 q6 : Nat) (w : World) (e : Ending) (w' : World) : Prop :=
  ∃ x0 x1 x2 x3 x4 x5 : Int, e = .returned (.tuple #[.agg #[.int .i64 x0, .int .i64 x1, .int .i64 x2, .int .i64 x3, .int .i64 x4, .int .i64 x5], .bool (okW s.data.toList)]) ∧
    (okW s.data.toList = true → x0 = q0 ∧ x1 = q1 ∧ x2 = q2 ∧ x3 = q3 ∧ x4 = q5 ∧ x5 = q6) ∧ Below w.heap.size w w'
theorem is_end {s : ByteArray} {q0 q1 q2 q3 q5 q6 : Nat} {w w' : World} {x0 x1 x2 x3 x4 x5 : Int} (h : PB w w' x0 x1 x2 x3 x4 x5) (b : Bool) (hb : okW s.data.toList = b) (hx : b = true → x0 = q0 ∧ x1 = q1 ∧ x2 = q2 ∧ x3 = q3 ∧ x4 = q5 ∧ x5 = q6)
    (a : Array Value) (ha : a[2]?.getD undef = .pointer (some ⟨w.heap.size, 0, none⟩)) (ha3 : a[3]?.getD undef = .bool b) :
    bodyPost Tryz.prog Tryz.f49 (IsPost s q0 q1 q2 q3 q5 q6 w) .ret ⟨a, []⟩ ((((((w'.setCell ⟨w.heap.size, 0, none⟩ (.int .i64 x0)).setCell ⟨w.heap.size, 1, none⟩ (.int .i64 x1)).setCell ⟨w.heap.size, 2, none⟩ (.int .i64 x2)).setCell ⟨w.heap.size, 3, none⟩ (.int .i64 x3)).setCell ⟨w.heap.size, 4, none⟩ (.int .i64 x4)).setCell ⟨w.heap.size, 5, none⟩ (.int .i64 x5)) := by
  have hh := cset_own (cset_own (cset_own (cset_own (cset_own (cset_own h.res 0 (.int .i64 x0)) 1 (.int .i64 x1)) 2 (.int .i64 x2)) 3 (.int .i64 x3)) 4 (.int .i64 x4)) 5 (.int .i64 x5)
  have b1 : Below w.heap.size w ((((((w'.setCell ⟨w.heap.size, 0, none⟩ (.int .i64 x0)).setCell ⟨w.heap.size, 1, none⟩ (.int .i64 x1)).setCell ⟨w.heap.size, 2, none⟩ (.int .i64 x2)).setCell ⟨w.heap.size, 3, none⟩ (.int .i64 x3)).setCell ⟨w.heap.size, 4, none⟩ (.int .i64 x4)).setCell ⟨w.heap.size, 5, none⟩ (.int .i64 x5)) :=
    (((((h.below.setCell (Nat.le_refl _) _).setCell (Nat.le_refl _) _).setCell (Nat.le_refl _) _).setCell (Nat.le_refl _) _).setCell (Nat.le_refl _) _).setCell (Nat.le_refl _) _
  generalize (((((w'.setCell ⟨w.heap.size, 0, none⟩ (.int .i64 x0)).setCell ⟨w.heap.size, 1, none⟩ (.int .i64 x1)).setCell ⟨w.heap.size, 2, none⟩ (.int .i64 x2)).setCell ⟨w.heap.size, 3, none⟩ (.int .i64 x3)).setCell ⟨w.heap.size, 4, none⟩ (.int .i64 x4)).setCell ⟨w.heap.size, 5, none⟩ (.int .i64 x5) = wz at hh b1 ⊢
  have hh : wz.heap[w.heap.size]? = some (.cells #[.int .i64 x0, .int .i64 x1, .int .i64 x2, .int .i64 x3, .int .i64 x4, .int .i64 x5] 64 (0, 0)) := by simpa using hh
  have c0 : wz.cell? ⟨w.heap.size, 0, none⟩ = some (.int .i64 x0) := blk_cell hh 0
  have c1 : wz.cell? ⟨w.heap.size, 1, none⟩ = some (.int .i64 x1) := blk_cell hh 1
  have c2 : wz.cell? ⟨w.heap.size, 2, none⟩ = some (.int .i64 x2) := blk_cell hh 2
  have c3 : wz.cell? ⟨w.heap.size, 3, none⟩ = some (.int .i64 x3) := blk_cell hh 3
  have c4 : wz.cell? ⟨w.heap.size, 4, none⟩ = some (.int .i64 x4) := blk_cell hh 4
  have c5 : wz.cell? ⟨w.heap.size, 5, none⟩ = some (.int .i64 x5) := blk_cell hh 5
  refine bodyPost_ret (v := .tuple #[.agg #[.int .i64 x0, .int .i64 x1, .int .i64 x2, .int .i64 x3, .int .i64 x4, .int .i64 x5], .bool b]) ?_ rfl ?_
  · simp [results, Tryz.results49, go_sem, ha, ha3, c0, c1, c2, c3, c4, c5]
  · unfold IsPost
    rw [hb]
    exact ⟨x0, x1, x2, x3, x4, x5, rfl, hx, b1⟩
/-- One nought and more: the whole part that may not be. -/
theorem bad_empty {w : List UInt8} (h : w = []) : badW w = true := by subst h; rfl
theorem whole_at {s : ByteArray} {q0 : Nat} (h0 : l1 s.data.toList = s.data.toList.drop q0) (hn : 0 < (wholeL s.data.toList).length) : ∃ h : q0 < s.size, hdB (· == 48) (wholeL s.data.toList) = (s[q0] == 48) := by
  have hq : q0 < s.size := by
    rcases Nat.lt_or_ge q0 s.size with h | h
    · exact h
    · rw [wholeL, h0, List.drop_eq_nil_of_le (by rw [size_list]; exact h)] at hn; simp at hn
  refine ⟨hq, ?_⟩
  unfold wholeL at hn ⊢
  rw [h0, List.drop_eq_getElem_cons (show q0 < s.data.toList.length from hq), List.takeWhile_cons] at hn ⊢
  split
  · rfl
  · rename_i h
    rw [if_neg h] at hn; simp at hn

set_option maxRecDepth 100000 in
set_option maxHeartbeats 8000000 in
theorem is_is (s : ByteArray) (q0 q1 q2 q3 q4 q5 q6 : Nat) (hs : s.size ≤ 549755813888) (hP : Pl s q0 q1 q2 q3 q4 q5 q6) (w : World) :
    Calls Tryz.prog 49 #[.string s] w (IsPost s q0 q1 q2 q3 q5 q6 w) := by
  have HP := Lib.hid hP
  have z1 : q0 ≤ q1 := by rw [hP.e1]; omega
  have z2 : q1 ≤ q2 := by rw [hP.e2]; omega
  have z3 : q2 ≤ q3 := by rw [hP.e3]; omega
  have z4 : q3 ≤ q4 := by rw [hP.e4]; omega
  have z5 : q4 ≤ q5 := by rw [hP.e5]; omega
  have z6 : q5 ≤ q6 := by rw [hP.e6]; omega
  have z7 := hP.le
  have R1 := Lib.hid (fun w => run_is s q0 q1 hs (by omega) (by rw [runN, ← hP.d0, hP.e1]; rfl) w)
  obtain ⟨m, hm⟩ : ∃ m, Hid (hdB isMin s.data.toList = m) := ⟨_, rfl⟩
  obtain ⟨pt, hpt⟩ : ∃ m, Hid (hdB isDot (l2 s.data.toList) = m) := ⟨_, rfl⟩
  obtain ⟨ra, hra⟩ : ∃ m, Hid (hdB isExp (l4 s.data.toList) = m) := ⟨_, rfl⟩
  obtain ⟨bd, hbd⟩ : ∃ m, Hid (badW (wholeL s.data.toList) = m) := ⟨_, rfl⟩
  clear hP
  go_enter Tryz.func49, Tryz.ntmps49
  go_upto_region 3 with (fail)
  have H0 := Lib.hid (PB.new w)
  generalize (w.alloc (.cells #[.int .i64 0, .int .i64 0, .int .i64 0, .int .i64 0, .int .i64 0, .int .i64 0] 64)).alloc (.cells #[.int .i64 0, .int .i64 0, .int .i64 0, .int .i64 0, .int .i64 0, .int .i64 0] 64) = w1 at H0 ⊢
  go_cut [15] from 6 to 15 (fun s15 w' => s15 = .bool m ∧ Hid (PB w w' 0 0 0 0 0 0))
  case first =>
    cases m
    · rcases hd_not (q := 0) (s := s) rfl hm.out with h | ⟨h, hh⟩
      · go_wp2
        go_meet
        case rel => exact ⟨rfl, H0⟩
      · have g1 : (((s[0]'h).toNat : Int) == 45) = false := (u8_beq _ 45).trans hh
        clear hh
        go_wp2
        go_meet
        case rel => exact ⟨rfl, H0⟩
    · obtain ⟨h, hh⟩ := hd_yes (q := 0) (s := s) rfl hm.out
      have g1 : (((s[0]'h).toNat : Int) == 45) = true := (u8_beq _ 45).trans hh
      clear hh
      go_wp2
      go_meet
      case rel => exact ⟨rfl, H0⟩
  case rest =>
    obtain ⟨rfl, H1⟩ := hcut
    clear H0
    go_upto_if 15 with (fail)
    go_cut [5] from 16 to 17 (fun s5 w' => s5 = .int .i64 (q0 : Int) ∧ Hid (PB w w' 0 0 0 0 0 0))
    case first =>
      have he := HP.out.e0
      rw [one, hm.out] at he
      cases m
      · go_wp2
        go_meet
        case rel => exact ⟨by rw [he]; rfl, H1⟩
      · go_wp2
        go_meet
        case rel => exact ⟨by rw [he]; rfl, H1⟩
    case rest =>
      obtain ⟨rfl, H2⟩ := hcut
      clear H1 hm
      obtain ⟨a0, a1, a2, a3, a4, a5, af⟩ := H2.out.facts
      go_upto_region 8 with (go_at_call 79; (with_reducible refine (R1.out _).mono ?_); rintro e w' ⟨rfl, rfl⟩)
      have H3 := Lib.hid ((H2.out.set (y0 := q0) 0 (.int .i64 (q0 : Int)) rfl).set (y1 := q1) 1 (.int .i64 (q1 : Int)) rfl)
      generalize (wc.setCell ⟨w.heap.size + 1, 0, none⟩ (.int .i64 (q0 : Int))).setCell ⟨w.heap.size + 1, 1, none⟩ (.int .i64 (q1 : Int)) = w3 at H3 ⊢
      clear a0 a1 a2 a3 a4 a5 af H2
      obtain ⟨a0, a1, a2, a3, a4, a5, af⟩ := H3.out.facts
      go_cut [44] from 25 to 44 (fun s44 w' => s44 = .bool bd ∧ Hid (PB w w' q0 q1 0 0 0 0))
      case first =>
        have he1 := HP.out.e1
        have hb := hbd.out
        by_cases g0 : q1 = q0
        · have hbt : bd = true := by
            rw [← hb]; exact bad_empty (List.length_eq_zero_iff.1 (by omega))
          have b0 : ((q1 : Int) == (q0 : Int)) = true := by simp [g0]
          subst hbt
          clear he1 hb g0
          go_wp2
          go_meet
          case rel => exact ⟨rfl, H3⟩
        · have b0 : ((q1 : Int) == (q0 : Int)) = false := by simp; omega
          obtain ⟨hq, hw⟩ := whole_at HP.out.d0 (by omega)
          have hbe : bd = (decide (q0 + 1 < q1) && (((s[q0]'hq).toNat : Int) == 48)) := by
            have e48 : (((s[q0]'hq).toNat : Int) == 48) = (s[q0]'hq == 48) := u8_beq _ 48
            rw [← hb, badW, hw, e48]
            have : (wholeL s.data.toList).isEmpty = false := by
              cases e : wholeL s.data.toList with
              | nil => rw [e] at he1; simp at he1; omega
              | cons c t => rfl
            rw [this, Bool.false_or]
            congr 1
            rw [Bool.eq_iff_iff]; simp; omega
          have HBE := Lib.hid hbe
          clear hw he1 hb g0 hbe
          obtain ⟨c, hc⟩ : ∃ c, (((s[q0]'hq).toNat : Int) == 48) = c := ⟨_, rfl⟩
          rw [hc] at HBE
          cases c
          · go_wp2
            go_meet
            case rel => exact ⟨by rw [HBE.out, Bool.and_false], H3⟩
          · by_cases g1 : q0 + 1 < q1
            · have b2 : decide ((q0 : Int) + 1 < (q1 : Int)) = true := by simp; omega
              go_wp2
              go_meet
              case rel => exact ⟨by rw [HBE.out, decide_eq_true g1]; rfl, H3⟩
            · have b2 : decide ((q0 : Int) + 1 < (q1 : Int)) = false := by simp; omega
              go_wp2
              go_meet
              case rel => exact ⟨by rw [HBE.out, decide_eq_false g1]; rfl, H3⟩
      case rest =>
        obtain ⟨rfl, H4⟩ := hcut
        clear H3 a0 a1 a2 a3 a4 a5 af
        obtain ⟨a0, a1, a2, a3, a4, a5, af⟩ := H4.out.facts
        cases bd
        rotate_left
        · obtain ⟨r0, r1, r2, r3, r4, r5, rf⟩ := H4.out.rfacts
          have hok : okW s.data.toList = false := by rw [okW, hbd.out]; rfl
          have HOK := Lib.hid hok
          clear hok
          go_wp2
          exact is_end H4.out false HOK.out (fun h => by cases h) _ rfl rfl
        · go_upto_region 12 with (fail)
          have H5 := Lib.hid ((H4.out.set (y2 := q1) 2 (.int .i64 (q1 : Int)) rfl).set (y3 := q1) 3 (.int .i64 (q1 : Int)) rfl)
          generalize (wc.setCell ⟨w.heap.size + 1, 2, none⟩ (.int .i64 (q1 : Int))).setCell ⟨w.heap.size + 1, 3, none⟩ (.int .i64 (q1 : Int)) = w5 at H5 ⊢
          clear a0 a1 a2 a3 a4 a5 af H4
          obtain ⟨a0, a1, a2, a3, a4, a5, af⟩ := H5.out.facts
          go_cut [59] from 50 to 59 (fun s59 w' => s59 = .bool pt ∧ Hid (PB w w' q0 q1 q1 q1 0 0))
          case first =>
            cases pt
            · rcases hd_not HP.out.d1 hpt.out with h | ⟨h, hh⟩
              · go_wp2
                go_meet
                case rel => exact ⟨rfl, H5⟩
              · have g1 : (((s[q1]'h).toNat : Int) == 46) = false := (u8_beq _ 46).trans hh
                clear hh
                go_wp2
                go_meet
                case rel => exact ⟨rfl, H5⟩
            · obtain ⟨h, hh⟩ := hd_yes HP.out.d1 hpt.out
              have g1 : (((s[q1]'h).toNat : Int) == 46) = true := (u8_beq _ 46).trans hh
              clear hh
              go_wp2
              go_meet
              case rel => exact ⟨rfl, H5⟩
          case rest =>
            obtain ⟨rfl, H6⟩ := hcut
            clear H5 a0 a1 a2 a3 a4 a5 af
            obtain ⟨a0, a1, a2, a3, a4, a5, af⟩ := H6.out.facts
            go_upto_if 59 with (fail)
            go_cut [3, 5] from 60 to 76 (fun s3 s5 w' => s3 = .bool false ∧ s5 = .int .i64 (q3 : Int) ∧ Hid (pt = !(partL s.data.toList).isEmpty) ∧ Hid (PB w w' q0 q1 q2 q3 0 0))
            case first =>
              have he2 := HP.out.e2
              have he3 := HP.out.e3
              rw [one, hpt.out] at he2
              cases pt
              · have hpn : partL s.data.toList = [] := by rw [partL, hpt.out]; rfl
                have k2 : q2 = q1 := by simpa using he2
                have k3 : q3 = q1 := by rw [he3, hpn, k2]; rfl
                have HX : Hid (PB w wc q0 q1 q2 q3 0 0) := by rw [k2, k3]; exact H6.out
                have HPN := Lib.hid hpn
                have K3 := Lib.hid k3
                clear he2 he3 hpn k2 k3
                go_wp2
                go_meet
                case rel => exact ⟨rfl, by rw [K3.out], by show _ = _; rw [HPN.out]; rfl, HX⟩
              · obtain ⟨k1, _⟩ := hd_yes HP.out.d1 hpt.out
                have k2 : q2 = q1 + 1 := by simpa using he2
                have hpl : partL s.data.toList = (l3 s.data.toList).takeWhile dgB := by rw [partL, if_pos hpt.out]
                have R2 := Lib.hid (fun w => run_at s ((q1 : Int) + 1) (q1 + 1) q3 (by omega) hs (by omega) (by rw [runN, ← k2, ← HP.out.d2, he3, hpl]) w)
                have K2 := Lib.hid k2
                by_cases hp3 : q3 = q2
                · have hok : okW s.data.toList = false := by
                    have : partL s.data.toList = [] := List.length_eq_zero_iff.1 (by omega)
                    rw [okW, hbd.out, hpt.out, this]; simp
                  have HOK := Lib.hid hok
                  have b0 : ((q3 : Int) == (q1 : Int) + 1) = true := by simp; omega
                  obtain ⟨r0, r1, r2, r3, r4, r5, rf⟩ := H6.out.rfacts
                  clear he2 he3 hpl k2 hp3 hok
                  go_wp2_with (go_at_call 79; (with_reducible refine (R2.out _).mono ?_); rintro e w' ⟨rfl, rfl⟩)
                  exact is_end ((H6.out.set (y2 := (q1 : Int) + 1) 2 _ rfl).set (y3 := q3) 3 _ rfl) false HOK.out (fun h => by cases h) _ rfl rfl
                · have hpe : (partL s.data.toList).isEmpty = false := by
                    cases e : partL s.data.toList with
                    | nil => rw [e] at he3; simp at he3; omega
                    | cons c t => rfl
                  have HPE := Lib.hid hpe
                  have b0 : ((q3 : Int) == (q1 : Int) + 1) = false := by simp; omega
                  clear he2 he3 hpl k2 hp3 hpe
                  go_wp2_with (go_at_call 79; (with_reducible refine (R2.out _).mono ?_); rintro e w' ⟨rfl, rfl⟩)
                  go_meet
                  case rel =>
                    refine ⟨rfl, rfl, by show _ = _; rw [HPE.out]; rfl, ?_⟩
                    exact (H6.out.set (y2 := q2) 2 _ (by rw [K2.out]; rfl)).set (y3 := q3) 3 _ rfl
            case rest =>
              obtain ⟨rfl, rfl, HQ, H7⟩ := hcut
              clear H6 a0 a1 a2 a3 a4 a5 af
              obtain ⟨a0, a1, a2, a3, a4, a5, af⟩ := H7.out.facts
              go_upto_region 20 with (fail)
              have H8 := Lib.hid ((H7.out.set (y4 := q3) 4 (.int .i64 (q3 : Int)) rfl).set (y5 := q3) 5 (.int .i64 (q3 : Int)) rfl)
              generalize (wc.setCell ⟨w.heap.size + 1, 4, none⟩ (.int .i64 (q3 : Int))).setCell ⟨w.heap.size + 1, 5, none⟩ (.int .i64 (q3 : Int)) = w8 at H8 ⊢
              clear a0 a1 a2 a3 a4 a5 af H7
              obtain ⟨a0, a1, a2, a3, a4, a5, af⟩ := H8.out.facts
              go_cut [95] from 80 to 95 (fun s95 w' => s95 = .bool ra ∧ Hid (PB w w' q0 q1 q2 q3 q3 q3))
              case first =>
                cases ra
                · rcases hd_not HP.out.d3 hra.out with h | ⟨h, hh⟩
                  · go_wp2
                    go_meet
                    case rel => exact ⟨rfl, H8⟩
                  · unfold isExp at hh
                    rw [Bool.or_eq_false_iff] at hh
                    have g1 : (((s[q3]'h).toNat : Int) == 101) = false := (u8_beq _ 101).trans hh.1
                    have g2 : (((s[q3]'h).toNat : Int) == 69) = false := (u8_beq _ 69).trans hh.2
                    clear hh
                    go_wp2
                    go_meet
                    case rel => exact ⟨rfl, H8⟩
                · obtain ⟨h, hh⟩ := hd_yes HP.out.d3 hra.out
                  unfold isExp at hh
                  cases h1 : s[q3]'h == 101
                  · rw [h1, Bool.false_or] at hh
                    have g1 : (((s[q3]'h).toNat : Int) == 101) = false := (u8_beq _ 101).trans h1
                    have g2 : (((s[q3]'h).toNat : Int) == 69) = true := (u8_beq _ 69).trans hh
                    clear hh h1
                    go_wp2
                    go_meet
                    case rel => exact ⟨rfl, H8⟩
                  · have g1 : (((s[q3]'h).toNat : Int) == 101) = true := (u8_beq _ 101).trans h1
                    clear hh h1
                    go_wp2
                    go_meet
                    case rel => exact ⟨rfl, H8⟩
              case rest =>
                obtain ⟨rfl, H9⟩ := hcut
                clear H8 a0 a1 a2 a3 a4 a5 af
                obtain ⟨a0, a1, a2, a3, a4, a5, af⟩ := H9.out.facts
                go_upto_if 95 with (fail)
                go_cut [3, 5] from 96 to 128 (fun s3 s5 w' => s3 = .bool false ∧ s5 = .int .i64 (q6 : Int) ∧ Hid (ra = !(powerL s.data.toList).isEmpty) ∧ Hid (PB w w' q0 q1 q2 q3 q5 q6))
                case first =>
                  have he4 := HP.out.e4
                  have he5 := HP.out.e5
                  have he6 := HP.out.e6
                  rw [one, hra.out] at he4
                  cases ra
                  · have hpn : powerL s.data.toList = [] := by rw [powerL, hra.out]; rfl
                    have hsn : signL s.data.toList = [] := by rw [signL, hra.out]; rfl
                    have k4 : q4 = q3 := by simpa using he4
                    have k5 : q5 = q3 := by rw [he5, hsn, k4]; rfl
                    have k6 : q6 = q3 := by rw [he6, hpn, k5]; rfl
                    have HX : Hid (PB w wc q0 q1 q2 q3 q5 q6) := by rw [k5, k6]; exact H9.out
                    have HPN := Lib.hid hpn
                    have K6 := Lib.hid k6
                    clear he4 he5 he6 hpn hsn k4 k5 k6
                    go_wp2
                    go_meet
                    case rel => exact ⟨rfl, by rw [K6.out], by show _ = _; rw [HPN.out]; rfl, HX⟩
                  · obtain ⟨k3, _⟩ := hd_yes HP.out.d3 hra.out
                    have k4 : q4 = q3 + 1 := by simpa using he4
                    have hpl : powerL s.data.toList = (l6 s.data.toList).takeWhile dgB := by rw [powerL, if_pos hra.out]
                    have hsl : signL s.data.toList = (l5 s.data.toList).take (one isSig (l5 s.data.toList)) := by rw [signL, if_pos hra.out]
                    have k5 : q5 = q4 + one isSig (l5 s.data.toList) := by
                      rw [he5, hsl, List.length_take, Nat.min_eq_left (one_le _ _)]
                    obtain ⟨sgb, hsgb⟩ : ∃ m, Hid (hdB isSig (l5 s.data.toList) = m) := ⟨_, rfl⟩
                    rw [one, hsgb.out] at k5
                    have R3 := Lib.hid (fun w => run_is s q5 q6 hs (by omega) (by rw [runN, ← HP.out.d5, he6, hpl]) w)
                    have K4 := Lib.hid k4
                    have K5 := Lib.hid k5
                    have HE6 := Lib.hid he6
                    clear he4 he5 he6 hpl hsl k4 k5
                    go_upto_region 22 with (fail)
                    go_cut [113] from 98 to 113 (fun s113 w' => s113 = .bool sgb ∧ Hid (PB w w' q0 q1 q2 q3 q3 q3))
                    case first =>
                      have hd4 := HP.out.d4
                      rw [K4.out] at hd4
                      cases sgb
                      · rcases hd_not hd4 hsgb.out with h | ⟨h, hh⟩
                        · clear hd4
                          go_wp2
                          go_meet
                          case rel => exact ⟨rfl, H9⟩
                        · unfold isSig at hh
                          rw [Bool.or_eq_false_iff] at hh
                          have g1 : (((s[q3 + 1]'h).toNat : Int) == 43) = false := (u8_beq _ 43).trans hh.1
                          have g2 : (((s[q3 + 1]'h).toNat : Int) == 45) = false := (u8_beq _ 45).trans hh.2
                          clear hh hd4
                          go_wp2
                          go_meet
                          case rel => exact ⟨rfl, H9⟩
                      · obtain ⟨h, hh⟩ := hd_yes hd4 hsgb.out
                        unfold isSig at hh
                        cases h1 : s[q3 + 1]'h == 43
                        · rw [h1, Bool.false_or] at hh
                          have g1 : (((s[q3 + 1]'h).toNat : Int) == 43) = false := (u8_beq _ 43).trans h1
                          have g2 : (((s[q3 + 1]'h).toNat : Int) == 45) = true := (u8_beq _ 45).trans hh
                          clear hh h1 hd4
                          go_wp2
                          go_meet
                          case rel => exact ⟨rfl, H9⟩
                        · have g1 : (((s[q3 + 1]'h).toNat : Int) == 43) = true := (u8_beq _ 43).trans h1
                          clear hh h1 hd4
                          go_wp2
                          go_meet
                          case rel => exact ⟨rfl, H9⟩
                    case rest =>
                      obtain ⟨rfl, H10⟩ := hcut
                      clear H9 a0 a1 a2 a3 a4 a5 af
                      obtain ⟨a0, a1, a2, a3, a4, a5, af⟩ := H10.out.facts
                      go_upto_if 113 with (fail)
                      go_cut [5] from 114 to 115 (fun s5 w' => s5 = .int .i64 (q5 : Int) ∧ Hid (PB w w' q0 q1 q2 q3 q3 q3))
                      case first =>
                        cases sgb
                        · go_wp2
                          go_meet
                          case rel => exact ⟨by rw [K5.out, K4.out]; simp, H10⟩
                        · go_wp2
                          go_meet
                          case rel => exact ⟨by rw [K5.out, K4.out]; go_num, H10⟩
                      case rest =>
                        obtain ⟨rfl, H11⟩ := hcut
                        clear H10 a0 a1 a2 a3 a4 a5 af
                        obtain ⟨a0, a1, a2, a3, a4, a5, af⟩ := H11.out.facts
                        have H12 := Lib.hid ((H11.out.set (y4 := q5) 4 (.int .i64 (q5 : Int)) rfl).set (y5 := q6) 5 (.int .i64 (q6 : Int)) rfl)
                        by_cases hp6 : q6 = q5
                        · have hok : okW s.data.toList = false := by
                            have : powerL s.data.toList = [] := List.length_eq_zero_iff.1 (by have := HE6.out; omega)
                            rw [okW, hra.out, this]; simp
                          have HOK := Lib.hid hok
                          have b0 : ((q6 : Int) == (q5 : Int)) = true := by simp; omega
                          obtain ⟨r0, r1, r2, r3, r4, r5, rf⟩ := H11.out.rfacts
                          clear hp6 hok
                          go_wp2_with (go_at_call 79; (with_reducible refine (R3.out _).mono ?_); rintro e w' ⟨rfl, rfl⟩)
                          exact is_end H12.out false HOK.out (fun h => by cases h) _ rfl rfl
                        · have hpe : (powerL s.data.toList).isEmpty = false := by
                            cases e : powerL s.data.toList with
                            | nil => have he6 := HE6.out; rw [e] at he6; simp at he6; omega
                            | cons c t => rfl
                          have HPE := Lib.hid hpe
                          have b0 : ((q6 : Int) == (q5 : Int)) = false := by simp; omega
                          clear hp6 hpe
                          go_wp2_with (go_at_call 79; (with_reducible refine (R3.out _).mono ?_); rintro e w' ⟨rfl, rfl⟩)
                          go_meet
                          case rel => exact ⟨rfl, rfl, by show _ = _; rw [HPE.out]; rfl, H12⟩
                case rest =>
                  obtain ⟨rfl, rfl, HQ2, H13⟩ := hcut
                  clear H9 a0 a1 a2 a3 a4 a5 af
                  obtain ⟨a0, a1, a2, a3, a4, a5, af⟩ := H13.out.facts
                  obtain ⟨r0, r1, r2, r3, r4, r5, rf⟩ := H13.out.rfacts
                  have hok : okW s.data.toList = decide (q6 = s.size) := by
                    have h1 := HQ.out
                    have h2 := HQ2.out
                    have h3 : (hdB isDot (l2 s.data.toList) == !(partL s.data.toList).isEmpty) = true := by rw [hpt.out, ← h1]; simp
                    have h4 : (hdB isExp (l4 s.data.toList) == !(powerL s.data.toList).isEmpty) = true := by rw [hra.out, ← h2]; simp
                    rw [okW, hbd.out, h3, h4, HP.out.d6, Bool.and_true, Bool.and_true, Bool.not_false, Bool.true_and, Bool.eq_iff_iff, List.isEmpty_iff, List.drop_eq_nil_iff, decide_eq_true_iff, size_list]
                    omega
                  have HOK := Lib.hid hok
                  clear hok
                  by_cases hend : q6 = s.size
                  · have b0 : ((q6 : Int) == (s.size : Int)) = true := by simp; omega
                    have HO2 : Hid (okW s.data.toList = true) := HOK.out.trans (decide_eq_true hend)
                    clear hend
                    go_wp2
                    exact is_end H13.out true HO2.out (fun _ => ⟨rfl, rfl, rfl, rfl, rfl, rfl⟩) _ rfl rfl
                  · have b0 : ((q6 : Int) == (s.size : Int)) = false := by simp; omega
                    have HO2 : Hid (okW s.data.toList = false) := HOK.out.trans (decide_eq_false hend)
                    clear hend
                    go_wp2
                    exact is_end H13.out false HO2.out (fun h => by cases h) _ rfl rfl

end Go.Proofs.YtncldnghhpdolaaGreatDoor
