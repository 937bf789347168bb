/- Walks over the reference of chapter 08: Next at numbers; no statement of the seat is proved here. -/
import Derived.Test.YtjiejpjdbimjkaaJtRefB
namespace Go.Proofs.Ytjiejpjdbimjkaa
open Go.RowKit

theorem isAt_atR (l : List UInt8) (k : Nat) (b : UInt8) (hb : b ≠ 0) : isAt l k [b] = (((atR l k).toNat : Int) == ((b.toNat : Nat) : Int)) := by
  by_cases h : k < l.length
  · rw [isAt_c h, atR_lt h, byte_eq]
  · rw [isAt_ge h, atR_ge h, byte_eq]
    have : ((0 : UInt8) == b) = false := by simpa using fun e => hb e.symm
    rw [this]
theorem isAt_two (l : List UInt8) (k : Nat) (a b : UInt8) (ha : a ≠ 0) (hb : b ≠ 0) : isAt l k [a, b] = ((((atR l k).toNat : Int) == ((a.toNat : Nat) : Int)) || (((atR l k).toNat : Int) == ((b.toNat : Nat) : Int))) := by
  rw [← isAt_atR l k a ha, ← isAt_atR l k b hb]
  by_cases h : k < l.length
  · rw [isAt_lt h, isAt_lt h, isAt_lt h]; rw [Bool.eq_iff_iff]; simp
  · rw [isAt_ge h, isAt_ge h, isAt_ge h]; rfl
theorem digAt_atR (l : List UInt8) (k : Nat) : digAt l k = isDigit (atR l k) := by
  unfold digAt
  by_cases h : k < l.length
  · rw [dif_pos h, atR_lt h]
  · rw [dif_neg h, atR_ge h]; rfl
/-- whether the digits go on -/
theorem run_digit (l : List UInt8) (k : Nat) : k < runL isDigit l k ↔ isDigit (atR l k) = true := by
  by_cases h : isDigit (atR l k) = true
  · have := runR_yes zero_not.1 h
    have hb := runL_le isDigit l (k + 1) (by omega)
    simp only [h, iff_true]; omega
  · have hf : isDigit (atR l k) = false := by simpa using h
    rw [runR_no hf]; simp [hf]

set_option maxRecDepth 100000 in
set_option maxHeartbeats 2000000 in
theorem rnext_num (A : Option Addr) (l : List UInt8) (c : Nat) (k : Nat) (hk : k < l.length) (hl : l.length ≤ 4611686018427387904) (hsp : isSpace l[k] = false) (hmk : isMark l[k] = false) (hle : isLetter l[k] = false) (hnu : isNum l[k] = true) (w : World) (hB : BS w w.heap.size A l) :
    Calls Try.prog 11 #[.slice A l.length c, .int .i64 k] w fun e w' => e = .returned (nextM l k).rval ∧ Below w.heap.size w w' := by
  have HN : Hid (nextM l k = tokEnd 3 k (numM l k)) := by
    show _ = _
    rw [nextM_in hk, nextF, if_neg (by simp [hsp]), if_neg (by simp [hmk]), if_neg (by simp [hle]), if_pos ⟨by omega, hnu⟩]
  obtain ⟨a, rfl, ha, hc⟩ := hB k hk
  have HB := Lib.hid hB; clear hB
  have hca : ∀ o p, ((w.alloc o).alloc p).cell? (a.add k) = some (.int .u8 ((l[k].toNat : Nat) : Int)) := fun o p => cell_later (below_new2 w o p) hc
  have HD := Lib.hid rspace_tells
  have HG := Lib.hid rdigit_tells
  have hkl : ¬ l.length ≤ k := by omega
  obtain ⟨m1, m2, m3, m4, m5, m6⟩ := mark_chain_not hmk
  have hx : (l[k].toNat : Int) < 97 ∨ 97 ≤ (l[k].toNat : Int) ∧ 122 < (l[k].toNat : Int) := by rw [letter_le] at hle; simp at hle; omega
  have hx1 : (l[k].toNat : Int) < 97 := by
    rcases hx with h | ⟨_, h⟩
    · exact h
    · simp [isNum, isDigit] at hnu; omega
  have HBA := Lib.hid (HB.out.below (below_new2 w (.cells #[.int .i64 0, .int .i64 0, .int .i64 0] 40) (.cells #[.int .i64 0, .int .i64 0] 28)))
  have hnum : (((l[k].toNat : Int) == 45) || isDigit l[k]) = true := hnu
  have h45 : ((l[k].toNat : Int) == 45) = isAt l k [45] := by rw [isAt_atR l k 45 (by decide), atR_lt hk]; rfl
  obtain ⟨k1, hk1⟩ : ∃ k1, Hid (k1 = nk1 l k) := ⟨nk1 l k, rfl⟩
  have hkb := nk1_bd hk
  rw [← hk1.out] at hkb
  have HAT := Lib.hid (fun (i : Int) (h0 : 0 ≤ i) => rat_any (some a) l l.length rfl c i h0 _ HBA.out)
  have HDS := Lib.hid (fun (i : Int) (h0 : 0 ≤ i) => rdigits_any (some a) l l.length rfl c i h0 hl _ HBA.out)
  have hcase : (((l[k].toNat : Int) == 45) = true ∧ Hid (k1 = k + 1)) ∨ (((l[k].toNat : Int) == 45) = false ∧ isDigit l[k] = true ∧ Hid (k1 = k)) := by
    cases h : ((l[k].toNat : Int) == 45) with
    | true => left; refine ⟨rfl, ?_⟩; show _ = _; rw [hk1.out, nk1, if_pos (by rw [← h45, h])]
    | false => right; refine ⟨rfl, by simpa [h] using hnum, ?_⟩; show _ = _; rw [hk1.out, nk1, if_neg (by rw [← h45, h]; simp)]
  have HCASE := Lib.hid hcase
  clear hcase hnum hx hnu hle h45
  go_enter Try.func11, Try.ntmps11
  go_upto_region 20 with (go_at_call 18; refine (HD.out _ _).mono ?_; rintro e w' ⟨rfl, rfl⟩)
  go_cut [6, 112] from 11 to 118 (fun s6 s w' => s6 = .int .u8 ((l[k].toNat : Nat) : Int) ∧ s = .bool true ∧ w' = ((w.alloc (.cells #[.int .i64 0, .int .i64 0, .int .i64 0] 40)).alloc (.cells #[.int .i64 0, .int .i64 0] 28)))
  case first =>
    rcases HCASE.out with ⟨h1, _⟩ | ⟨h1, h2, _⟩
    · go_wp2_with (go_at_call 20; refine (HG.out _ _).mono ?_; rintro e w' ⟨rfl, rfl⟩)
      go_meet
      case rel => exact ⟨by simp at h1; rw [h1], rfl, rfl⟩
    · go_wp2_with (go_at_call 20; refine (HG.out _ _).mono ?_; rintro e w' ⟨rfl, rfl⟩)
      go_meet
      case rel => exact ⟨rfl, rfl, rfl⟩
  case rest =>
    obtain ⟨rfl, rfl, rfl⟩ := hcut
    go_upto_if 120 with fail
    go_cut [6, 7] from 11 to 190 (fun s6 s7 w' => (∃ v, s6 = v) ∧ s7 = .int .i64 k1 ∧ w' = ((w.alloc (.cells #[.int .i64 0, .int .i64 0, .int .i64 0] 40)).alloc (.cells #[.int .i64 0, .int .i64 0] 28)))
    case first =>
      rcases HCASE.out with ⟨h1, h2⟩ | ⟨h1, _, h2⟩
      · go_wp2
        go_meet
        case rel => exact ⟨⟨_, rfl⟩, by rw [h2.out]; go_num, rfl⟩
      · go_wp2
        go_meet
        case rel => exact ⟨⟨_, rfl⟩, by rw [h2.out], rfl⟩
    case rest =>
      obtain ⟨⟨v6, hv6⟩, rfl, rfl⟩ := hcut
      clear hv6 v6
      have hda := digAt_atR l k1
      by_cases hd : isDigit (atR l k1) = true
      · have HDA : Hid (digAt l k1 = true) := by show _ = _; rw [hda, hd]
        clear hda
        have hlt1 : k1 < l.length := (digAt_lt HDA.out).1
        go_upto_if 135 with (first | (go_at_call 19; refine (HAT.out _ (by omega)).mono ?_; rintro e w' ⟨rfl, rfl⟩) | (go_at_call 20; refine (HG.out _ _).mono ?_; rintro e w' ⟨rfl, rfl⟩))
        obtain ⟨t1, ht1⟩ : ∃ t1, Hid (t1 = nInt l k1) := ⟨nInt l k1, rfl⟩
        have hb1 := nInt_bd HDA.out
        rw [← ht1.out] at hb1
        have h48 : Hid (isAt l k1 [48] = (((atR l k1).toNat : Int) == 48)) := isAt_atR l k1 48 (by decide)
        go_cut [7] from 113 to 190 (fun s7 w' => s7 = .int .i64 t1 ∧ w' = ((w.alloc (.cells #[.int .i64 0, .int .i64 0, .int .i64 0] 40)).alloc (.cells #[.int .i64 0, .int .i64 0] 28)))
        case first =>
          go_wp2_with (first | (go_at_call 19; refine (HAT.out _ (by omega)).mono ?_; rintro e w' ⟨rfl, rfl⟩) | (go_at_call 21; refine (HDS.out _ (by omega)).mono ?_; rintro e w' ⟨rfl, rfl⟩) | (go_at_call 20; refine (HG.out _ _).mono ?_; rintro e w' ⟨rfl, rfl⟩))
          · go_meet
            case rel => exact ⟨by rw [ht1.out, nInt, if_pos (by rw [h48.out]; assumption)]; go_num, rfl⟩
          · go_meet
            case rel => exact ⟨by rw [ht1.out, nInt, if_neg (by rw [h48.out]; simp [*])], rfl⟩
        case rest =>
          obtain ⟨rfl, rfl⟩ := hcut
          clear hd
          obtain ⟨t2, ht2⟩ : ∃ t2, Hid (t2 = nFrac l t1) := ⟨nFrac l t1, rfl⟩
          have hb2 := nFrac_bd hb1.2
          rw [← ht2.out] at hb2
          have h46 : Hid (isAt l t1 [46] = (((atR l t1).toNat : Int) == 46)) := isAt_atR l t1 46 (by decide)
          have e1 : ((t1 : Int) + 1).toNat = t1 + 1 := by omega
          have hfr : Hid (((((atR l t1).toNat : Int) == 46) && isDigit (atR l (t1 + 1))) = true → t2 = runL isDigit l (t1 + 1)) := by
            intro h
            simp only [Bool.and_eq_true] at h
            rw [ht2.out, nFrac, if_pos (by rw [h46.out]; exact h.1), if_pos ((run_digit l (t1 + 1)).2 h.2)]
          have hfr2 : Hid (((((atR l t1).toNat : Int) == 46) && isDigit (atR l (t1 + 1))) = false → t2 = t1) := by
            intro h
            rw [ht2.out, nFrac]
            split
            · rename_i h1
              rw [h46.out] at h1
              rw [h1, Bool.true_and] at h
              rw [if_neg (by rw [run_digit, h]; simp)]
            · rfl
          go_upto_region 28 with fail
          go_cut [151] from 113 to 190 (fun s w' => s = .bool ((((atR l t1).toNat : Int) == 46) && isDigit (atR l (t1 + 1))) ∧ w' = ((w.alloc (.cells #[.int .i64 0, .int .i64 0, .int .i64 0] 40)).alloc (.cells #[.int .i64 0, .int .i64 0] 28)))
          case first =>
            go_wp2_with (first | (go_at_call 19; refine (HAT.out _ (by omega)).mono ?_; rintro e w' ⟨rfl, rfl⟩) | (go_at_call 21; refine (HDS.out _ (by omega)).mono ?_; rintro e w' ⟨rfl, rfl⟩) | (go_at_call 20; refine (HG.out _ _).mono ?_; rintro e w' ⟨rfl, rfl⟩))
            all_goals go_meet
            all_goals (case rel => exact ⟨by simp [*], rfl⟩)
          case rest =>
            obtain ⟨rfl, rfl⟩ := hcut
            go_upto_if 151 with fail
            go_cut [7] from 113 to 190 (fun s7 w' => s7 = .int .i64 t2 ∧ w' = ((w.alloc (.cells #[.int .i64 0, .int .i64 0, .int .i64 0] 40)).alloc (.cells #[.int .i64 0, .int .i64 0] 28)))
            case first =>
              go_wp2_with (first | (go_at_call 19; refine (HAT.out _ (by omega)).mono ?_; rintro e w' ⟨rfl, rfl⟩) | (go_at_call 21; refine (HDS.out _ (by omega)).mono ?_; rintro e w' ⟨rfl, rfl⟩) | (go_at_call 20; refine (HG.out _ _).mono ?_; rintro e w' ⟨rfl, rfl⟩))
              · go_meet
                case rel => exact ⟨by rw [hfr.out (by simp [*])], rfl⟩
              · have h : ((((atR l t1).toNat : Int) == 46) && isDigit (atR l (t1 + 1))) = false := by rw [Bool.and_eq_false_iff]; assumption
                go_meet
                case rel => exact ⟨by rw [hfr2.out h], rfl⟩
            case rest =>
              obtain ⟨rfl, rfl⟩ := hcut
              clear e1
              obtain ⟨t3, ht3⟩ : ∃ t3, Hid (t3 = nExp l t2) := ⟨nExp l t2, rfl⟩
              have hb3 := nExp_bd hb2.2
              rw [← ht3.out] at hb3
              have hE : Hid (isAt l t2 [101, 69] = ((((atR l t2).toNat : Int) == 101) || (((atR l t2).toNat : Int) == 69))) := isAt_two l t2 101 69 (by decide) (by decide)
              have hS : Hid (isAt l (t2 + 1) [43, 45] = ((((atR l (t2 + 1)).toNat : Int) == 43) || (((atR l (t2 + 1)).toNat : Int) == 45))) := isAt_two l (t2 + 1) 43 45 (by decide) (by decide)
              have e1 : ((t2 : Int) + 1).toNat = t2 + 1 := by omega
              go_upto_region 30 with fail
              go_cut [165] from 113 to 190 (fun s w' => s = .bool (isAt l t2 [101, 69]) ∧ w' = ((w.alloc (.cells #[.int .i64 0, .int .i64 0, .int .i64 0] 40)).alloc (.cells #[.int .i64 0, .int .i64 0] 28)))
              case first =>
                go_wp2_with (first | (go_at_call 19; refine (HAT.out _ (by omega)).mono ?_; rintro e w' ⟨rfl, rfl⟩) | (go_at_call 21; refine (HDS.out _ (by omega)).mono ?_; rintro e w' ⟨rfl, rfl⟩) | (go_at_call 20; refine (HG.out _ _).mono ?_; rintro e w' ⟨rfl, rfl⟩))
                all_goals go_meet
                all_goals (case rel => exact ⟨by rw [hE.out] <;> simp [*], rfl⟩)
              case rest =>
                obtain ⟨rfl, rfl⟩ := hcut
                go_upto_if 165 with fail
                go_cut [7, 9] from 113 to 190 (fun s7 s9 w' => s7 = .int .i64 t3 ∧ (∃ v, s9 = v) ∧ w' = ((w.alloc (.cells #[.int .i64 0, .int .i64 0, .int .i64 0] 40)).alloc (.cells #[.int .i64 0, .int .i64 0] 28)))
                case first =>
                  cases hx : isAt l t2 [101, 69] with
                  | false =>
                    have HX := Lib.hid hx
                    go_wp2_with (first | (go_at_call 19; refine (HAT.out _ (by omega)).mono ?_; rintro e w' ⟨rfl, rfl⟩) | (go_at_call 21; refine (HDS.out _ (by omega)).mono ?_; rintro e w' ⟨rfl, rfl⟩) | (go_at_call 20; refine (HG.out _ _).mono ?_; rintro e w' ⟨rfl, rfl⟩))
                    go_meet
                    case rel => exact ⟨by rw [ht3.out, nExp, if_neg (by rw [HX.out]; simp)], ⟨_, rfl⟩, rfl⟩
                  | true =>
                    have HX := Lib.hid hx
                    obtain ⟨f, hf⟩ : ∃ f, Hid (f = nSign l (t2 + 1)) := ⟨nSign l (t2 + 1), rfl⟩
                    have hlt2 := isAt_at hx
                    have hbf := nSign_bd (l := l) (t := t2 + 1) (by omega)
                    rw [← hf.out] at hbf
                    go_upto_region 32 with fail
                    go_cut [177] from 113 to 190 (fun s w' => s = .bool (isAt l (t2 + 1) [43, 45]) ∧ w' = ((w.alloc (.cells #[.int .i64 0, .int .i64 0, .int .i64 0] 40)).alloc (.cells #[.int .i64 0, .int .i64 0] 28)))
                    case first =>
                      go_wp2_with (first | (go_at_call 19; refine (HAT.out _ (by omega)).mono ?_; rintro e w' ⟨rfl, rfl⟩) | (go_at_call 21; refine (HDS.out _ (by omega)).mono ?_; rintro e w' ⟨rfl, rfl⟩) | (go_at_call 20; refine (HG.out _ _).mono ?_; rintro e w' ⟨rfl, rfl⟩))
                      all_goals go_meet
                      all_goals (case rel => exact ⟨by rw [hS.out] <;> simp [*], rfl⟩)
                    case rest =>
                      obtain ⟨rfl, rfl⟩ := hcut
                      go_upto_if 177 with fail
                      go_cut [9] from 113 to 190 (fun s9 w' => s9 = .int .i64 f ∧ w' = ((w.alloc (.cells #[.int .i64 0, .int .i64 0, .int .i64 0] 40)).alloc (.cells #[.int .i64 0, .int .i64 0] 28)))
                      case first =>
                        cases hy : isAt l (t2 + 1) [43, 45] with
                        | false =>
                          have HY := Lib.hid hy
                          go_wp2
                          go_meet
                          case rel => exact ⟨by rw [hf.out, nSign, if_neg (by rw [HY.out]; simp)]; go_num, rfl⟩
                        | true =>
                          have HY := Lib.hid hy
                          go_wp2
                          go_meet
                          case rel => exact ⟨by rw [hf.out, nSign, if_pos HY.out]; go_num, rfl⟩
                      case rest =>
                        obtain ⟨rfl, rfl⟩ := hcut
                        have hrd := run_digit l f
                        have HR := Lib.hid hrd; clear hrd
                        cases hz : isDigit (atR l f) with
                        | false =>
                          have HZ := Lib.hid hz
                          go_wp2_with (first | (go_at_call 19; refine (HAT.out _ (by omega)).mono ?_; rintro e w' ⟨rfl, rfl⟩) | (go_at_call 21; refine (HDS.out _ (by omega)).mono ?_; rintro e w' ⟨rfl, rfl⟩) | (go_at_call 20; refine (HG.out _ _).mono ?_; rintro e w' ⟨rfl, rfl⟩))
                          go_meet
                          case rel => exact ⟨by rw [ht3.out, nExp, if_pos HX.out, ← hf.out, if_neg (by rw [HR.out, HZ.out]; simp)], ⟨_, rfl⟩, rfl⟩
                        | true =>
                          have HZ := Lib.hid hz
                          go_wp2_with (first | (go_at_call 19; refine (HAT.out _ (by omega)).mono ?_; rintro e w' ⟨rfl, rfl⟩) | (go_at_call 21; refine (HDS.out _ (by omega)).mono ?_; rintro e w' ⟨rfl, rfl⟩) | (go_at_call 20; refine (HG.out _ _).mono ?_; rintro e w' ⟨rfl, rfl⟩))
                          go_meet
                          case rel => exact ⟨by rw [ht3.out, nExp, if_pos HX.out, ← hf.out, if_pos (by rw [HR.out]; exact HZ.out)], ⟨_, rfl⟩, rfl⟩
                case rest =>
                  obtain ⟨rfl, ⟨v9, hv9⟩, rfl⟩ := hcut
                  clear hv9 v9
                  go_wp2
                  have e : nextM l k = ⟨3, k, t3, 0, 0⟩ := by rw [HN.out, numM, ← hk1.out, if_pos HDA.out, ← ht1.out, ← ht2.out, ← ht3.out, tokEnd_mk]
                  exact bodyPost_ret (v := .tuple #[.agg #[.int .i64 3, .int .i64 k, .int .i64 t3], .agg #[.int .i64 0, .int .i64 0]]) (by simp [results, Try.results11, go_sem]) rfl ⟨rret _ _ _ _ _ _ e, below_new2 _ _ _⟩
      · have hd' : isDigit (atR l k1) = false := by simpa using hd
        have HDA : Hid (digAt l k1 = false) := by show _ = _; rw [hda, hd']
        clear hda hd
        go_wp2_with (first | (go_at_call 19; refine (HAT.out _ (by omega)).mono ?_; rintro e w' ⟨rfl, rfl⟩) | (go_at_call 20; refine (HG.out _ _).mono ?_; rintro e w' ⟨rfl, rfl⟩) | (go_at_call 17; refine (syntax_any _ _).mono ?_; rintro e w1 ⟨rfl, hb1⟩; obtain ⟨hx, hbw⟩ := RxB.call hb1; obtain ⟨c1, c2, c3, c4, c5, f1, f2, f3, f4, f5, hltn⟩ := hx.facts; clear hx hb1))
        have e : nextM l k = ⟨0, 0, 0, 3, k1⟩ := by rw [HN.out, numM, ← hk1.out, if_neg (by rw [HDA.out]; simp), tokEnd, if_neg (by simp; try omega)]; rfl
        exact bodyPost_ret (v := .tuple #[.agg #[.int .i64 0, .int .i64 0, .int .i64 0], .agg #[.int .i64 3, .int .i64 k1]]) (by simp [results, Try.results11, go_sem, c1, c2, c3, c4, c5]) rfl ⟨rret _ _ _ _ _ _ e, ((((hbw.setCell (Nat.le_refl _) _).setCell (Nat.le_refl _) _).setCell (Nat.le_refl _) _).setCell (by simp) _).setCell (by simp) _⟩

end Go.Proofs.Ytjiejpjdbimjkaa
