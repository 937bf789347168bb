/- Walks over the reference of chapter 08: Next at strings; no statement of the seat is proved here. -/
import Derived.Test.YtjiejpjdbimjkaaJtRefD
namespace Go.Proofs.Ytjiejpjdbimjkaa
open Go.RowKit

theorem str_fin {l : List UInt8} {k j : Nat} {R r : Int × Int} (_hR : Hid (R = strM l (k + 1))) (HN : Hid (nextM l k = tokEnd 4 k R)) (hr : Hid (strM l j = R)) (h : strM l j = r) : nextM l k = tokEnd 4 k r := by
  rw [HN.out, ← hr.out, h]
theorem str_err {k e : Nat} : tokEnd 4 k (0, (e : Int)) = ⟨0, 0, 0, 3, e⟩ := by rw [tokEnd, if_neg (by simp; try omega)]; rfl

def escX (x : Int) : Bool := (x != 34) && (x != 92) && (x != 47) && (x != 98) && (x != 102) && (x != 110) && (x != 114) && (x != 116)
theorem esc_is {b : Bool} {x v : Int} (h : b = escX x) (hx : x = v) (hv : escX v = false) : false = b := by rw [h, hx, hv]
set_option maxRecDepth 100000 in
set_option maxHeartbeats 4000000 in
theorem rnext_str (A : Option Addr) (l : List UInt8) (c : Nat) (k : Nat) (hk : k < l.length) (hl : l.length ≤ 4611686018427387904) (hsp : isSpace l[k] = false) (hmk : isMark l[k] = false) (hle : isLetter l[k] = false) (hnu : isNum l[k] = false) (hqu : isQuote l[k] = true) (w : World) (hB : BS w w.heap.size A l) :
    Calls Try.prog 11 #[.slice A l.length c, .int .i64 k] w fun e w' => e = .returned (nextM l k).rval ∧ Below w.heap.size w w' := by
  obtain ⟨R, hR⟩ : ∃ R, Hid (R = strM l (k + 1)) := ⟨strM l (k + 1), rfl⟩
  have HN : Hid (nextM l k = tokEnd 4 k R) := by
    show _ = _
    rw [nextM_in hk, nextF, if_neg (by simp [hsp]), if_neg (by simp [hmk]), if_neg (by simp [hle]), if_neg (by simp [hnu]), if_pos ⟨by omega, hqu⟩, hR.out]
  obtain ⟨a, rfl, ha, hc⟩ := hB k hk
  have HB := Lib.hid hB; clear hB
  have hca : ∀ j (h : j < l.length), ((w.alloc (.cells #[.int .i64 0, .int .i64 0, .int .i64 0] 40)).alloc (.cells #[.int .i64 0, .int .i64 0] 28)).cell? (a.add j) = some (.int .u8 ((l[j].toNat : Nat) : Int)) := fun j h => by
    obtain ⟨a', e, _, hc⟩ := HB.out j h
    cases e
    exact cell_later (below_new2 w _ _) hc
  have HCA := Lib.hid hca; clear hca
  have hck := HCA.out k hk
  have HD := Lib.hid rspace_tells
  have HG := Lib.hid rdigit_tells
  have HH := Lib.hid rhex_tells
  have hkl : ¬ l.length ≤ k := by omega
  obtain ⟨m1, m2, m3, m4, m5, m6⟩ := mark_chain_not hmk
  have hx1 : (l[k].toNat : Int) < 97 := by simp [isQuote] at hqu; omega
  have q34 : ((l[k].toNat : Int) == 34) = true := hqu
  have hnu' := hnu
  rw [isNum, Bool.or_eq_false_iff] at hnu'
  obtain ⟨n45, ndig⟩ := hnu'
  have HBA := Lib.hid (HB.out.below (below_new2 w (.cells #[.int .i64 0, .int .i64 0, .int .i64 0] 40) (.cells #[.int .i64 0, .int .i64 0] 28)))
  have HAT := Lib.hid (fun (i : Int) (h0 : 0 ≤ i) => rat_any (some a) l l.length rfl c i h0 _ HBA.out)
  clear hnu hle hqu hc
  go_enter Try.func11, Try.ntmps11
  go_wp2_with (first | (go_at_call 18; refine (HD.out _ _).mono ?_; rintro e w' ⟨rfl, rfl⟩) | (go_at_call 20; refine (HG.out _ _).mono ?_; rintro e w' ⟨rfl, rfl⟩))
  go_loopg [6, 7, 10] (l.length - k) (fun n s6 s7 s10 wr => (∃ v, s6 = v) ∧ (∃ v, s10 = v) ∧ (∃ j : Nat, s7 = .int .i64 j ∧ k < j ∧ j ≤ l.length ∧ Hid (n = l.length + 1 - j) ∧ Hid (strM l j = R)) ∧ wr = ((w.alloc (.cells #[.int .i64 0, .int .i64 0, .int .i64 0] 40)).alloc (.cells #[.int .i64 0, .int .i64 0] 28)))
  case atStart => exact ⟨⟨_, rfl⟩, ⟨_, rfl⟩, ⟨k + 1, by go_num, by omega, by omega, by show _ = _; omega, hR.out.symm⟩, rfl⟩
  case round =>
    obtain ⟨⟨v6, h6⟩, ⟨v10, h10⟩, ⟨j, rfl, hkj, hj, hn, hr⟩, rfl⟩ := hrel
    clear h6 h10 v6 v10 hck
    by_cases hlt : j < l.length
    · have hcj := HCA.out j hlt
      by_cases h34 : ((l[j].toNat : Int) == 34) = true
      · have HS := Lib.hid (str_fin hR HN hr (strM_end hlt h34))
        go_wp2
        exact bodyPost_ret (v := .tuple #[.agg #[.int .i64 4, .int .i64 k, .int .i64 ((j : Int) + 1)], .agg #[.int .i64 0, .int .i64 0]]) (by simp [results, Try.results11, go_sem]) rfl ⟨rret _ _ _ _ _ _ (HS.out.trans (tokEnd_mk _ _ _)), below_new2 _ _ _⟩
      have g34 : ((l[j].toNat : Int) == 34) = false := by simpa using h34
      clear h34
      by_cases h32 : (l[j].toNat : Int) < 32
      · have HS := Lib.hid ((str_fin hR HN hr (strM_low hlt g34 h32)).trans str_err)
        go_wp2_with (go_at_call 17; refine (syntax_any _ _).mono ?_; rintro e w1 ⟨rfl, hb1⟩; obtain ⟨hx, hbw⟩ := RxB.call hb1; obtain ⟨c1, c2, c3, c4, c5, f1, f2, f3, f4, f5, hltn⟩ := hx.facts; clear hx hb1)
        exact bodyPost_ret (v := .tuple #[.agg #[.int .i64 0, .int .i64 0, .int .i64 0], .agg #[.int .i64 3, .int .i64 (j)]]) (by simp [results, Try.results11, go_sem, c1, c2, c3, c4, c5]) rfl ⟨rret _ _ _ _ _ _ HS.out, ((((hbw.setCell (Nat.le_refl _) _).setCell (Nat.le_refl _) _).setCell (Nat.le_refl _) _).setCell (by simp) _).setCell (by simp) _⟩
      have g32 : 32 ≤ (l[j].toNat : Int) := by omega
      clear h32
      by_cases h92 : ((l[j].toNat : Int) != 92) = true
      · have HS := Lib.hid ((strM_on hlt g34 g32 h92).symm.trans hr.out)
        go_wp2
        go_roundg (l.length + 1 - (j + 1))
        case measure => have := hn.out; omega
        case rel => exact ⟨⟨_, rfl⟩, ⟨_, rfl⟩, ⟨j + 1, by go_num, by omega, by omega, rfl, HS.out⟩, rfl⟩
      have g92 : ((l[j].toNat : Int) != 92) = false := by simpa using h92
      clear h92
      by_cases hlt2 : j + 1 < l.length
      · have hcj2 : w.cell? ⟨a.block, a.off + (j + 1), none⟩ = some (.int .u8 ((l[j + 1].toNat : Nat) : Int)) := by
          obtain ⟨a', e, _, hc⟩ := HB.out (j + 1) hlt2
          cases e
          rw [← hc]; simp [Addr.add]
        have hab : a.block < w.heap.size := ha
        have hne : ((j : Int) + 1 == (l.length : Int)) = false := by simp; omega
        have e1 : ((j : Int) + 1).toNat = j + 1 := by omega
        by_cases h117 : ((l[j + 1].toNat : Int) == 117) = true
        · have hu : isAt l (j + 1) [117] = true := by rw [isAt_atR l (j + 1) 117 (by decide), atR_lt hlt2]; exact h117
          have hesc : isAt l (j + 1) [34, 92, 47, 98, 102, 110, 114, 116] = false := by
            have hc := esc_chain hlt2
            have h3 : (l[j + 1].toNat : Int) = 117 := by simpa using h117
            rw [h3] at hc
            simpa using hc
          have HU : Hid ((!isAt l (j + 1) [117]) = false) := by show _ = _; rw [hu]; rfl
          have HE := Lib.hid hesc
          clear hu hesc
          go_wp2_with fail
          go_loopg [10] 5 (fun n s10 wr => ∃ q : Nat, s10 = .int .i64 q ∧ 1 ≤ q ∧ q ≤ 5 ∧ Hid (n = 5 - q + 1) ∧ Hid (∀ m, m + 1 < q → isHex (atR l (j + 1 + 1 + m)) = true) ∧ wr = ((w.alloc (.cells #[.int .i64 0, .int .i64 0, .int .i64 0] 40)).alloc (.cells #[.int .i64 0, .int .i64 0] 28)))
          case atStart => exact ⟨1, rfl, by omega, by omega, rfl, fun m h => by omega, rfl⟩
          case round =>
            obtain ⟨q, rfl, hq1, hq5, hn2, hall, rfl⟩ := hrel
            by_cases hq : q ≤ 4
            · have e2 : ((j : Int) + 1 + (q : Int)).toNat = j + 1 + q := by omega
              have hqd : decide ((q : Int) ≤ 4) = true := by simp; omega
              by_cases hx : isHex (atR l (j + 1 + q)) = true
              · have HX := Lib.hid hx
                go_wp2_with (first | (go_at_call 19; refine (HAT.out _ (by omega)).mono ?_; rintro e w' ⟨rfl, rfl⟩) | (go_at_call 22; refine (HH.out _ _).mono ?_; rintro e w' ⟨rfl, rfl⟩))
                go_roundg (5 - (q + 1) + 1)
                case measure => have := hn2.out; omega
                case rel =>
                  refine ⟨q + 1, by go_num, by omega, by omega, rfl, fun m hm => ?_, rfl⟩
                  by_cases hmq : m + 1 < q
                  · exact hall.out m hmq
                  · rw [show j + 1 + 1 + m = j + 1 + q from by omega]; exact HX.out
              · have hx' : isHex (atR l (j + 1 + q)) = false := by simpa using hx
                have hend : runL isHex (l.take (j + 1 + 1 + 4)) (j + 1 + 1) = j + 1 + q := by
                  have := hex_end (l := l) (s := j + 1 + 1) (n := q - 1) (by omega) (fun m hm => hall.out m (by omega)) (by rw [show j + 1 + 1 + (q - 1) = j + 1 + q from by omega]; exact hx')
                  rw [this]; omega
                have hhex := strM_hex hlt g34 g32 g92 HE.out HU.out (by rw [show j + 6 = j + 1 + 1 + 4 from by omega, hend]; omega)
                rw [show j + 6 = j + 1 + 1 + 4 from by omega, hend] at hhex
                have HS : Hid (nextM l k = ⟨0, 0, 0, 3, (j : Int) + 1 + (q : Int)⟩) := by
                  have h2 := (str_fin hR HN hr hhex).trans (str_err (e := j + 1 + q))
                  show _ = _
                  rw [h2]; congr 1
                clear hhex
                clear hx hend
                go_wp2_with (first | (go_at_call 19; refine (HAT.out _ (by omega)).mono ?_; rintro e w' ⟨rfl, rfl⟩) | (go_at_call 22; refine (HH.out _ _).mono ?_; rintro e w' ⟨rfl, rfl⟩) | (go_at_call 17; refine (syntax_any _ _).mono ?_; rintro e w1 ⟨rfl, hb1⟩; obtain ⟨hx, hbw⟩ := RxB.call hb1; obtain ⟨c1, c2, c3, c4, c5, f1, f2, f3, f4, f5, hltn⟩ := hx.facts; clear hx hb1))
                exact bodyPost_ret (v := .tuple #[.agg #[.int .i64 0, .int .i64 0, .int .i64 0], .agg #[.int .i64 3, .int .i64 ((j : Int) + 1 + q)]]) (by simp [results, Try.results11, go_sem, c1, c2, c3, c4, c5]) rfl ⟨rret _ _ _ _ _ _ HS.out, ((((hbw.setCell (Nat.le_refl _) _).setCell (Nat.le_refl _) _).setCell (Nat.le_refl _) _).setCell (by simp) _).setCell (by simp) _⟩
            · obtain rfl : q = 5 := by omega
              have hend : runL isHex (l.take (j + 1 + 1 + 4)) (j + 1 + 1) = j + 1 + 1 + 4 := hex_all (fun m hm => hall.out m (by omega))
              have hbd := runL_le isHex (l.take (j + 1 + 1 + 4)) (j + 1 + 1) (by simp; omega)
              have hlen : j + 6 ≤ l.length := by rw [hend] at hbd; have := hbd.2; simp at this; omega
              have HS := Lib.hid ((strM_u hlt g34 g32 g92 HE.out HU.out (by rw [show j + 6 = j + 1 + 1 + 4 from by omega, hend]; omega)).symm.trans hr.out)
              clear hend hbd
              go_wp2
              go_roundg (l.length + 1 - (j + 6))
              case measure => have := hn.out; omega
              case rel => exact ⟨⟨_, rfl⟩, ⟨_, rfl⟩, ⟨j + 6, by go_num, by omega, by omega, rfl, HS.out⟩, rfl⟩
        · have g117 : ((l[j + 1].toNat : Int) == 117) = false := by simpa using h117
          clear h117
          have HU : Hid ((!isAt l (j + 1) [117]) = true) := by
            show _ = _
            rw [isAt_atR l (j + 1) 117 (by decide), atR_lt hlt2]
            simpa using g117
          have HE := Lib.hid (esc_chain hlt2)
          go_upto_region 57 with fail
          go_cut [6, 283] from 196 to 289 (fun s6 s w' => (∃ v, s6 = v) ∧ s = .bool (!isAt l (j + 1) [34, 92, 47, 98, 102, 110, 114, 116]) ∧ w' = ((w.alloc (.cells #[.int .i64 0, .int .i64 0, .int .i64 0] 40)).alloc (.cells #[.int .i64 0, .int .i64 0] 28)))
          case first =>
            go_wp2
            all_goals go_meet
            all_goals (case rel =>
              refine ⟨⟨_, rfl⟩, ?_, rfl⟩
              first | exact congrArg Value.bool (esc_is HE.out (v := 34) (by assumption) (by decide)) | exact congrArg Value.bool (esc_is HE.out (v := 92) (by assumption) (by decide)) | exact congrArg Value.bool (esc_is HE.out (v := 47) (by assumption) (by decide)) | exact congrArg Value.bool (esc_is HE.out (v := 98) (by assumption) (by decide)) | exact congrArg Value.bool (esc_is HE.out (v := 102) (by assumption) (by decide)) | exact congrArg Value.bool (esc_is HE.out (v := 110) (by assumption) (by decide)) | exact congrArg Value.bool (esc_is HE.out (v := 114) (by assumption) (by decide)) | exact congrArg Value.bool HE.out.symm)
          case rest =>
            obtain ⟨⟨v6, h6⟩, rfl, rfl⟩ := hcut
            clear h6 v6
            cases hesc : isAt l (j + 1) [34, 92, 47, 98, 102, 110, 114, 116] with
            | true =>
              have HS := Lib.hid ((strM_esc hlt g34 g32 g92 hesc).symm.trans hr.out)
              go_wp2
              go_roundg (l.length + 1 - (j + 2))
              case measure => have := hn.out; omega
              case rel => exact ⟨⟨_, rfl⟩, ⟨_, rfl⟩, ⟨j + 2, by go_num, by omega, by omega, rfl, HS.out⟩, rfl⟩
            | false =>
              have HS := Lib.hid ((str_fin hR HN hr (strM_nou hlt g34 g32 g92 hesc HU.out)).trans (str_err (e := j + 1)))
              go_wp2_with (go_at_call 17; refine (syntax_any _ _).mono ?_; rintro e w1 ⟨rfl, hb1⟩; obtain ⟨hx, hbw⟩ := RxB.call hb1; obtain ⟨c1, c2, c3, c4, c5, f1, f2, f3, f4, f5, hltn⟩ := hx.facts; clear hx hb1)
              exact bodyPost_ret (v := .tuple #[.agg #[.int .i64 0, .int .i64 0, .int .i64 0], .agg #[.int .i64 3, .int .i64 ((j : Int) + 1)]]) (by simp [results, Try.results11, go_sem, c1, c2, c3, c4, c5]) rfl ⟨rret _ _ _ _ _ _ (HS.out.trans (by simp)), ((((hbw.setCell (Nat.le_refl _) _).setCell (Nat.le_refl _) _).setCell (Nat.le_refl _) _).setCell (by simp) _).setCell (by simp) _⟩
      · have hje : j + 1 = l.length := by omega
        have hesc : isAt l (j + 1) [34, 92, 47, 98, 102, 110, 114, 116] = false := isAt_ge hlt2
        have HU : (!isAt l (j + 1) [117]) = true := by rw [isAt_ge hlt2]; rfl
        have HS := Lib.hid ((str_fin hR HN hr (strM_nou hlt g34 g32 g92 hesc HU)).trans (str_err (e := j + 1)))
        have heq : ((j : Int) + 1 == (l.length : Int)) = true := by simp; omega
        clear hje hesc HU
        go_wp2_with (go_at_call 17; refine (syntax_any _ _).mono ?_; rintro e w1 ⟨rfl, hb1⟩; obtain ⟨hx, hbw⟩ := RxB.call hb1; obtain ⟨c1, c2, c3, c4, c5, f1, f2, f3, f4, f5, hltn⟩ := hx.facts; clear hx hb1)
        exact bodyPost_ret (v := .tuple #[.agg #[.int .i64 0, .int .i64 0, .int .i64 0], .agg #[.int .i64 3, .int .i64 ((j : Int) + 1)]]) (by simp [results, Try.results11, go_sem, c1, c2, c3, c4, c5]) rfl ⟨rret _ _ _ _ _ _ (HS.out.trans (by simp)), ((((hbw.setCell (Nat.le_refl _) _).setCell (Nat.le_refl _) _).setCell (Nat.le_refl _) _).setCell (by simp) _).setCell (by simp) _⟩
    · have HS := Lib.hid ((str_fin hR HN hr (strM_out hlt)).trans str_err)
      go_wp2_with (go_at_call 17; refine (syntax_any _ _).mono ?_; rintro e w1 ⟨rfl, hb1⟩; obtain ⟨hx, hbw⟩ := RxB.call hb1; obtain ⟨c1, c2, c3, c4, c5, f1, f2, f3, f4, f5, hltn⟩ := hx.facts; clear hx hb1)
      exact bodyPost_ret (v := .tuple #[.agg #[.int .i64 0, .int .i64 0, .int .i64 0], .agg #[.int .i64 3, .int .i64 (l.length)]]) (by simp [results, Try.results11, go_sem, c1, c2, c3, c4, c5]) rfl ⟨rret _ _ _ _ _ _ HS.out, ((((hbw.setCell (Nat.le_refl _) _).setCell (Nat.le_refl _) _).setCell (Nat.le_refl _) _).setCell (by simp) _).setCell (by simp) _⟩

end Go.Proofs.Ytjiejpjdbimjkaa
