/- The walk over tquotes.Write; no statement of the seat is proved here. -/
import Derived.Test.YtflfedfghnnaeaaDoorTqM
namespace Go.Proofs.YtflfedfghnnaeaaDoor
open Go.RowKit

def hexc (v : Nat) : UInt8 := if v < 10 then UInt8.ofNat (48 + v) else UInt8.ofNat (55 + v)
/-- The letter of a byte's short escape, from a row of the table on; 0: none. -/
def lettFrom (c : UInt8) (k : Nat) : UInt8 := (((shortT.drop k).find? fun x => x.2 == c.toNat).map fun x => UInt8.ofNat x.1).getD 0
theorem lettFrom_yes {c : UInt8} {k : Nat} (h : k < shortT.length) (e : shortT[k].2 = c.toNat) : lettFrom c k = UInt8.ofNat shortT[k].1 := by
  unfold lettFrom; rw [List.drop_eq_getElem_cons h, List.find?_cons_of_pos (by simp [e])]; rfl
theorem lettFrom_no {c : UInt8} {k : Nat} (h : k < shortT.length) (e : shortT[k].2 ≠ c.toNat) : lettFrom c k = lettFrom c (k + 1) := by
  unfold lettFrom; rw [List.drop_eq_getElem_cons h, List.find?_cons_of_neg (by simp [e])]
theorem lettFrom_end {c : UInt8} : lettFrom c 7 = 0 := by simp [lettFrom, shortT]
def letterB (c : UInt8) : UInt8 := lettFrom c 0
def wrB (c : UInt8) : List UInt8 := if letterB c ≠ 0 then [92, letterB c] else if plainB c.toNat then [c] else [92, 117, 48, 48, hexc (c.toNat / 16), hexc (c.toNat % 16)]
def writeQ (l : List UInt8) : List UInt8 := 34 :: (l.flatMap wrB ++ [34])
theorem wrB_len (c : UInt8) : (wrB c).length ≤ 6 := by unfold wrB; split <;> (try split) <;> simp
theorem wr_take (l : List UInt8) (k : Nat) (h : k < l.length) : (l.take (k + 1)).flatMap wrB = (l.take k).flatMap wrB ++ wrB l[k] := by
  rw [List.take_succ_eq_append_getElem h, List.flatMap_append]; simp
set_option maxRecDepth 100000 in
theorem hex_ix (v : Nat) (h : v < 16) : ∀ W : World, (Instr.index 9 (.string ⟨#[48, 49, 50, 51, 52, 53, 54, 55, 56, 57, 65, 66, 67, 68, 69, 70]⟩) (.int .u8 (v : Int))).run Tryd.prog W = .ok (.int .u8 (((hexc v).toNat : Nat) : Int)) W := by
  have hv : v = 0 ∨ v = 1 ∨ v = 2 ∨ v = 3 ∨ v = 4 ∨ v = 5 ∨ v = 6 ∨ v = 7 ∨ v = 8 ∨ v = 9 ∨ v = 10 ∨ v = 11 ∨ v = 12 ∨ v = 13 ∨ v = 14 ∨ v = 15 := by omega
  rcases hv with rfl | rfl | rfl | rfl | rfl | rfl | rfl | rfl | rfl | rfl | rfl | rfl | rfl | rfl | rfl | rfl
  all_goals exact fun W => by kernel_rfl
theorem and15 : ∀ x : UInt8, bits .and .u8 (x.toNat : Int) 15 = ((x.toNat % 16 : Nat) : Int) := u8_all (by decide +kernel)

/-- The row that is written, and the bytes that are read beside it. -/
def WInv (w w1 wr : World) (g n c : Nat) (l : List UInt8) : Prop :=
  OwnB wr w.heap.size (some ⟨g, 0, none⟩) n c l ∧ g ≠ w.heap.size + 1 ∧ wr.heap[w.heap.size + 1]? = w1.heap[w.heap.size + 1]? ∧ w.heap.size + 1 < wr.heap.size ∧ Below w.heap.size w wr
theorem WInv.step {w w1 wr w2 w3 : World} {g n c m : Nat} {l t : List UInt8} {v' : Value} (h : WInv w w1 wr g n c l) (hb : Below wr.heap.size wr w2) (hm : 0 < m) (hown : w3.ownsRow w.heap.size 5 1 v' (n + m) (byteVals l ++ byteVals t)) (hg : w2.grownBy w3 (some g))
    {q : Nat} (hl : v'.ownBlock = (Value.slice (some ⟨g, 0, none⟩) n c).ownBlock ∨ v'.ownBlock = some q) (hq : q = w2.heap.size) : ∃ g' c', v' = .slice (some ⟨g', 0, none⟩) (n + m) c' ∧ WInv w w1 w3 g' (n + m) c' (l ++ t) := by
  obtain ⟨h1, h2, h3, h4, h5⟩ := h
  obtain ⟨g', cap, hv, hg', hlt⟩ := hown.form (by omega)
  subst hv
  have hs2 := hb.size
  have hs3 := hg.size
  refine ⟨g', cap, rfl, by rw [← byteVals_app] at hown; exact hown, ?_, ?_, by omega, (h5.trans (hb.mono h5.size)).grown hg (by have := h5.size; omega) (fun q hq => ?_)⟩
  · rcases hl with hl | hl <;> simp [Value.ownBlock] at hl <;> omega
  · rw [hg.block _ (by omega) (fun e => h2 (by injection e with e; exact e.symm)), hb.block _ h4, h3]
  · cases hq; exact h1.ge g rfl
theorem WInv.src {w w1 wr : World} {g n c : Nat} {l : List UInt8} {s : List UInt8} (h : WInv w w1 wr g n c l) {B : Nat} (hS : BS w1 B (some ⟨w.heap.size + 1, 0, none⟩) s) (k : Nat) (hk : k < s.length) : wr.cell? ⟨w.heap.size + 1, k, none⟩ = some (.int .u8 ((s[k].toNat : Nat) : Int)) := by
  obtain ⟨a, e, _, hc⟩ := hS k hk
  cases e
  rw [add_plain, Nat.zero_add] at hc
  rw [← hc]
  exact World.cell?_of_block (a := ⟨w.heap.size + 1, k, none⟩) h.2.2.1

theorem WInv.keep {w w1 wr w2 : World} {g n c : Nat} {l : List UInt8} (h : WInv w w1 wr g n c l) (hb : Below wr.heap.size wr w2) : WInv w w1 w2 g n c l := by
  obtain ⟨h1, h2, h3, h4, h5⟩ := h
  have := hb.size
  exact ⟨h1.keep hb (Nat.le_refl _), h2, by rw [hb.block _ h4, h3], by omega, h5.trans (hb.mono h5.size)⟩

set_option maxRecDepth 100000 in
set_option maxHeartbeats 4000000 in
theorem qwrite_any (s : ByteArray) (hs : s.size ≤ 16777216) (w : World) (hG : Glob w) :
    Calls Tryd.prog 13 #[.string s] w fun e w' => e = .returned (.string ⟨(writeQ s.data.toList).toArray⟩) ∧ Below w.heap.size w w' := by
  have HG := Lib.hid hG; clear hG
  obtain ⟨i0, hi, hz0, hz1, hz2⟩ := info_parts byte_info
  obtain ⟨cap, w1, hrun, hb1, hs1, hS⟩ := conv_sb (P := Tryd.prog) (w.alloc (.cells #[.int .u8 34] 5)) 9 40 5 s Tryd.underlying9 Tryd.underlying40 Tryd.underlying5
  have hI : WInv w w1 w1 w.heap.size 1 1 [34] := by
    have ho : OwnB (w.alloc (.cells #[.int .u8 34] 5)) w.heap.size (some ⟨w.heap.size, 0, none⟩) 1 1 [34] :=
      ⟨rfl, .inr ⟨w.heap.size, 1, #[.int .u8 34], rfl, Nat.le_refl _, heap_new1 w _, Nat.le_refl _, by simp only [maxLen]; omega, rfl, rfl⟩⟩
    refine ⟨ho.keep hb1 (Nat.le_refl _), by omega, rfl, by simpa using hs1, (below_new1 w _).trans (hb1.mono (by simp))⟩
  rw [size_new1] at hS
  have hsl : s.data.toList.length = s.size := by simp
  have HSL := Lib.hid hsl; clear hsl
  have HS := Lib.hid hS; clear hS
  have HI := Lib.hid hI; clear hI
  have HB1 := Lib.hid hb1; clear hb1
  go_enter Tryd.func13, Tryd.ntmps13
  go_wp2
  go_step3
  go_wp2
  go_step3
  go_wp2
  go_loopg [3, 12] s.size (fun b s3 s12 wr => ∃ k g n c : Nat, s12 = .int .i64 k ∧ s3 = .slice (some ⟨g, 0, none⟩) n c ∧ k ≤ s.size ∧ n ≤ 6 * k + 1 ∧ Hid (b = s.size - k) ∧ Hid (WInv w w1 wr g n c (34 :: (s.data.toList.take k).flatMap wrB)))
  case atStart => exact ⟨0, w.heap.size, 1, 1, rfl, rfl, by omega, by omega, rfl, HI.out⟩
  case round =>
    obtain ⟨k, g, n, c, rfl, rfl, hk, hn, hb, hinv⟩ := hrel
    by_cases hlt : k < s.size
    · have hk' : k < s.data.toList.length := by rw [HSL.out]; exact hlt
      have hca := hinv.out.src HS.out k hk'
      obtain ⟨x, hx⟩ : ∃ x, Hid (s.data.toList[k] = x) := ⟨s.data.toList[k], rfl⟩
      rw [hx.out] at hca
      have hnext : Hid ((34 :: (s.data.toList.take k).flatMap wrB) ++ wrB x = 34 :: (s.data.toList.take (k + 1)).flatMap wrB) := by
        show _ = _
        rw [wr_take _ _ hk', hx.out]; rfl
      have hGr := HG.out.keep hinv.out.2.2.2.2 (Nat.le_refl _)
      have hlen : n = (34 :: (s.data.toList.take k).flatMap wrB).length := hinv.out.1.len
      have HLEN := Lib.hid hlen; clear hlen
      obtain ⟨q0, q1, q2, q3, q4, q5, q6, q7, q8, q9, q10, q11, q12, q13⟩ := hGr.cells
      clear hGr
      go_wp2_with fail
      clear q0 q1 q2 q3 q4 q5 q6 q7 q8 q9 q10 q11 q12 q13 hca
      have hbase0 := hinv.out.2.2.2.2.size
      go_loopg [3, 17] 8 (fun b2 s3 s17 wi => ∃ j : Nat, s17 = .int .i64 j ∧ s3 = .slice (some ⟨g, 0, none⟩) n c ∧ j ≤ 7 ∧ Hid (b2 = 8 - j) ∧ Hid (lettFrom x j = letterB x) ∧ Hid (WInv w w1 wi g n c (34 :: (s.data.toList.take k).flatMap wrB)))
      case atStart => exact ⟨0, rfl, rfl, by omega, rfl, rfl, hinv⟩
      case round =>
        clear hinv hbase0
        obtain ⟨j, rfl, rfl, hj, hg2, hr2, hinv⟩ := hrel
        have hbase := hinv.out.2.2.2.2.size
        by_cases hlj : j < 7
        · obtain ⟨lx, ly, hxy, hix⟩ := sh_all j hlj
          by_cases heq : ly.toNat = x.toNat
          · have hbq : ((ly.toNat : Int) == (x.toNat : Int)) = true := by simp; omega
            have hw : Hid (wrB x = [92, lx]) := by
              obtain ⟨h8, e8⟩ := hxy.out
              have h1 := lettFrom_yes (c := x) h8 (by rw [e8]; exact heq)
              rw [hr2.out, e8] at h1
              show _ = _
              have hlx : letterB x = lx := by rw [h1]; simp
              have h0 : lx ≠ 0 := by
                obtain ⟨h8, e8⟩ := hxy.out
                intro e
                have h7 : ∀ t (h : t < shortT.length), shortT[t].1 ≠ 0 := by decide
                exact h7 j h8 (by rw [e8, e]; rfl)
              rw [wrB, if_pos (by rw [hlx]; exact h0), hlx]
            clear heq
            go_wp2_with (at_builtin; refine wpList_append_own_at _ rfl (.tmp 24) (.tmp 27) 40 rfl w.heap.size 5 i0 (.int .u8 0) 1 1 Tryd.underlying40 hi hz0 hz1 hz2 rfl (by decide) _ n (byteVals (34 :: (s.data.toList.take k).flatMap wrB)) rfl ?h1 ⟨wr.heap.size + 1, 0, none⟩ 2 2 (byteVals [92, lx]) rfl rfl ?h2 ?h3 ?h4 ?h5 ?h6 ?_)
            case h1 => exact (hinv.out.1.keep (below_new1 wr _) (Nat.le_refl _)).keep (below_new1 _ _) (Nat.le_refl _)
            case h2 => have h := news_at (heap_new1 (wr.alloc (.cells #[.int .u8 ((lx.toNat : Nat) : Int), .int .u8 ((ly.toNat : Nat) : Int)] 82)) (.cells #[.int .u8 92, .int .u8 ((lx.toNat : Nat) : Int)] 5)); rw [size_new1] at h; exact h
            case h3 => intro u hu; simp [byteVals] at hu; rcases hu with rfl | rfl <;> rfl
            case h4 => simp only [maxLen]; omega
            case h5 => omega
            case h6 => simp; omega
            intro v' w3 hown' hg' _ hloc
            obtain ⟨g', c', rfl, hI'⟩ := hinv.out.step ((below_new1 wr _).trans ((below_new1 _ _).mono (by simp))) (by omega) hown' hg' hloc (by simp)
            rw [← hw.out, hnext.out] at hI'
            have HI' := Lib.hid hI'; clear hI' hown' hg' hloc
            go_wp2
            go_roundg (s.size - (k + 1))
            case measure => have := hb.out; omega
            case rel => exact ⟨k + 1, g', n + 2, c', by go_num, rfl, by omega, by omega, rfl, HI'.out⟩
          · have hbq : ((ly.toNat : Int) == (x.toNat : Int)) = false := by simp; omega
            have hr' : Hid (lettFrom x (j + 1) = letterB x) := by
              obtain ⟨h8, e8⟩ := hxy.out
              show _ = _
              rw [← hr2.out, ← lettFrom_no h8 (by rw [e8]; exact heq)]
            clear heq
            go_wp2_with fail
            go_roundg (8 - (j + 1))
            case measure => have := hg2.out; omega
            case rel => exact ⟨j + 1, by go_num, rfl, by omega, rfl, hr', hinv.out.keep (below_new1 wr _)⟩
        · have hl0 : Hid (letterB x = 0) := by
            show _ = _
            rw [← hr2.out, show j = 7 by omega, lettFrom_end]
          by_cases hpl : plainB x.toNat = true
          · have HP := Lib.hid hpl
            have hw : Hid (wrB x = [x]) := by show _ = _; rw [wrB, if_neg (by simpa using hl0.out), if_pos hpl]
            clear hpl
            go_wp2_with (first
              | (go_at_call 34; (with_reducible refine (plain_is _ true HP.out x.toNat_lt _).mono ?_); rintro e w2 ⟨rfl, rfl⟩)
              | (at_builtin; refine wpList_append_own_at _ rfl (.tmp 32) (.tmp 34) 40 rfl w.heap.size 5 i0 (.int .u8 0) 1 1 Tryd.underlying40 hi hz0 hz1 hz2 rfl (by decide) _ n (byteVals (34 :: (s.data.toList.take k).flatMap wrB)) rfl ?h1 ⟨wr.heap.size, 0, none⟩ 1 1 (byteVals [x]) rfl rfl ?h2 ?h3 ?h4 ?h5 ?h6 ?_))
            case h1 => exact hinv.out.1.keep (below_new1 wr _) (Nat.le_refl _)
            case h2 => exact news_at (heap_new1 wr _)
            case h3 => intro u hu; simp [byteVals] at hu; rcases hu with rfl; rfl
            case h4 => simp only [maxLen]; omega
            case h5 => omega
            case h6 => simp; omega
            intro v' w3 hown' hg' _ hloc
            obtain ⟨g', c', rfl, hI'⟩ := hinv.out.step (below_new1 wr _) (by omega) hown' hg' hloc (by simp)
            rw [← hw.out, hnext.out] at hI'
            have HI' := Lib.hid hI'; clear hI' hown' hg' hloc
            go_wp2
            go_roundg (s.size - (k + 1))
            case measure => have := hb.out; omega
            case rel => exact ⟨k + 1, g', n + 1, c', by go_num, rfl, by omega, by omega, rfl, HI'.out⟩
          · have HP : Hid (plainB x.toNat = false) := by show _ = _; simpa using hpl
            have hw : Hid (wrB x = [92, 117, 48, 48, hexc (x.toNat / 16), hexc (x.toNat % 16)]) := by show _ = _; rw [wrB, if_neg (by simpa using hl0.out), if_neg hpl]
            clear hpl
            go_wp2_with (go_at_call 34; (with_reducible refine (plain_is _ false HP.out x.toNat_lt _).mono ?_); rintro e w2 ⟨rfl, rfl⟩)
            have hix1 := fun W => hex_ix (x.toNat / 16) (by have := x.toNat_lt; omega) W
            have hix2 := fun W => hex_ix (x.toNat % 16) (by omega) W
            rw [← and15] at hix2
            rw [Int.natCast_ediv] at hix1
            simp only [Int.cast_ofNat_Int] at hix1
            have HL6 : Hid (∀ u ∈ byteVals [92, 117, 48, 48, hexc (x.toNat / 16), hexc (x.toNat % 16)], u.oneCell' = true) := by
              intro u hu; simp [byteVals] at hu; rcases hu with rfl | rfl | rfl | rfl | rfl | rfl <;> rfl
            go_region_law (refine step_append_lies _ rfl (.tmp 36) (.tmp 43) 40 rfl w.heap.size 5 i0 (.int .u8 0) 1 1 Tryd.underlying40 hi hz0 hz1 hz2 rfl (by decide) _ n (byteVals (34 :: (s.data.toList.take k).flatMap wrB)) (by simp [Act.eval]) (hinv.out.1.keep (below_new1 wr _).drew (Nat.le_refl _)) ⟨wr.heap.size, 0, none⟩ 6 6 (byteVals [92, 117, 48, 48, hexc (x.toNat / 16), hexc (x.toNat % 16)]) (by simp [Act.eval]) rfl (news_at (heap_new1 wr _)) HL6.out (by omega) (by simp only [maxLen]; omega) (by omega) (by simp; omega) (wr.heap.size + 1) (by simp) ?_; intro g' c' w3 hown' hg' hloc hlt3; have HOWN := Lib.hid hown'; have HGR := Lib.hid hg'; have HLOC := Lib.hid hloc; clear hown' hg' hloc)
            all_goals (
              clear hix1 hix2
              obtain ⟨g2, c2, e2, hI'⟩ := hinv.out.step (t := [92, 117, 48, 48, hexc (x.toNat / 16), hexc (x.toNat % 16)]) (q := wr.heap.size + 1) (below_new1 wr _).drew (by omega) HOWN.out HGR.out (HLOC.out.elim (fun h => .inl h.symm) (fun h => .inr (by rw [h]; rfl))) (by simp)
              cases e2
              rw [← hw.out, hnext.out] at hI'
              have HI' := Lib.hid hI'; clear hI' HOWN HGR HLOC
              go_wp2
              go_roundg (s.size - (k + 1))
              case measure => have := hb.out; omega
              case rel => exact ⟨k + 1, g', n + 6, c', by go_num, rfl, by omega, by omega, rfl, HI'.out⟩)
    · obtain rfl : k = s.size := by omega
      have hbase := hinv.out.2.2.2.2.size
      have htk : Hid ((34 :: (s.data.toList.take s.size).flatMap wrB) ++ [34] = writeQ s.data.toList) := by
        show _ = _
        rw [← HSL.out, List.take_length]; rfl
      go_wp2_with (at_builtin; refine wpList_append_own_at _ rfl (.tmp 46) (.tmp 47) 40 rfl w.heap.size 5 i0 (.int .u8 0) 1 1 Tryd.underlying40 hi hz0 hz1 hz2 rfl (by decide) _ n (byteVals (34 :: (s.data.toList.take s.size).flatMap wrB)) rfl ?h1 ⟨wr.heap.size, 0, none⟩ 1 1 (byteVals [34]) rfl rfl ?h2 ?h3 ?h4 ?h5 ?h6 ?_)
      case h1 => exact hinv.out.1.keep (below_new1 wr _) (Nat.le_refl _)
      case h2 => exact news_at (heap_new1 wr _)
      case h3 => intro u hu; simp [byteVals] at hu; rcases hu with rfl; rfl
      case h4 => simp only [maxLen]; omega
      case h5 => omega
      case h6 => simp; omega
      intro v' w3 hown' hg' _ hloc
      obtain ⟨g', c', rfl, hI'⟩ := hinv.out.step (below_new1 wr _) (by omega) hown' hg' hloc (by simp)
      rw [htk.out] at hI'
      have hlw := hI'.1.len
      have hcv := conv_bs (P := Tryd.prog) w3 40 9 5 Tryd.underlying40 Tryd.underlying5 Tryd.underlying9 hI'.1.bs c'
      rw [← hlw] at hcv
      have HL := Lib.hid hlw
      have HI' := Lib.hid hI'; clear hI' hown' hg' hloc hlw
      go_wp2
      try rw [Exit.noGoto_ret]
      go_ret
      exact ⟨rfl, HI'.out.2.2.2.2⟩

end Go.Proofs.YtflfedfghnnaeaaDoor
