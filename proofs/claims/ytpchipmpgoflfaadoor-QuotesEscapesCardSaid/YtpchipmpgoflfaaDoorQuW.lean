/- Walks over package quotes: letter, Write; no statement of the seat is proved here. -/
import Derived.Test.YtpchipmpgoflfaaDoorQuD
import Derived.Deep.RegionLaw
import Derived.Laws.ShiftsVarLaws
namespace Go.Proofs.YtpchipmpgoflfaaDoor
open Go.RowKit

/-- The letter of a byte's short escape, from a row of the table on; 0: none that must be. -/
def lettFrom (c : UInt8) (k : Nat) : UInt8 := (((shortT.drop k).find? fun x => x.2 == c.toNat && c.toNat != 47).map fun x => UInt8.ofNat x.1).getD 0
theorem lettFrom_yes {c : UInt8} {k : Nat} (h : k < shortT.length) (e : shortT[k].2 = c.toNat) (h47 : c.toNat ≠ 47) : lettFrom c k = UInt8.ofNat shortT[k].1 := by
  unfold lettFrom; rw [List.drop_eq_getElem_cons h, List.find?_cons_of_pos (by simp [e, h47])]; rfl
theorem lettFrom_no {c : UInt8} {k : Nat} (h : k < shortT.length) (e : shortT[k].2 ≠ c.toNat ∨ c.toNat = 47) : lettFrom c k = lettFrom c (k + 1) := by
  unfold lettFrom; rw [List.drop_eq_getElem_cons h, List.find?_cons_of_neg (by rcases e with e | e <;> simp [e])]
theorem lettFrom_end {c : UInt8} : lettFrom c 8 = 0 := by simp [lettFrom, shortT]
def letterB (c : UInt8) : UInt8 := lettFrom c 0

theorem ret_u8 {a b : UInt8} (h : a = b) : Ending.returned (.int .u8 (a.toNat : Int)) = .returned (.int .u8 (b.toNat : Int)) := by rw [h]

set_option maxRecDepth 100000 in
set_option maxHeartbeats 1000000 in
theorem letter_any (c : UInt8) (w : World) (hG : Glob w) :
    Calls Tryd.prog 26 #[.int .u8 ((c.toNat : Nat) : Int)] w fun e w' => e = .returned (.int .u8 (((letterB c).toNat : Nat) : Int)) ∧ Below w.heap.size w w' := by
  obtain ⟨c0, c1, c2, c3, c4, c5, c6, c7, c8, c9, c10, c11, c12, c13, c14, c15⟩ := hG.cells
  clear hG
  go_enter Tryd.func26, Tryd.ntmps26
  go_wp2
  go_loopg [4, 6] 8 (fun g s4 s6 wr => ∃ k : Nat, s6 = .int .i64 k ∧ k ≤ 8 ∧ Hid (g = 8 - k) ∧ Hid (lettFrom c k = letterB c) ∧ Below w.heap.size w wr)
  case atStart => exact ⟨0, rfl, by omega, rfl, rfl, Below.refl _ _⟩
  case round =>
    clear c0 c1 c2 c3 c4 c5 c6 c7 c8 c9 c10 c11 c12 c13 c14 c15
    obtain ⟨k, rfl, hk, hg, hr, hbw⟩ := hrel
    have hsz := hbw.size
    by_cases hlt : k < 8
    · obtain ⟨x, y, hxy, hix⟩ := sh_all k hlt
      by_cases heq : y.toNat = c.toNat
      · have b1 : ((y.toNat : Int) == (c.toNat : Int)) = true := by simp; omega
        by_cases h47 : c.toNat = 47
        · have b2 : ((c.toNat : Int) != 47) = false := by simp; omega
          have hr' : Hid (lettFrom c (k + 1) = letterB c) := by
            obtain ⟨h8, e8⟩ := hxy.out
            show _ = _
            rw [← hr.out, ← lettFrom_no h8 (.inr h47)]
          clear heq h47
          go_wp2
          go_roundg (8 - (k + 1))
          case measure => have := hg.out; omega
          case rel => exact ⟨k + 1, by go_num, by omega, rfl, hr', hbw.alloc hsz _⟩
        · have b2 : ((c.toNat : Int) != 47) = true := by simp; omega
          have hr' : Hid (x = letterB c) := by
            obtain ⟨h8, e8⟩ := hxy.out
            show _ = _
            rw [← hr.out, lettFrom_yes h8 (by rw [e8]; exact heq) h47, e8]; simp
          clear heq h47
          go_wp2
          go_ret
          exact ⟨ret_u8 hr'.out, hbw.alloc hsz _⟩
      · have b1 : ((y.toNat : Int) == (c.toNat : Int)) = false := by simp; omega
        have hr' : Hid (lettFrom c (k + 1) = letterB c) := by
          obtain ⟨h8, e8⟩ := hxy.out
          show _ = _
          rw [← hr.out, ← lettFrom_no h8 (.inl (by rw [e8]; exact heq))]
        clear heq
        go_wp2
        go_roundg (8 - (k + 1))
        case measure => have := hg.out; omega
        case rel => exact ⟨k + 1, by go_num, by omega, rfl, hr', hbw.alloc hsz _⟩
    · go_wp2
      go_ret
      obtain rfl : k = 8 := by omega
      exact ⟨ret_u8 (a := 0) (by rw [← hr.out, lettFrom_end]), hbw⟩

/-- A digit of base 16 as it is written. -/
def hexc (n : Nat) : UInt8 := if n < 10 then UInt8.ofNat (48 + n) else UInt8.ofNat (87 + n)
/-- A byte of a text as it stands in a string. -/
def wrB (c : UInt8) : List UInt8 := if letterB c ≠ 0 then [92, letterB c] else if c.toNat < 32 then [92, 117, 48, 48, hexc (c.toNat / 16), hexc (c.toNat % 16)] else [c]
def writeQ (l : List UInt8) : List UInt8 := 34 :: (l.flatMap wrB ++ [34])
theorem wrB_len (c : UInt8) : (wrB c).length ≤ 6 := by unfold wrB; split <;> (try split) <;> simp
theorem wr_take (l : List UInt8) (k : Nat) (h : k < l.length) : (l.take (k + 1)).flatMap wrB = (l.take k).flatMap wrB ++ wrB l[k] := by
  rw [List.take_succ_eq_append_getElem h, List.flatMap_append]; simp
theorem wr_len (l : List UInt8) : (l.flatMap wrB).length ≤ 6 * l.length := by
  induction l with
  | nil => simp
  | cons c l ih => have := wrB_len c; simp at ih ⊢; omega

theorem hex_ix (v : Nat) (h : v < 16) : ∀ W : World, (Instr.index 9 (.string ⟨#[48, 49, 50, 51, 52, 53, 54, 55, 56, 57, 97, 98, 99, 100, 101, 102]⟩) (.int .u8 (v : Int))).run Tryd.prog W = .ok (.int .u8 (((hexc v).toNat : Nat) : Int)) W := by
  have hv : v = 0 ∨ v = 1 ∨ v = 2 ∨ v = 3 ∨ v = 4 ∨ v = 5 ∨ v = 6 ∨ v = 7 ∨ v = 8 ∨ v = 9 ∨ v = 10 ∨ v = 11 ∨ v = 12 ∨ v = 13 ∨ v = 14 ∨ v = 15 := by omega
  rcases hv with rfl | rfl | rfl | rfl | rfl | rfl | rfl | rfl | rfl | rfl | rfl | rfl | rfl | rfl | rfl | rfl
  all_goals exact fun W => by kernel_rfl
theorem and15 : ∀ x : UInt8, bits .and .u8 (x.toNat : Int) 15 = ((x.toNat % 16 : Nat) : Int) := u8_all (by decide +kernel)

/-- The row that is written, and the bytes that are read beside it. -/
def WInv (w w1 wr : World) (g n c : Nat) (l : List UInt8) : Prop :=
  OwnB wr w.heap.size (some ⟨g, 0, none⟩) n c l ∧ g ≠ w.heap.size + 1 ∧ wr.heap[w.heap.size + 1]? = w1.heap[w.heap.size + 1]? ∧ w.heap.size + 1 < wr.heap.size ∧ Below w.heap.size w wr
theorem WInv.step {w w1 wr w2 w3 : World} {g n c m : Nat} {l t : List UInt8} {v' : Value} (h : WInv w w1 wr g n c l) (hb : Below wr.heap.size wr w2) (hm : 0 < m) (hown : w3.ownsRow w.heap.size 5 1 v' (n + m) (byteVals l ++ byteVals t)) (hg : w2.grownBy w3 (some g))
    {q : Nat} (hl : v'.ownBlock = (Value.slice (some ⟨g, 0, none⟩) n c).ownBlock ∨ v'.ownBlock = some q) (hq : q = w2.heap.size) : ∃ g' c', v' = .slice (some ⟨g', 0, none⟩) (n + m) c' ∧ WInv w w1 w3 g' (n + m) c' (l ++ t) := by
  obtain ⟨h1, h2, h3, h4, h5⟩ := h
  obtain ⟨g', cap, hv, hg', hlt⟩ := hown.form (by omega)
  subst hv
  have hs2 := hb.size
  have hs3 := hg.size
  refine ⟨g', cap, rfl, by rw [← byteVals_app] at hown; exact hown, ?_, ?_, by omega, (h5.trans (hb.mono h5.size)).grown hg (by have := h5.size; omega) (fun q hq => ?_)⟩
  · rcases hl with hl | hl <;> simp [Value.ownBlock] at hl <;> omega
  · rw [hg.block _ (by omega) (fun e => h2 (by injection e with e; exact e.symm)), hb.block _ h4, h3]
  · cases hq; exact h1.ge g rfl
theorem WInv.src {w w1 wr : World} {g n c : Nat} {l : List UInt8} {s : List UInt8} (h : WInv w w1 wr g n c l) {B : Nat} (hS : BS w1 B (some ⟨w.heap.size + 1, 0, none⟩) s) (k : Nat) (hk : k < s.length) : wr.cell? ⟨w.heap.size + 1, k, none⟩ = some (.int .u8 ((s[k].toNat : Nat) : Int)) := by
  obtain ⟨a, e, _, hc⟩ := hS k hk
  cases e
  rw [add_plain, Nat.zero_add] at hc
  rw [← hc]
  exact World.cell?_of_block (a := ⟨w.heap.size + 1, k, none⟩) h.2.2.1

set_option maxRecDepth 100000 in
set_option maxHeartbeats 1000000 in
theorem qwrite_any (s : ByteArray) (hs : s.size ≤ 16777216) (w : World) (hG : Glob w) :
    Calls Tryd.prog 11 #[.string s] w fun e w' => e = .returned (.string ⟨(writeQ s.data.toList).toArray⟩) ∧ Below w.heap.size w w' := by
  have HG := Lib.hid hG; clear hG
  obtain ⟨i0, hi, hz0, hz1, hz2⟩ := info_parts put_byte
  obtain ⟨cap, w1, hrun, hb1, hs1, hS⟩ := conv_sb (P := Tryd.prog) (w.alloc (.cells #[.int .u8 34] 5)) 9 34 5 s Tryd.underlying9 Tryd.underlying34 Tryd.underlying5
  have hI : WInv w w1 w1 w.heap.size 1 1 [34] := by
    have ho : OwnB (w.alloc (.cells #[.int .u8 34] 5)) w.heap.size (some ⟨w.heap.size, 0, none⟩) 1 1 [34] :=
      ⟨rfl, .inr ⟨w.heap.size, 1, #[.int .u8 34], rfl, Nat.le_refl _, heap_new1 w _, Nat.le_refl _, by simp only [maxLen]; omega, rfl, rfl⟩⟩
    refine ⟨ho.keep hb1 (Nat.le_refl _), by omega, rfl, by simpa using hs1, (below_new1 w _).trans (hb1.mono (by simp))⟩
  rw [size_new1] at hS
  have hsl : s.data.toList.length = s.size := by simp
  have HSL := Lib.hid hsl; clear hsl
  have HS := Lib.hid hS; clear hS
  have HI := Lib.hid hI; clear hI
  have HB1 := Lib.hid hb1; clear hb1
  go_enter Tryd.func11, Tryd.ntmps11
  go_wp2
  go_loopg [3, 5, 6, 11] s.size (fun b s3 s5 s6 s11 wr => ∃ k g n c : Nat, s11 = .int .i64 k ∧ s3 = .slice (some ⟨g, 0, none⟩) n c ∧ k ≤ s.size ∧ n ≤ 6 * k + 1 ∧ Hid (b = s.size - k) ∧ Hid (WInv w w1 wr g n c (34 :: (s.data.toList.take k).flatMap wrB)))
  case atStart => exact ⟨0, w.heap.size, 1, 1, rfl, rfl, by omega, by omega, rfl, HI.out⟩
  case round =>
    obtain ⟨k, g, n, c, rfl, rfl, hk, hn, hb, hinv⟩ := hrel
    by_cases hlt : k < s.size
    · have hk' : k < s.data.toList.length := by rw [HSL.out]; exact hlt
      have hca := hinv.out.src HS.out k hk'
      obtain ⟨x, hx⟩ : ∃ x, Hid (s.data.toList[k] = x) := ⟨s.data.toList[k], rfl⟩
      rw [hx.out] at hca
      have hnext : Hid ((34 :: (s.data.toList.take k).flatMap wrB) ++ wrB x = 34 :: (s.data.toList.take (k + 1)).flatMap wrB) := by
        show _ = _
        rw [wr_take _ _ hk', hx.out]; rfl
      have hGr := Lib.hid (HG.out.keep hinv.out.2.2.2.2 (Nat.le_refl _))
      have hlen : n = (34 :: (s.data.toList.take k).flatMap wrB).length := hinv.out.1.len
      have HLEN := Lib.hid hlen; clear hlen
      by_cases hlt0 : letterB x = 0
      · have b1 : (((letterB x).toNat : Int) != 0) = false := by rw [hlt0]; rfl
        have hbase := hinv.out.2.2.2.2.size
        by_cases hctl : x.toNat < 32
        · have hw : Hid (wrB x = [92, 117, 48, 48, hexc (x.toNat / 16), hexc (x.toNat % 16)]) := by show _ = _; rw [wrB, if_neg (by simpa using hlt0), if_pos hctl]
          clear hlt0
          go_wp2_with (go_at_call 26; (with_reducible refine (letter_any x _ hGr.out).mono ?_); rintro e w2 ⟨rfl, hb2⟩; have hs2 := hb2.size)
          have hix1 := fun W => hex_ix (x.toNat / 16) (by have := x.toNat_lt; omega) W
          have hix2 := fun W => hex_ix (x.toNat % 16) (by omega) W
          rw [← and15] at hix2
          rw [Int.natCast_ediv] at hix1
          simp only [Int.cast_ofNat_Int] at hix1
          have HL6 : Hid (∀ u ∈ byteVals [92, 117, 48, 48, hexc (x.toNat / 16), hexc (x.toNat % 16)], u.oneCell' = true) := by
            intro u hu; simp [byteVals] at hu; rcases hu with rfl | rfl | rfl | rfl | rfl | rfl <;> rfl
          go_region_law (refine step_append_lies _ rfl (.tmp 31) (.tmp 38) 34 rfl w.heap.size 5 i0 (.int .u8 0) 1 1 Tryd.underlying34 hi hz0 hz1 hz2 rfl (by decide) _ n (byteVals (34 :: (s.data.toList.take k).flatMap wrB)) (by simp [Act.eval]) ((hinv.out.1.keep hb2 (Nat.le_refl _)).keep (below_new1 w2 _).drew (Nat.le_refl _)) ⟨w2.heap.size, 0, none⟩ 6 6 (byteVals [92, 117, 48, 48, hexc (x.toNat / 16), hexc (x.toNat % 16)]) (by simp [Act.eval]) rfl (news_at (heap_new1 w2 _)) HL6.out (by omega) (by simp only [maxLen]; omega) (by omega) (by simp; omega) (w2.heap.size + 1) (by simp) ?_; intro g' c' w3 hown' hg' hloc hlt3; have HOWN := Lib.hid hown'; have HGR := Lib.hid hg'; have HLOC := Lib.hid hloc; clear hown' hg' hloc)
          all_goals (
            clear hix1 hix2
            obtain ⟨g2, c2, e2, hI'⟩ := hinv.out.step (t := [92, 117, 48, 48, hexc (x.toNat / 16), hexc (x.toNat % 16)]) (q := w2.heap.size + 1) (hb2.trans ((below_new1 w2 _).drew.mono hb2.size)) (by omega) HOWN.out HGR.out (HLOC.out.elim (fun h => .inl h.symm) (fun h => .inr (by rw [h]; rfl))) (by simp)
            cases e2
            rw [← hw.out, hnext.out] at hI'
            have HI' := Lib.hid hI'; clear hI' HOWN HGR HLOC
            go_wp2
            go_roundg (s.size - (k + 1))
            case measure => have := hb.out; omega
            case rel => exact ⟨k + 1, g', n + 6, c', by go_num, rfl, by omega, by omega, rfl, HI'.out⟩)
        · have hw : Hid (wrB x = [x]) := by show _ = _; rw [wrB, if_neg (by simpa using hlt0), if_neg hctl]
          clear hlt0
          go_wp2_with (first
            | (go_at_call 26; (with_reducible refine (letter_any x _ hGr.out).mono ?_); rintro e w2 ⟨rfl, hb2⟩; have hs2 := hb2.size)
            | (at_builtin; refine wpList_append_own_at _ rfl (.tmp 17) (.tmp 19) 34 rfl w.heap.size 5 i0 (.int .u8 0) 1 1 Tryd.underlying34 hi hz0 hz1 hz2 rfl (by decide) _ n (byteVals (34 :: (s.data.toList.take k).flatMap wrB)) rfl ?h1 ⟨w2.heap.size, 0, none⟩ 1 1 (byteVals [x]) rfl rfl ?h2 ?h3 ?h4 ?h5 ?h6 ?_))
          case h1 => exact (hinv.out.1.keep hb2 (Nat.le_refl _)).keep (below_new1 w2 _) (Nat.le_refl _)
          case h2 => exact news_at (heap_new1 w2 _)
          case h3 => intro u hu; simp [byteVals] at hu; rcases hu with rfl; rfl
          case h4 => simp only [maxLen]; omega
          case h5 => omega
          case h6 => simp; omega
          intro v' w3 hown' hg' _ hloc
          obtain ⟨g', c', rfl, hI'⟩ := hinv.out.step (hb2.trans ((below_new1 w2 _).mono hb2.size)) (by omega) hown' hg' hloc (by simp)
          rw [← hw.out, hnext.out] at hI'
          have HI' := Lib.hid hI'; clear hI' hown' hg' hloc
          go_wp2
          go_roundg (s.size - (k + 1))
          case measure => have := hb.out; omega
          case rel => exact ⟨k + 1, g', n + 1, c', by go_num, rfl, by omega, by omega, rfl, HI'.out⟩
      · have b1 : (((letterB x).toNat : Int) != 0) = true := by
          have : (letterB x).toNat ≠ 0 := fun e => hlt0 (by rw [← UInt8.toNat_inj]; simpa using e)
          simp; omega
        have hw : Hid (wrB x = [92, letterB x]) := by show _ = _; rw [wrB, if_pos hlt0]
        have hbase := hinv.out.2.2.2.2.size
        clear hlt0
        go_wp2_with (first
          | (go_at_call 26; (with_reducible refine (letter_any x _ hGr.out).mono ?_); rintro e w2 ⟨rfl, hb2⟩; have hs2 := hb2.size)
          | (at_builtin; refine wpList_append_own_at _ rfl (.tmp 24) (.tmp 26) 34 rfl w.heap.size 5 i0 (.int .u8 0) 1 1 Tryd.underlying34 hi hz0 hz1 hz2 rfl (by decide) _ n (byteVals (34 :: (s.data.toList.take k).flatMap wrB)) rfl ?h1 ⟨w2.heap.size, 0, none⟩ 2 2 (byteVals [92, letterB x]) rfl rfl ?h2 ?h3 ?h4 ?h5 ?h6 ?_))
        case h1 => exact (hinv.out.1.keep hb2 (Nat.le_refl _)).keep (below_new1 w2 _) (Nat.le_refl _)
        case h2 => exact news_at (heap_new1 w2 _)
        case h3 => intro u hu; simp [byteVals] at hu; rcases hu with rfl | rfl <;> rfl
        case h4 => simp only [maxLen]; omega
        case h5 => omega
        case h6 => simp; omega
        intro v' w3 hown' hg' _ hloc
        obtain ⟨g', c', rfl, hI'⟩ := hinv.out.step (hb2.trans ((below_new1 w2 _).mono hb2.size)) (by omega) hown' hg' hloc (by simp)
        rw [← hw.out, hnext.out] at hI'
        have HI' := Lib.hid hI'; clear hI' hown' hg' hloc
        go_wp2
        go_roundg (s.size - (k + 1))
        case measure => have := hb.out; omega
        case rel => exact ⟨k + 1, g', n + 2, c', by go_num, rfl, by omega, by omega, rfl, HI'.out⟩
    · obtain rfl : k = s.size := by omega
      have hbase := hinv.out.2.2.2.2.size
      have htk : Hid ((34 :: (s.data.toList.take s.size).flatMap wrB) ++ [34] = writeQ s.data.toList) := by
        show _ = _
        rw [← HSL.out, List.take_length]; rfl
      go_wp2_with (at_builtin; refine wpList_append_own_at _ rfl (.tmp 41) (.tmp 42) 34 rfl w.heap.size 5 i0 (.int .u8 0) 1 1 Tryd.underlying34 hi hz0 hz1 hz2 rfl (by decide) _ n (byteVals (34 :: (s.data.toList.take s.size).flatMap wrB)) rfl ?h1 ⟨wr.heap.size, 0, none⟩ 1 1 (byteVals [34]) rfl rfl ?h2 ?h3 ?h4 ?h5 ?h6 ?_)
      case h1 => exact hinv.out.1.keep (below_new1 wr _) (Nat.le_refl _)
      case h2 => exact news_at (heap_new1 wr _)
      case h3 => intro u hu; simp [byteVals] at hu; rcases hu with rfl; rfl
      case h4 => simp only [maxLen]; omega
      case h5 => omega
      case h6 => simp; omega
      intro v' w3 hown' hg' _ hloc
      obtain ⟨g', c', rfl, hI'⟩ := hinv.out.step (below_new1 wr _) (by omega) hown' hg' hloc (by simp)
      rw [htk.out] at hI'
      have hlw := hI'.1.len
      have hcv := conv_bs (P := Tryd.prog) w3 34 9 5 Tryd.underlying34 Tryd.underlying5 Tryd.underlying9 hI'.1.bs c'
      rw [← hlw] at hcv
      have HL := Lib.hid hlw
      have HI' := Lib.hid hI'; clear hI' hown' hg' hloc hlw
      go_wp2
      go_ret
      exact ⟨rfl, HI'.out.2.2.2.2⟩

end Go.Proofs.YtpchipmpgoflfaaDoor
