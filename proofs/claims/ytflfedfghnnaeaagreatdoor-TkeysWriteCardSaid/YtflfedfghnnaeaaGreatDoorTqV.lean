/- The walk over the reference's Write (chapter 04); no statement of the seat is proved here. -/
import Derived.Test.YtflfedfghnnaeaaGreatDoorTqW
namespace Go.Proofs.YtflfedfghnnaeaaGreatDoor
open Go.RowKit

theorem let_all (k : Nat) (h : k < 7) : ∃ x y : UInt8, Hid (∃ h : k < shortT.length, shortT[k] = (x.toNat, y.toNat)) ∧ (∀ w, (Instr.index 9 (.string ⟨#[98, 116, 110, 102, 114, 34, 92]⟩) (.int .i64 (k : Int))).run Tryz.prog w = .ok (.int .u8 ((x.toNat : Nat) : Int)) w) ∧ ∀ w, (Instr.index 9 (.string ⟨#[8, 9, 10, 12, 13, 34, 92]⟩) (.int .i64 (k : Int))).run Tryz.prog w = .ok (.int .u8 ((y.toNat : Nat) : Int)) w := by
  have hk : k = 0 ∨ k = 1 ∨ k = 2 ∨ k = 3 ∨ k = 4 ∨ k = 5 ∨ k = 6 := by omega
  rcases hk with rfl | rfl | rfl | rfl | rfl | rfl | rfl
  · exact ⟨98, 8, ⟨by decide, rfl⟩, fun _ => by kernel_rfl, fun _ => by kernel_rfl⟩
  · exact ⟨116, 9, ⟨by decide, rfl⟩, fun _ => by kernel_rfl, fun _ => by kernel_rfl⟩
  · exact ⟨110, 10, ⟨by decide, rfl⟩, fun _ => by kernel_rfl, fun _ => by kernel_rfl⟩
  · exact ⟨102, 12, ⟨by decide, rfl⟩, fun _ => by kernel_rfl, fun _ => by kernel_rfl⟩
  · exact ⟨114, 13, ⟨by decide, rfl⟩, fun _ => by kernel_rfl, fun _ => by kernel_rfl⟩
  · exact ⟨34, 34, ⟨by decide, rfl⟩, fun _ => by kernel_rfl, fun _ => by kernel_rfl⟩
  · exact ⟨92, 92, ⟨by decide, rfl⟩, fun _ => by kernel_rfl, fun _ => by kernel_rfl⟩

theorem ret_i {a b : Int} (h : a = b) : Ending.returned (.int .i64 a) = .returned (.int .i64 b) := by rw [h]
set_option maxRecDepth 100000 in
set_option maxHeartbeats 1000000 in
theorem rshort_is (j : Nat) (c d : UInt8) (hcd : Hid (∃ h : j < shortT.length, shortT[j] = (c.toNat, d.toNat))) (w : World) :
    Calls Tryz.prog 44 #[.int .u8 ((c.toNat : Nat) : Int)] w fun e w' => e = .returned (.int .i64 ((d.toNat : Nat) : Int)) ∧ w = w' := by
  have hall : Hid (shortFrom c.toNat 0 = some d.toNat) := by
    obtain ⟨h, e⟩ := hcd.out
    have h7 : ∀ t (h : t < shortT.length), shortFrom shortT[t].1 0 = some shortT[t].2 := by decide
    have := h7 j h
    rw [e] at this; exact this
  clear hcd
  go_enter Tryz.func44, Tryz.ntmps44
  go_wp2
  go_loopg [5] 8 (fun b s5 wr => ∃ k : Nat, s5 = .int .i64 k ∧ k ≤ 7 ∧ Hid (b = 8 - k) ∧ Hid (shortFrom c.toNat k = some d.toNat) ∧ w = wr)
  case atStart => exact ⟨0, rfl, by omega, rfl, hall, rfl⟩
  case round =>
    obtain ⟨k, rfl, hk, hg, hr, rfl⟩ := hrel
    by_cases hlt : k < 7
    · obtain ⟨x, y, hxy, hix, hiy⟩ := let_all k hlt
      by_cases heq : x.toNat = c.toNat
      · have hb : ((x.toNat : Int) == (c.toNat : Int)) = true := by simp; omega
        have hres : Hid (y.toNat = d.toNat) := by
          obtain ⟨h8, e8⟩ := hxy.out
          have h1 := shortFrom_yes (c := c.toNat) h8 (by rw [e8]; exact heq)
          rw [hr.out, e8] at h1
          exact (Option.some.inj h1).symm
        clear heq
        go_wp2
        go_ret
        exact ⟨ret_i (by have := d.toNat_lt; rw [hres.out]; unfold wrap64; omega), rfl⟩
      · have hb : ((x.toNat : Int) == (c.toNat : Int)) = false := by simp; omega
        have hr' : Hid (shortFrom c.toNat (k + 1) = some d.toNat) := by
          obtain ⟨h8, e8⟩ := hxy.out
          show _ = _
          rw [← hr.out, ← shortFrom_no h8 (by rw [e8]; exact heq)]
        clear heq
        go_wp2
        go_roundg (8 - (k + 1))
        case measure => have := hg.out; omega
        case rel => exact ⟨k + 1, by go_num, by omega, rfl, hr', rfl⟩
    · exfalso
      have := hr.out
      rw [show k = 7 by omega, shortFrom_end] at this
      cases this

theorem rplain_is (c : Nat) (b : Bool) (h : plainB c = b) (hc : c < 256) (w : World) : Calls Tryz.prog 45 #[.int .u8 (c : Int)] w fun e w' => e = .returned (.bool b) ∧ w = w' := by
  subst h
  by_cases h9 : c = 9
  · subst h9
    go_enter Tryz.func45, Tryz.ntmps45
    go_wp2
    go_ret
    exact ⟨rfl, rfl⟩
  have b9 : ((c : Int) == 9) = false := by simp; omega
  have HP : Hid (plainB c = (decide (32 ≤ c) && c != 127)) := by show _ = _; simp [plainB, h9]
  clear h9
  by_cases h32 : c < 32
  · have HV : Hid (plainB c = false) := by show _ = _; rw [HP.out]; simp; omega
    have b1 : decide ((32 : Int) ≤ (c : Int)) = false := by simp; omega
    have b2 : decide ((128 : Int) ≤ (c : Int)) = false := by simp; omega
    clear h32
    clear HP
    go_enter Tryz.func45, Tryz.ntmps45
    go_wp2
    go_ret
    exact ⟨by rw [HV.out]; rfl, rfl⟩
  by_cases h126 : c ≤ 126
  · have HV : Hid (plainB c = true) := by show _ = _; rw [HP.out]; simp; omega
    have b1 : decide ((32 : Int) ≤ (c : Int)) = true := by simp; omega
    have b2 : decide ((c : Int) ≤ (126 : Int)) = true := by simp; omega
    clear h32 h126
    clear HP
    go_enter Tryz.func45, Tryz.ntmps45
    go_wp2
    go_ret
    exact ⟨by rw [HV.out]; rfl, rfl⟩
  by_cases h128 : c < 128
  · have HV : Hid (plainB c = false) := by show _ = _; rw [HP.out]; simp; omega
    have b1 : decide ((32 : Int) ≤ (c : Int)) = true := by simp; omega
    have b2 : decide ((c : Int) ≤ (126 : Int)) = false := by simp; omega
    have b3 : decide ((128 : Int) ≤ (c : Int)) = false := by simp; omega
    clear h32 h126 h128
    clear HP
    go_enter Tryz.func45, Tryz.ntmps45
    go_wp2
    go_ret
    exact ⟨by rw [HV.out]; rfl, rfl⟩
  · have HV : Hid (plainB c = true) := by show _ = _; rw [HP.out]; simp; omega
    have b1 : decide ((32 : Int) ≤ (c : Int)) = true := by simp; omega
    have b2 : decide ((c : Int) ≤ (126 : Int)) = false := by simp; omega
    have b3 : decide ((128 : Int) ≤ (c : Int)) = true := by simp; omega
    clear h32 h126 h128
    clear HP
    go_enter Tryz.func45, Tryz.ntmps45
    go_wp2
    go_ret
    exact ⟨by rw [HV.out]; rfl, rfl⟩

/-- Whether a byte's short escape stands among the first rows of the table. -/
def fnd (x : UInt8) (j : Nat) : Bool := (shortT.take j).any (·.2 == x.toNat)
theorem fnd_yes {x : UInt8} {j : Nat} (h : j < shortT.length) (e : shortT[j].2 = x.toNat) : fnd x j = false ∧ fnd x (j + 1) = true ∧ wrB x = [92, UInt8.ofNat shortT[j].1] := by
  have h7 : ∀ t (h : t < shortT.length), fnd (UInt8.ofNat shortT[t].2) t = false ∧ fnd (UInt8.ofNat shortT[t].2) (t + 1) = true ∧ wrB (UInt8.ofNat shortT[t].2) = [92, UInt8.ofNat shortT[t].1] := by decide
  have := h7 j h
  rw [e] at this; simpa using this
theorem fnd_no {x : UInt8} {j : Nat} (h : j < shortT.length) (e : shortT[j].2 ≠ x.toNat) : fnd x (j + 1) = fnd x j := by
  unfold fnd; rw [List.take_succ_eq_append_getElem h, List.any_append]; simp [e]
theorem fnd_end (x : UInt8) : fnd x 7 = (letterB x != 0) := u8_all (p := fun x => fnd x 7 = (letterB x != 0)) (by decide +kernel) x
theorem wr_len (l : List UInt8) : (l.flatMap wrB).length ≤ 6 * l.length := by
  induction l with
  | nil => simp
  | cons c l ih => have := wrB_len c; simp at ih ⊢; omega
def RInv (w wr : World) (g n c : Nat) (l : List UInt8) : Prop := OwnB wr w.heap.size (some ⟨g, 0, none⟩) n c l ∧ Below w.heap.size w wr
theorem RInv.step {w wr w2 w3 : World} {g n c m : Nat} {l t : List UInt8} {v' : Value} (h : RInv w wr g n c l) (hb : Below wr.heap.size wr w2) (hm : 0 < m) (hown : w3.ownsRow w.heap.size 5 1 v' (n + m) (byteVals l ++ byteVals t)) (hg : w2.grownBy w3 (some g)) :
    ∃ g' c', v' = .slice (some ⟨g', 0, none⟩) (n + m) c' ∧ RInv w w3 g' (n + m) c' (l ++ t) := by
  obtain ⟨h1, h5⟩ := h
  obtain ⟨g', cap, hv, hg', hlt⟩ := hown.form (by omega)
  subst hv
  have hs2 := hb.size
  have hs3 := hg.size
  exact ⟨g', cap, rfl, by rw [← byteVals_app] at hown; exact hown, (h5.trans (hb.mono h5.size)).grown hg (by have := h5.size; omega) (fun q hq => by cases hq; exact h1.ge g rfl)⟩
theorem RInv.keep {w wr w2 : World} {g n c : Nat} {l : List UInt8} (h : RInv w wr g n c l) (hb : Below wr.heap.size wr w2) : RInv w w2 g n c l :=
  ⟨h.1.keep hb (Nat.le_refl _), h.2.trans (hb.mono h.2.size)⟩
theorem RInv.bound {w wr : World} {g n c k : Nat} {s : List UInt8} (h : RInv w wr g n c (34 :: (s.take k).flatMap wrB)) : n ≤ 6 * k + 1 := by
  have := h.1.len
  have h2 := wr_len (s.take k)
  simp at this h2
  omega

set_option maxRecDepth 100000 in
set_option maxHeartbeats 4000000 in
theorem rwrite_any (s : ByteArray) (hs : s.size ≤ 16777216) (w : World) :
    Calls Tryz.prog 30 #[.string s] w fun e w' => e = .returned (.string ⟨(writeQ s.data.toList).toArray⟩) ∧ Below w.heap.size w w' := by
  obtain ⟨i0, hi, hz0, hz1, hz2⟩ := info_parts byte_info
  have HI : Hid (RInv w (w.alloc (.cells #[.int .u8 34] 5)) w.heap.size 1 1 [34]) :=
    ⟨⟨rfl, .inr ⟨w.heap.size, 1, #[.int .u8 34], rfl, Nat.le_refl _, heap_new1 w _, Nat.le_refl _, by simp only [maxLen]; omega, rfl, rfl⟩⟩, below_new1 w _⟩
  have hsl : s.data.toList.length = s.size := by simp
  have HSL := Lib.hid hsl; clear hsl
  go_enter Tryz.func30, Tryz.ntmps30
  go_wp2
  go_loopg [4, 5] s.size (fun b s4 s5 wr => ∃ k g n c : Nat, s5 = .int .i64 k ∧ s4 = .slice (some ⟨g, 0, none⟩) n c ∧ k ≤ s.size ∧ n ≤ 6 * k + 1 ∧ Hid (b = s.size - k) ∧ Hid (RInv w wr g n c (34 :: (s.data.toList.take k).flatMap wrB)))
  case atStart => exact ⟨0, w.heap.size, 1, 1, rfl, rfl, by omega, by omega, rfl, HI.out⟩
  case round =>
    obtain ⟨k, g, n, c, rfl, rfl, hk, hn, hb, hinv⟩ := hrel
    by_cases hlt : k < s.size
    · have hk' : k < s.data.toList.length := by rw [HSL.out]; exact hlt
      have hx255 := s[k].toNat_lt
      have hnext : Hid ((34 :: (s.data.toList.take k).flatMap wrB) ++ wrB s[k] = 34 :: (s.data.toList.take (k + 1)).flatMap wrB) := by
        show _ = _
        rw [wr_take _ _ hk']; rfl
      go_wp2_with fail
      go_loopg [4, 7, 8] 8 (fun b2 s4 s7 s8 wi => ∃ j g n c : Nat, ∃ f : Bool, ∃ l : List UInt8, s8 = .int .i64 j ∧ s4 = .slice (some ⟨g, 0, none⟩) n c ∧ s7 = .bool f ∧ j ≤ 7 ∧ n ≤ 6 * k + 3 ∧ Hid (b2 = 8 - j) ∧ Hid (f = fnd s[k] j ∧ l = (34 :: (s.data.toList.take k).flatMap wrB) ++ if fnd s[k] j then wrB s[k] else []) ∧ Hid (RInv w wi g n c l))
      case atStart => exact ⟨0, g, n, c, false, (34 :: (s.data.toList.take k).flatMap wrB), rfl, rfl, rfl, by omega, by omega, rfl, ⟨rfl, by rw [show fnd s[k] 0 = false from rfl]; simp⟩, hinv⟩
      case round =>
        clear hinv hn
        obtain ⟨j, g, n, c, f, l, rfl, rfl, rfl, hj, hn, hg2, hfl, hinv⟩ := hrel
        have hbase := hinv.out.2.size
        by_cases hlj : j < 7
        · obtain ⟨lx, ly, hxy, hix, _⟩ := let_all j hlj
          by_cases heq : ly.toNat = s[k].toNat
          · have hbq : ((ly.toNat : Int) == (s[k].toNat : Int)) = true := by simp; omega
            have hf : Hid (true = fnd s[k] (j + 1) ∧ l ++ [92, lx] = (34 :: (s.data.toList.take k).flatMap wrB) ++ if fnd s[k] (j + 1) then wrB s[k] else []) := by
              obtain ⟨h8, e8⟩ := hxy.out
              obtain ⟨h1, h2, h3⟩ := fnd_yes (x := s[k]) h8 (by rw [e8]; exact heq)
              rw [e8] at h3
              have hl := hfl.out.2
              rw [h1] at hl
              refine ⟨h2.symm, ?_⟩
              rw [h2, hl, if_pos rfl, h3]; simp
            have hn1 : n ≤ 6 * k + 1 := by
              obtain ⟨h8, e8⟩ := hxy.out
              obtain ⟨h1, _, _⟩ := fnd_yes (x := s[k]) h8 (by rw [e8]; exact heq)
              have hl := hfl.out.2
              rw [h1] at hl
              have h := hinv.out
              rw [hl] at h
              simp only [Bool.false_eq_true, if_false, List.append_nil] at h
              exact h.bound
            clear heq
            go_wp2_with (first
              | (go_at_call 44; (with_reducible refine (rshort_is j lx ly hxy _).mono ?_); rintro e w2 ⟨rfl, rfl⟩)
              | (at_builtin; refine wpList_append_own_at _ rfl (.tmp 33) (.tmp 37) 66 rfl w.heap.size 5 i0 (.int .u8 0) 1 1 Tryz.underlying66 hi hz0 hz1 hz2 rfl (by decide) _ n (byteVals l) rfl ?h1 ⟨wr.heap.size, 0, none⟩ 2 2 (byteVals [92, lx]) rfl rfl ?h2 ?h3 ?h4 ?h5 ?h6 ?_))
            case h1 => exact hinv.out.1.keep (below_new1 wr _) (Nat.le_refl _)
            case h2 => exact news_at (heap_new1 wr _)
            case h3 => intro u hu; simp [byteVals] at hu; rcases hu with rfl | rfl <;> rfl
            case h4 => simp only [maxLen]; omega
            case h5 => omega
            case h6 => simp; omega
            intro v' w3 hown' hg' _ hloc
            obtain ⟨g', c', rfl, hI'⟩ := hinv.out.step (below_new1 wr _) (by omega) hown' hg'
            have HI' := Lib.hid hI'; clear hI' hown' hg' hloc
            go_wp2
            go_roundg (8 - (j + 1))
            case measure => have := hg2.out; omega
            case rel => exact ⟨j + 1, g', n + 2, c', true, l ++ [92, lx], by go_num, rfl, rfl, by omega, by omega, rfl, hf, HI'.out⟩
          · have hbq : ((ly.toNat : Int) == (s[k].toNat : Int)) = false := by simp; omega
            have hf : Hid (f = fnd s[k] (j + 1) ∧ l = (34 :: (s.data.toList.take k).flatMap wrB) ++ if fnd s[k] (j + 1) then wrB s[k] else []) := by
              obtain ⟨h8, e8⟩ := hxy.out
              show _ ∧ _
              rw [fnd_no h8 (by rw [e8]; exact heq)]
              exact hfl.out
            clear heq
            go_wp2_with (go_at_call 44; (with_reducible refine (rshort_is j lx ly hxy _).mono ?_); rintro e w2 ⟨rfl, rfl⟩)
            go_roundg (8 - (j + 1))
            case measure => have := hg2.out; omega
            case rel => exact ⟨j + 1, g, n, c, f, l, by go_num, rfl, rfl, by omega, by omega, rfl, hf, hinv.out⟩
        · have hf7 : Hid (f = (letterB s[k] != 0) ∧ l = (34 :: (s.data.toList.take k).flatMap wrB) ++ if (letterB s[k] != 0) then wrB s[k] else []) := by
            have h := hfl.out
            rw [show j = 7 by omega, fnd_end] at h
            exact h
          clear hfl
          cases hf : f with
          | true =>
            subst hf
            have hn2 : Hid (RInv w wr g n c (34 :: (s.data.toList.take (k + 1)).flatMap wrB)) := by
              have h := hinv.out
              obtain ⟨h1, h2⟩ := hf7.out
              rw [h2, ← h1, if_pos rfl, hnext.out] at h
              exact h
            have hnn : n ≤ 6 * (k + 1) + 1 := hn2.out.bound
            go_wp2_with fail
            go_roundg (s.size - (k + 1))
            case measure => have := hb.out; omega
            case rel => exact ⟨k + 1, g, n, c, by go_num, rfl, by omega, by omega, rfl, hn2.out⟩
          | false =>
            subst hf
            have hl0 : Hid (letterB s[k] = 0) := by
              obtain ⟨h1, h2⟩ := hf7.out
              show _ = _
              simpa using h1.symm
            obtain rfl : l = (34 :: (s.data.toList.take k).flatMap wrB) := by
              obtain ⟨h1, h2⟩ := hf7.out
              rw [h2, ← h1]; simp
            have hn1 : n ≤ 6 * k + 1 := hinv.out.bound
            clear hf7 hn
            by_cases hpl : plainB s[k].toNat = true
            · have HP := Lib.hid hpl
              have hw : Hid (wrB s[k] = [s[k]]) := by show _ = _; rw [wrB, if_neg (by simpa using hl0.out), if_pos hpl]
              clear hpl
              go_wp2_with (first
                | (go_at_call 45; (with_reducible refine (rplain_is _ true HP.out hx255 _).mono ?_); rintro e w2 ⟨rfl, rfl⟩)
                | (at_builtin; refine wpList_append_own_at _ rfl (.tmp 42) (.tmp 44) 66 rfl w.heap.size 5 i0 (.int .u8 0) 1 1 Tryz.underlying66 hi hz0 hz1 hz2 rfl (by decide) _ n (byteVals (34 :: (s.data.toList.take k).flatMap wrB)) rfl ?h1 ⟨wr.heap.size, 0, none⟩ 1 1 (byteVals [s[k]]) rfl rfl ?h2 ?h3 ?h4 ?h5 ?h6 ?_))
              case h1 => exact hinv.out.1.keep (below_new1 wr _) (Nat.le_refl _)
              case h2 => exact news_at (heap_new1 wr _)
              case h3 => intro u hu; simp [byteVals] at hu; rcases hu with rfl; rfl
              case h4 => simp only [maxLen]; omega
              case h5 => omega
              case h6 => simp; omega
              intro v' w3 hown' hg' _ hloc
              obtain ⟨g', c', rfl, hI'⟩ := hinv.out.step (below_new1 wr _) (by omega) hown' hg'
              rw [← hw.out, hnext.out] at hI'
              have HI' := Lib.hid hI'; clear hI' hown' hg' hloc
              go_wp2
              go_roundg (s.size - (k + 1))
              case measure => have := hb.out; omega
              case rel => exact ⟨k + 1, g', n + 1, c', by go_num, rfl, by omega, by omega, rfl, HI'.out⟩
            · have HP : Hid (plainB s[k].toNat = false) := by show _ = _; simpa using hpl
              have hw : Hid (wrB s[k] = [92, 117, 48, 48, hexc (s[k].toNat / 16), hexc (s[k].toNat % 16)]) := by show _ = _; rw [wrB, if_neg (by simpa using hl0.out), if_neg hpl]
              clear hpl
              go_wp2_with (go_at_call 45; (with_reducible refine (rplain_is _ false HP.out hx255 _).mono ?_); rintro e w2 ⟨rfl, rfl⟩)
              have hix1 := fun W => hex_ix (s[k].toNat / 16) (by omega) W
              have hix2 := fun W => hex_ix (s[k].toNat % 16) (by omega) W
              have e1 : IntKind.u8.wrap ((s[k].toNat : Int) / 16) = ((s[k].toNat / 16 : Nat) : Int) := by
                rw [Int.natCast_ediv]; simp only [IntKind.wrap]; rw [if_neg (by rw [show IntKind.u8.signed = false from rfl]; simp), show ((2 : Int) ^ IntKind.u8.bits) = 256 from rfl]; omega
              have e2 : ((s[k].toNat : Int)).tmod 16 = ((s[k].toNat % 16 : Nat) : Int) := rfl
              rw [← e1] at hix1
              rw [← e2] at hix2
              clear e1 e2
              have HL6 : Hid (∀ u ∈ byteVals [92, 117, 48, 48, hexc (s[k].toNat / 16), hexc (s[k].toNat % 16)], u.oneCell' = true) := by
                intro u hu; simp [byteVals] at hu; rcases hu with rfl | rfl | rfl | rfl | rfl | rfl <;> rfl
              go_region_law (refine step_append_lies _ rfl (.tmp 46) (.tmp 55) 66 rfl w.heap.size 5 i0 (.int .u8 0) 1 1 Tryz.underlying66 hi hz0 hz1 hz2 rfl (by decide) _ n (byteVals (34 :: (s.data.toList.take k).flatMap wrB)) (by simp [Act.eval]) (hinv.out.1.keep (below_new1 wr _).drew (Nat.le_refl _)) ⟨wr.heap.size, 0, none⟩ 6 6 (byteVals [92, 117, 48, 48, hexc (s[k].toNat / 16), hexc (s[k].toNat % 16)]) (by simp [Act.eval]) rfl (news_at (heap_new1 wr _)) HL6.out (by omega) (by simp only [maxLen]; omega) (by omega) (by simp; omega) (wr.heap.size + 1) (by simp) ?_; intro g' c' w3 hown' hg' hloc hlt3; have HOWN := Lib.hid hown'; have HGR := Lib.hid hg'; clear hown' hg' hloc)
              all_goals (
                clear hix1 hix2
                obtain ⟨g2, c2, e2, hI'⟩ := hinv.out.step (t := [92, 117, 48, 48, hexc (s[k].toNat / 16), hexc (s[k].toNat % 16)]) (below_new1 wr _).drew (by omega) HOWN.out HGR.out
                cases e2
                rw [← hw.out, hnext.out] at hI'
                have HI' := Lib.hid hI'; clear hI' HOWN HGR
                go_wp2
                go_roundg (s.size - (k + 1))
                case measure => have := hb.out; omega
                case rel => exact ⟨k + 1, g', n + 6, c', by go_num, rfl, by omega, by omega, rfl, HI'.out⟩)
    · obtain rfl : k = s.size := by omega
      have hbase := hinv.out.2.size
      have htk : Hid ((34 :: (s.data.toList.take s.size).flatMap wrB) ++ [34] = writeQ s.data.toList) := by
        show _ = _
        rw [← HSL.out, List.take_length]; rfl
      go_wp2_with (at_builtin; refine wpList_append_own_at _ rfl (.tmp 57) (.tmp 58) 66 rfl w.heap.size 5 i0 (.int .u8 0) 1 1 Tryz.underlying66 hi hz0 hz1 hz2 rfl (by decide) _ n (byteVals (34 :: (s.data.toList.take s.size).flatMap wrB)) rfl ?h1 ⟨wr.heap.size, 0, none⟩ 1 1 (byteVals [34]) rfl rfl ?h2 ?h3 ?h4 ?h5 ?h6 ?_)
      case h1 => exact hinv.out.1.keep (below_new1 wr _) (Nat.le_refl _)
      case h2 => exact news_at (heap_new1 wr _)
      case h3 => intro u hu; simp [byteVals] at hu; rcases hu with rfl; rfl
      case h4 => simp only [maxLen]; omega
      case h5 => omega
      case h6 => simp; omega
      intro v' w3 hown' hg' _ hloc
      obtain ⟨g', c', rfl, hI'⟩ := hinv.out.step (below_new1 wr _) (by omega) hown' hg'
      rw [htk.out] at hI'
      have hlw := hI'.1.len
      have hcv := conv_bs (P := Tryz.prog) w3 66 9 5 Tryz.underlying66 Tryz.underlying5 Tryz.underlying9 hI'.1.bs c'
      rw [← hlw] at hcv
      have HL := Lib.hid hlw
      have HI' := Lib.hid hI'; clear hI' hown' hg' hloc hlw
      go_wp2
      go_ret
      exact ⟨rfl, HI'.out.2⟩

end Go.Proofs.YtflfedfghnnaeaaGreatDoor
