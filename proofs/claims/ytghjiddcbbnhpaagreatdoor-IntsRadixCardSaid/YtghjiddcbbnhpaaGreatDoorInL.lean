/- The law IntsEdge walked; no statement of the seat is proved here. -/
import Derived.Test.YtghjiddcbbnhpaaGreatDoorInN
import Derived.Test.YtghjiddcbbnhpaaGreatDoorInB2
import Derived.Test.YtghjiddcbbnhpaaGreatDoorAp1
import Derived.Laws.OwnMore
import Derived.Maps.AppendAt
namespace Go.Proofs.YtghjiddcbbnhpaaGreatDoor
open Go.RowKit

theorem rep_list (k : Nat) : Lib.repeatL [48] k = List.replicate k 48 := by
  induction k with
  | zero => rfl
  | succ k ih => rw [Lib.repeatL, ih, List.replicate_succ]; rfl
theorem rpt_is (k : Nat) (hk : k ≤ 1000) (z : ByteArray) (hz : z.data.toList = List.replicate k 48) (v : Int) (hv : v = (k : Int)) (w : World) :
    Calls Tryz.prog 15 #[.string ⟨#[48]⟩, .int .i64 v] w fun e w' => e = .returned (.string z) ∧ Below w.heap.size w w' := by
  subst hv
  refine (Tryz.strings_Repeat ⟨#[48]⟩ k w (by omega) (by show 1 * k ≤ _; omega)).mono ?_
  rintro e w' ⟨rfl, hb⟩
  have e : (⟨(Lib.repeatL [48] k).toArray⟩ : ByteArray) = z := str_eq (by rw [hz, rep_list])
  exact ⟨congrArg (fun s => Ending.returned (Value.string s)) e, hb⟩
theorem str_info : (Tryz.prog.info? 9).map (fun i => (i.zero, i.size, i.bytes)) = some (some (.string ⟨#[]⟩), 1, 16) := by kernel_rfl

/-- A row of texts of the call's own, of each of which something is said. -/
structure RX (P : ByteArray → Prop) (w0 w : World) (g : Nat) (xs : List ByteArray) : Prop where
  cell : ∀ (k : Nat) (x : ByteArray), xs[k]? = some x → w.cell? ⟨g, k, none⟩ = some (.string x)
  lt : g < w.heap.size
  all : ∀ x ∈ xs, P x
  below : Below w0.heap.size w0 w
theorem RX.later {P : ByteArray → Prop} {w0 w w' : World} {g : Nat} {xs : List ByteArray} (h : RX P w0 w g xs) (hb : Below w.heap.size w w') : RX P w0 w' g xs :=
  ⟨fun k x hx => (hb.cell (p := ⟨g, k, none⟩) h.lt).trans (h.cell k x hx), Nat.lt_of_lt_of_le h.lt hb.size, h.all, h.below.trans (hb.mono h.below.size)⟩
theorem RX.made {P : ByteArray → Prop} {w0 w : World} (xs : List ByteArray) {cs : Array Value} (hc : cs.toList = xs.map Value.string) (hb : Below w0.heap.size w0 w) (ha : ∀ x ∈ xs, P x) (e : TypeId) : RX P w0 (w.alloc (.cells cs e)) w.heap.size xs := by
  have h := heap_new1 w (.cells cs e)
  refine ⟨fun k z hz => ?_, by simp, ha, hb.alloc hb.size _⟩
  rw [blk_cell h, ← Array.getElem?_toList, hc, List.getElem?_map, hz]; rfl
theorem RX.own {P : ByteArray → Prop} {w0 w' : World} {v : Value} {n : Nat} (xs : List ByteArray) {vs : List Value} (hvs : vs = xs.map Value.string) (hn : 0 < n) (ho : w'.ownsRow w0.heap.size 9 1 v n vs) (ha : ∀ x ∈ xs, P x) (hb : Below w0.heap.size w0 w') :
    ∃ g c, v = .slice (some ⟨g, 0, none⟩) n c ∧ RX P w0 w' g xs := by
  rcases ho.2 with ⟨_, h0⟩ | ⟨g, cap, cur, rfl, hg, hh, h1, h2, h3, h4⟩
  · omega
  · refine ⟨g, cap, rfl, fun k q hq => ?_, blk_lt hh, ha, hb⟩
    have h5 : vs[k]? = some (.string q) := by rw [hvs, List.getElem?_map, hq]; rfl
    rw [← h4, List.getElem?_take] at h5
    split at h5
    · rw [blk_cell hh, ← Array.getElem?_toList]; exact h5
    · cases h5
/-- A text that is too great. -/
def FarT (x : ByteArray) : Prop := readI x.data.toList = ([], 8) ∧ x.size ≤ 5000

set_option maxRecDepth 100000 in
set_option maxHeartbeats 8000000 in
theorem edgelaw_walk (a b : Int) (ha0 : 0 ≤ a) (ha1 : a < 18446744073709551616) (hb0 : 0 ≤ b) (hb1 : b ≤ 255) (w : World) (hG : Gl w) (hD : Db w) :
    Calls Tryz.prog 6 #[.int .u64 a, .int .u8 b] w fun e w' => e = .returned (.bool true) ∧ Below w.heap.size w w' := by
  obtain ⟨n, rfl⟩ : ∃ n : Nat, a = (n : Int) := ⟨a.toNat, by omega⟩
  obtain ⟨ov, hor, ho1, ho2⟩ := or_top n (by omega)
  obtain ⟨k, hk⟩ : ∃ k : Nat, b % 20 = (k : Int) := ⟨(b % 20).toNat, by omega⟩
  have hk20 : k < 20 := by omega
  obtain ⟨T, hT⟩ := str_ex (List.replicate k 48)
  obtain ⟨F16, h16⟩ := str_ex (fmtQ 16 ov)
  obtain ⟨F8, h8⟩ := str_ex (fmtQ 8 ov)
  obtain ⟨F2, h2⟩ := str_ex (fmtQ 2 ov)
  obtain ⟨D, hd⟩ := str_ex (Lib.decDigits ov)
  have zT : T.size ≤ 20 := by rw [← size_list, hT, List.length_replicate]; omega
  have z16 : F16.size ≤ 64 := by rw [← size_list, h16]; exact fmt_len64 (by omega) ho2
  have z8 : F8.size ≤ 64 := by rw [← size_list, h8]; exact fmt_len64 (by omega) ho2
  have z2 : F2.size ≤ 64 := by rw [← size_list, h2]; exact fmt_len64 (by omega) ho2
  have zD : D.size ≤ 20 := by
    rw [← size_list, hd, Lib.decDigits_length]
    have := Lib.numDigits_eq ov (by omega) ho2; split at this <;> omega
  have HG := Lib.hid hG
  have C16 := Lib.hid (fun w' (hb : Below w.heap.size w w') => fu_16 ov ho2 F16 h16 w' (hD.later hb))
  have C8 := Lib.hid (fun w' (hb : Below w.heap.size w w') => fu_8 ov ho2 F8 h8 w' (hD.later hb))
  have C2 := Lib.hid (fun w' (hb : Below w.heap.size w w') => fu_2 ov ho2 F2 h2 w' (hD.later hb))
  have C10 := Lib.hid (fun w' (hb : Below w.heap.size w w') => fu_10 ov (by omega) ho2 D hd w' (hG.later hb).tab)
  have CR := Lib.hid (rpt_is k (by omega) T hT (b % 20) hk)
  have P0 : Hid (FarT (⟨#[48, 120]⟩ ++ F16 ++ T)) := ⟨by rw [app_list, app_list, h16, hT]; exact far_16 ov k ho1, by simp only [ByteArray.size_append]; show 2 + _ + _ ≤ _; omega⟩
  have P1 : Hid (FarT (⟨#[48, 111]⟩ ++ F8 ++ T)) := ⟨by rw [app_list, app_list, h8, hT]; exact far_8 ov k ho1, by simp only [ByteArray.size_append]; show 2 + _ + _ ≤ _; omega⟩
  have P2 : Hid (FarT (⟨#[48, 98]⟩ ++ F2 ++ T)) := ⟨by rw [app_list, app_list, h2, hT]; exact far_2 ov k ho1, by simp only [ByteArray.size_append]; show 2 + _ + _ ≤ _; omega⟩
  have P3 : Hid (FarT (⟨#[48, 120, 48, 48, 48, 48, 48, 48, 48, 48, 48, 48, 48, 48, 48, 48, 48, 48, 48, 48, 48, 48, 48]⟩ ++ F16)) := ⟨by rw [app_list, h16]; exact far_z ov ho1, by rw [ByteArray.size_append]; show 23 + _ ≤ _; omega⟩
  have P4 : Hid (FarT (D ++ T)) := ⟨by rw [app_list, hd, hT]; exact far_d ov k ho1, by simp only [ByteArray.size_append]; omega⟩
  have P5 : Hid (FarT (⟨#[43]⟩ ++ D ++ T)) := ⟨by rw [app_list, app_list, hd, hT]; exact far_p ov k ho1, by simp only [ByteArray.size_append]; show 1 + _ + _ ≤ _; omega⟩
  have P6 : Hid (9223372036854775808 < ov → FarT (⟨#[45]⟩ ++ D ++ T)) := fun h => ⟨by rw [app_list, app_list, hd, hT]; exact far_m ov k h, by simp only [ByteArray.size_append]; show 1 + _ + _ ≤ _; omega⟩
  have y1 : (⟨#[48, 120]⟩ : ByteArray).size = 2 := rfl
  have y2 : (⟨#[48, 111]⟩ : ByteArray).size = 2 := rfl
  have y3 : (⟨#[48, 98]⟩ : ByteArray).size = 2 := rfl
  have y4 : (⟨#[48, 120, 48, 48, 48, 48, 48, 48, 48, 48, 48, 48, 48, 48, 48, 48, 48, 48, 48, 48, 48, 48, 48]⟩ : ByteArray).size = 23 := rfl
  have y5 : (⟨#[43]⟩ : ByteArray).size = 1 := rfl
  have y6 : (⟨#[45]⟩ : ByteArray).size = 1 := rfl
  have HB : Hid (Below w.heap.size w w) := Below.refl _ _
  clear hT h16 h8 h2 hd hG hD hk ha0 ha1
  go_enter Tryz.func6, Tryz.ntmps6
  go_upto_if 44 with (first
    | (go_at_call 15; (with_reducible refine (CR.out _).mono ?_); rintro x w' ⟨rfl, hb'⟩; replace HB := Lib.hid (HB.out.trans (hb'.mono HB.out.size)); clear hb')
    | (go_at_call 16; (first | (with_reducible refine (C16.out _ HB.out).mono ?_) | (with_reducible refine (C8.out _ HB.out).mono ?_) | (with_reducible refine (C2.out _ HB.out).mono ?_) | (with_reducible refine (C10.out _ HB.out).mono ?_)); rintro x w' ⟨rfl, hb'⟩; replace HB := Lib.hid (HB.out.trans (hb'.mono HB.out.size)); clear hb'))
  obtain ⟨wq, hwq⟩ : ∃ wq, wq = w' := ⟨w', rfl⟩
  subst hwq
  have hall : ∀ x ∈ [⟨#[48, 120]⟩ ++ F16 ++ T, ⟨#[48, 111]⟩ ++ F8 ++ T, ⟨#[48, 98]⟩ ++ F2 ++ T, ⟨#[48, 120, 48, 48, 48, 48, 48, 48, 48, 48, 48, 48, 48, 48, 48, 48, 48, 48, 48, 48, 48, 48, 48]⟩ ++ F16, D ++ T, ⟨#[43]⟩ ++ D ++ T], FarT x := by
    intro x hx
    simp only [List.mem_cons, List.not_mem_nil, or_false] at hx
    rcases hx with rfl | rfl | rfl | rfl | rfl | rfl
    · exact P0.out
    · exact P1.out
    · exact P2.out
    · exact P3.out
    · exact P4.out
    · exact P5.out
  have H0 := Lib.hid (RX.made (P := FarT) [⟨#[48, 120]⟩ ++ F16 ++ T, ⟨#[48, 111]⟩ ++ F8 ++ T, ⟨#[48, 98]⟩ ++ F2 ++ T, ⟨#[48, 120, 48, 48, 48, 48, 48, 48, 48, 48, 48, 48, 48, 48, 48, 48, 48, 48, 48, 48, 48, 48, 48]⟩ ++ F16, D ++ T, ⟨#[43]⟩ ++ D ++ T] (cs := #[.string (⟨#[48, 120]⟩ ++ F16 ++ T), .string (⟨#[48, 111]⟩ ++ F8 ++ T), .string (⟨#[48, 98]⟩ ++ F2 ++ T), .string (⟨#[48, 120, 48, 48, 48, 48, 48, 48, 48, 48, 48, 48, 48, 48, 48, 48, 48, 48, 48, 48, 48, 48, 48]⟩ ++ F16), .string (D ++ T), .string (⟨#[43]⟩ ++ D ++ T)]) rfl HB.out hall 9)
  have HO := Lib.hid (World.ownsRow_lit (base := w.heap.size) (e := 9) (size := 1) wq #[.string (⟨#[48, 120]⟩ ++ F16 ++ T), .string (⟨#[48, 111]⟩ ++ F8 ++ T), .string (⟨#[48, 98]⟩ ++ F2 ++ T), .string (⟨#[48, 120, 48, 48, 48, 48, 48, 48, 48, 48, 48, 48, 48, 48, 48, 48, 48, 48, 48, 48, 48, 48, 48]⟩ ++ F16), .string (D ++ T), .string (⟨#[43]⟩ ++ D ++ T)] 6 HB.out.size (by simp only [maxLen]; omega) rfl)
  have HA := Lib.hid hall
  clear P0 P1 P2 P3 P4 P5 hall C16 C8 C2 CR
  generalize ⟨#[43]⟩ ++ D ++ T = x5 at *
  generalize ⟨#[48, 120, 48, 48, 48, 48, 48, 48, 48, 48, 48, 48, 48, 48, 48, 48, 48, 48, 48, 48, 48, 48, 48]⟩ ++ F16 = x3 at *
  generalize ⟨#[48, 98]⟩ ++ F2 ++ T = x2 at *
  generalize ⟨#[48, 111]⟩ ++ F8 ++ T = x1 at *
  generalize ⟨#[48, 120]⟩ ++ F16 ++ T = x0 at *
  generalize hx4 : D ++ T = x4 at *
  obtain ⟨gt, hgt⟩ : ∃ b, decide ((9223372036854775808 : Int) < (ov : Int)) = b := ⟨_, rfl⟩
  rw [hgt]
  have HGT := Lib.hid hgt
  clear hgt
  obtain ⟨i0, hi, hz0, hz1, hz2⟩ := info_parts str_info
  go_cut [7] from 45 to 58 (fun s7 w2 => ∃ g c m xs, s7 = .slice (some ⟨g, 0, none⟩) m c ∧ m ≤ 7 ∧ Hid (List.length xs = m) ∧ Hid (RX FarT w w2 g xs))
  case first =>
    have hgt := HGT.out
    cases gt
    rotate_left
    · have hov : 9223372036854775808 < ov := by have := of_decide_eq_true hgt; omega
      clear hgt
      have P7 := Lib.hid (P6.out hov)
      clear hov P6
      go_wp2_with (first
        | (go_at_call 16; (with_reducible refine (C10.out _ H0.out.below).mono ?_); rintro x w' ⟨rfl, hb'⟩; replace HO := Lib.hid (own_keep HO.out hb' (Nat.le_refl _)); replace H0 := Lib.hid (H0.out.later hb'); clear hb')
        | (at_builtin; refine wpList_append_own_at _ rfl (.tmp 45) (.tmp 51) 35 rfl w.heap.size 9 i0 (.string ⟨#[]⟩) 1 16 Tryz.underlying35 hi hz0 hz1 hz2 rfl (by decide) (.slice (some ⟨wq.heap.size, 0, none⟩) 6 6) 6 [.string x0, .string x1, .string x2, .string x3, .string x4, .string x5] rfl (own_keep HO.out (below_new1 _ _) (Nat.le_refl _)) ⟨w'.heap.size, 0, none⟩ 1 1 [.string (⟨#[45]⟩ ++ D ++ T)] rfl rfl ?c1 ?c2 ?c3 ?c4 ?c5 ?_))
      case c1 => exact news_at (heap_new1 _ _)
      case c2 => intro u hu; simp at hu; rcases hu with rfl; rfl
      case c3 => simp only [maxLen]; omega
      case c4 => omega
      case c5 => have := H0.out.below.size; simp; omega
      intro v5 w5 ho5 hg5 _ hbk5
      have hb5 : Below w.heap.size w w5 := below_grown hg5 (own_ge HO.out) (H0.out.below.alloc H0.out.below.size _) (by have := H0.out.below.size; simp; omega)
      obtain ⟨g5, c5, rfl, hR5⟩ := RX.own (P := FarT) [x0, x1, x2, x3, x4, x5, ⟨#[45]⟩ ++ D ++ T] rfl (by omega) ho5 (fun x hx => (List.mem_append (s := [x0, x1, x2, x3, x4, x5]) (t := [⟨#[45]⟩ ++ D ++ T])).1 hx |>.elim (HA.out x) fun h => by rw [List.mem_singleton] at h; rw [h]; exact P7.out) hb5
      have HR5 := Lib.hid hR5
      clear hR5 hb5 ho5 hg5 hbk5
      go_wp2
      go_meet
      case rel => exact ⟨g5, c5, 7, [x0, x1, x2, x3, x4, x5, ⟨#[45]⟩ ++ D ++ T], rfl, by omega, rfl, HR5⟩
    · clear hgt P6
      by_cases hTe : T.size = 0
      · have g1 : T.toList.isEmpty = true := by
          rw [ByteArray.toList_eq, List.length_eq_zero_iff.1 hTe]; rfl
        clear hTe
        go_wp2_with (go_at_call 17; (first
          | (with_reducible refine (is_yes ⟨#[45, 57, 50, 50, 51, 51, 55, 50, 48, 51, 54, 56, 53, 52, 55, 55, 53, 56, 48, 56]⟩ ⟨#[45, 57, 50, 50, 51, 51, 55, 50, 48, 51, 54, 56, 53, 52, 55, 55, 53, 56, 48, 56]⟩ (by decide) least_8 _ (HG.out.later H0.out.below)).mono ?_)); rintro x w' ⟨rfl, hb'⟩; replace H0 := Lib.hid (H0.out.later hb'); clear hb')
        go_meet
        case rel => exact ⟨wq.heap.size, 6, 6, [x0, x1, x2, x3, x4, x5], rfl, by omega, rfl, H0⟩
      · have g1 : T.toList.isEmpty = false := by
          rw [ByteArray.toList_eq]
          cases e : T.data.toList with
          | nil => exact absurd (by rw [← size_list, e]; rfl) hTe
          | cons c l => rfl
        clear hTe
        go_wp2_with (go_at_call 17; (first
          | (with_reducible refine (is_yes ⟨#[45, 57, 50, 50, 51, 51, 55, 50, 48, 51, 54, 56, 53, 52, 55, 55, 53, 56, 48, 56]⟩ ⟨#[45, 57, 50, 50, 51, 51, 55, 50, 48, 51, 54, 56, 53, 52, 55, 55, 53, 56, 48, 56]⟩ (by decide) least_8 _ (HG.out.later H0.out.below)).mono ?_)); rintro x w' ⟨rfl, hb'⟩; replace H0 := Lib.hid (H0.out.later hb'); clear hb')
        go_meet
        case rel => exact ⟨wq.heap.size, 6, 6, [x0, x1, x2, x3, x4, x5], rfl, by omega, rfl, H0⟩
  case rest =>
    obtain ⟨g, c, m, xs, rfl, hm7, hxl, HR⟩ := hcut
    clear H0 HO HA hi hz0 hz1 hz2 C10 P6
    go_wp2_with fail
    go_loopw [8] (fun i wr => ∃ j : Nat, j ≤ m ∧ i = .int .i64 j ∧ Hid (RX FarT w wr g xs)) (fun i _ => m - (intOf i).toNat)
    case atStart => exact ⟨0, by omega, rfl, HR⟩
    case round =>
      obtain ⟨j, hj, rfl, HR⟩ := hrel
      by_cases hlt : j < m
      · obtain ⟨x, hx⟩ : ∃ x, Hid (xs[j]? = some x) := ⟨xs[j]'(by rw [hxl.out]; exact hlt), List.getElem?_eq_getElem _⟩
        have hF := HR.out.all x (List.mem_of_getElem? hx.out)
        have FX := Lib.hid (fun w' h => fails_yes x 8 (by have := hF.2; omega) hF.1 w' h)
        have c0 := HR.out.cell j x hx.out
        clear hF
        go_wp2_with (go_at_call 18; (with_reducible refine (FX.out _ (HG.out.later HR.out.below)).mono ?_); rintro y w' ⟨rfl, hb'⟩; replace HR := Lib.hid (HR.out.later hb'); clear hb')
        go_roundw
        case rel => exact ⟨j + 1, by omega, by go_num, HR⟩
        case measure => simp [intOf]; omega
      · go_wp2_with (first
          | (go_at_call 17; (first
              | (with_reducible refine (is_yes ⟨#[57, 50, 50, 51, 51, 55, 50, 48, 51, 54, 56, 53, 52, 55, 55, 53, 56, 48, 55]⟩ ⟨#[57, 50, 50, 51, 51, 55, 50, 48, 51, 54, 56, 53, 52, 55, 55, 53, 56, 48, 55]⟩ (by decide) most_7 _ (HG.out.later HR.out.below)).mono ?_)
              | (with_reducible refine (is_yes ⟨#[48, 120, 55, 102, 102, 102, 102, 102, 102, 102, 102, 102, 102, 102, 102, 102, 102, 102]⟩ ⟨#[57, 50, 50, 51, 51, 55, 50, 48, 51, 54, 56, 53, 52, 55, 55, 53, 56, 48, 55]⟩ (by decide) most_x _ (HG.out.later HR.out.below)).mono ?_)); rintro y w' ⟨rfl, hb'⟩; replace HR := Lib.hid (HR.out.later hb'); clear hb')
          | (go_at_call 8; (with_reducible refine (lives_any _ (HG.out.later HR.out.below)).mono ?_); rintro y w' ⟨rfl, hb'⟩; replace HR := Lib.hid (HR.out.later hb'); clear hb'))
        go_ret
        exact ⟨rfl, HR.out.below⟩

end Go.Proofs.YtghjiddcbbnhpaaGreatDoor
