/- The walk over the reference's Read of chapter 03, the body; no statement of the seat is proved here. -/
import Derived.Test.YtpchipmpgoflfaaDoorQuX
namespace Go.Proofs.YtpchipmpgoflfaaDoor
open Go.RowKit

theorem units_at (s : ByteArray) (hs : s.size ≤ 16777216) (us : List UnitF) (en : Int) (h : unitsQ s.data.toList = (us, en)) (w : World) :
    Calls Tryd.prog 22 #[.string s] w fun e w' => ∃ A' c', e = .returned (.tuple #[.slice A' us.length c', .int .i64 en]) ∧ w'.ownsRow w.heap.size 54 4 (.slice A' us.length c') us.length (unitCells us) ∧ Below w.heap.size w w' := by
  have := units_any s hs w
  rw [h] at this
  exact this
theorem rhigh_at (u : UnitF) (b : Bool) (h : uHigh u = b) (x0 x1 x3 : Int) (x2 : Bool) (hu : u = ⟨x0, x1, x2, x3⟩) (w : World) : Calls Tryd.prog 23 #[.agg #[.int .i64 x0, .int .i64 x1, .bool x2, .int .i64 x3]] w fun e w' => e = .returned (.bool b) ∧ Below w.heap.size w w' := by
  subst h hu; exact rhigh_any _ w
theorem rlow_at (u : UnitF) (b : Bool) (h : uLow u = b) (x0 x1 x3 : Int) (x2 : Bool) (hu : u = ⟨x0, x1, x2, x3⟩) (w : World) : Calls Tryd.prog 24 #[.agg #[.int .i64 x0, .int .i64 x1, .bool x2, .int .i64 x3]] w fun e w' => e = .returned (.bool b) ∧ Below w.heap.size w w' := by
  subst h hu; exact rlow_any _ w
theorem drop_at {us : List UnitF} {k : Nat} (h : k < us.length) : us.drop k = us[k] :: us.drop (k + 1) := List.drop_eq_getElem_cons h

set_option maxRecDepth 100000 in
set_option maxHeartbeats 2000000 in
theorem rread_any (s : ByteArray) (hs : s.size ≤ 16777216) (w : World) :
    Calls Tryd.prog 10 #[.string s] w (RdPost (readR s.data.toList) w) := by
  obtain ⟨i0, hi, hz0, hz1, hz2⟩ := info_parts put_byte
  obtain ⟨us, en, hU⟩ : ∃ us en, Hid (unitsQ s.data.toList = (us, en)) := ⟨(unitsQ s.data.toList).1, (unitsQ s.data.toList).2, rfl⟩
  obtain ⟨hok, hul⟩ := unitsQ_ok s.data.toList
  rw [hU.out] at hok hul
  dsimp only at hok hul
  have hsl : s.data.toList.length = s.size := by simp
  rw [hsl] at hul
  have HOK := Lib.hid hok; clear hok hsl
  have hR : Hid (readR s.data.toList = finR (ruR us []) en) := by show _ = _; rw [readR, hU.out]
  go_enter Tryd.func10, Tryd.ntmps10
  go_wp2_with (go_at_call 22; (with_reducible refine (units_at s hs us en hU.out _).mono ?_); rintro e w2 ⟨AU, cU, rfl, hown, hb2⟩; have hF2 := blk_later (heap_new1 w _) hb2 (by simp); have HU := Lib.hid hown; clear hown)
  have hw2 : Below w.heap.size w w2 := (below_new1 w _).trans (hb2.mono (by simp))
  have HF2 := Lib.hid hF2
  have hlt2 := blk_lt hF2
  clear hb2 hF2
  go_loopg [6, 7] us.length (fun g s6 s7 wr => ∃ k n c : Nat, ∃ A' ob, s7 = .int .i64 k ∧ s6 = .slice A' n c ∧ k ≤ us.length ∧ n ≤ 4 * k ∧ Hid (g = us.length - k) ∧ Hid (ruR (us.drop k) ob = ruR us []) ∧ Hid (OwnB wr w2.heap.size A' n c ob) ∧ Below w2.heap.size w2 wr)
  case atStart => exact ⟨0, 0, 0, none, [], rfl, rfl, by omega, by omega, rfl, rfl, OwnB.nil _ _, Below.refl _ _⟩
  case round =>
    obtain ⟨k, n, c, A', ob, rfl, rfl, hk, hn, hg, hr, hob, hbw⟩ := hrel
    have hsz := hbw.size
    have H4 : Hid (∀ m, m ≤ 4 → n + m ≤ maxLen) := by intro m hm; simp only [maxLen]; omega
    by_cases hlt : k < us.length
    · obtain ⟨u, hu⟩ : ∃ u, us[k]? = some u := ⟨_, List.getElem?_eq_getElem hlt⟩
      have hdrop : Hid (us.drop k = u :: us.drop (k + 1)) := by
        show _ = _
        obtain ⟨_, he⟩ := List.getElem?_eq_some_iff.1 hu
        rw [drop_at hlt, he]
      obtain ⟨hok1, hok2, hok3⟩ := HOK.out u (List.mem_of_getElem? hu)
      obtain ⟨gU, rfl, _, hgU, c0, c1, c2, c3⟩ := unit_cells rfl (own_keep HU.out hbw (Nat.le_refl _)) hu
      clear hu
      obtain ⟨x0, x1, x2, x3⟩ := u
      dsimp only at hok1 hok2 hok3 c0 c1 c2 c3
      cases x2 with
      | true =>
        obtain ⟨x, hx⟩ := hok1 rfl
        subst hx
        clear hok1
        have hr' : Hid (ruR (us.drop (k + 1)) (ob ++ [x]) = ruR us []) := by
          have h := hr.out
          rw [hdrop.out, ruR_byte rfl] at h
          simpa [Hid] using h
        have h255 := x.toNat_lt
        have H3 : Hid (∀ v ∈ ([.int .u8 ((x.toNat : Nat) : Int)] : List Value), v.oneCell' = true) := by intro v hv; simp at hv; subst hv; rfl
        have H6 : Hid (∀ o, w2.heap.size ≤ (wr.alloc o).heap.size) := by intro o; simp; omega
        go_wp2_with (at_builtin; refine wpList_append_own _ rfl (.tmp 24) (.tmp 31) 34 rfl w2.heap.size 5 i0 (.int .u8 0) 1 1 Tryd.underlying34 hi hz0 hz1 hz2 rfl (by decide) _ n (byteVals ob) rfl (hob.out.keep (below_new1 wr _) (Nat.le_refl _)) ⟨wr.heap.size, 0, none⟩ 1 1 [.int .u8 ((x.toNat : Nat) : Int)] rfl rfl (news_at (heap_new1 wr _)) H3.out (H4.out _ (by omega)) (by omega) (H6.out _) ?_)
        intro v3 w3 hown3 hgr3 _
        obtain ⟨A3, c3', rfl, _⟩ := own_slice hown3
        have HO : Hid (OwnB w3 w2.heap.size A3 (n + 1) c3' (ob ++ [x])) := by
          show World.ownsRow _ _ _ _ _ _ _
          rw [byteVals_app]; exact hown3
        have HB := Lib.hid (((hbw.alloc hsz _).grown hgr3 (H6.out _) hob.out.ge : Below w2.heap.size w2 w3))
        clear hown3 hgr3
        go_wp2
        go_roundg (us.length - (k + 1))
        case measure => have := hg.out; omega
        case rel => exact ⟨k + 1, n + 1, c3', A3, ob ++ [x], by go_num, rfl, by omega, by omega, rfl, hr', HO.out, HB.out⟩
      | false =>
        clear hok1
        have hmany : ∀ r, (Lib.encodeRune r).length ≤ 4 := fun r => by have := Lib.runeCells_le r; rw [Lib.runeCells_length] at this; omega
        have hmany1 : ∀ r, 1 ≤ (Lib.encodeRune r).length := fun r => by have := Lib.runeCells_le r; rw [Lib.runeCells_length] at this; omega
        have HM4 := Lib.hid hmany; have HM1 := Lib.hid hmany1; clear hmany hmany1
        cases hHi : uHigh ⟨x0, x1, false, x3⟩ with
        | true =>
          have HH : Hid (uHigh ⟨x0, x1, false, x3⟩ = true) := hHi
          clear hHi
          by_cases hl1 : k + 1 < us.length
          · obtain ⟨v, hv⟩ : ∃ v, us[k + 1]? = some v := ⟨_, List.getElem?_eq_getElem hl1⟩
            have hdrop2 : Hid (us.drop (k + 1) = v :: us.drop (k + 1 + 1)) := by
              show _ = _
              obtain ⟨_, he⟩ := List.getElem?_eq_some_iff.1 hv
              rw [drop_at hl1, he]
            obtain ⟨_, hov2, hov3⟩ := HOK.out v (List.mem_of_getElem? hv)
            obtain ⟨gV, eV, _, _, d0, d1, d2, d3⟩ := unit_cells rfl (own_keep HU.out hbw (Nat.le_refl _)) hv
            cases eV
            clear hv
            obtain ⟨y0, y1, y2, y3⟩ := v
            dsimp only at hov2 hov3 d0 d1 d2 d3
            cases hLo : uLow ⟨y0, y1, y2, y3⟩ with
            | true =>
              have HL : Hid (uLow ⟨y0, y1, y2, y3⟩ = true) := hLo
              clear hLo
              have hrng : 55296 ≤ x3 ∧ x3 ≤ 56319 := by have h := HH.out; simpa [uHigh] using h
              have hrng2 : y2 = false ∧ 56320 ≤ y3 ∧ y3 ≤ 57343 := by have h := HL.out; simpa [uLow] using h
              obtain ⟨rfl, hy1, hy2⟩ := hrng2
              obtain ⟨hx1, hx2⟩ := hrng
              have hr' : Hid (ruR (us.drop (k + 1 + 1)) (ob ++ putL [65536 + 1024 * (x3 - 55296) + y3 - 56320]) = ruR us []) := by
                have h := hr.out
                rw [hdrop.out, hdrop2.out, ruR_pair rfl HH.out HL.out] at h
                exact h
              go_wp2_with fail
              refine (rhigh_at ⟨x0, x1, false, x3⟩ true HH.out x0 x1 x3 false rfl _).mono ?_
              rintro e w3 ⟨rfl, hb3⟩
              replace c0 := cell_later hb3 c0
              replace c1 := cell_later hb3 c1
              replace c2 := cell_later hb3 c2
              replace c3 := cell_later hb3 c3
              replace d0 := cell_later hb3 d0
              replace d1 := cell_later hb3 d1
              replace d2 := cell_later hb3 d2
              replace d3 := cell_later hb3 d3
              go_wp2_with fail
              refine (rlow_at ⟨y0, y1, false, y3⟩ true HL.out y0 y1 y3 false rfl _).mono ?_
              rintro e w4 ⟨rfl, hb4⟩
              replace c0 := cell_later hb4 c0
              replace c1 := cell_later hb4 c1
              replace c2 := cell_later hb4 c2
              replace c3 := cell_later hb4 c3
              replace d0 := cell_later hb4 d0
              replace d1 := cell_later hb4 d1
              replace d2 := cell_later hb4 d2
              replace d3 := cell_later hb4 d3
              have hb34 : Below wr.heap.size wr w4 := hb3.trans (hb4.mono hb3.size)
              have hs34 := hb34.size
              have hw1 : IntKind.i64.wrap (x3 - 55296) = x3 - 55296 := IntWalk.i64_in _ (by omega)
              have hw2' : IntKind.i64.wrap (1024 * (x3 - 55296)) = 1024 * (x3 - 55296) := IntWalk.i64_in _ (by omega)
              have hw3 : IntKind.i64.wrap (65536 + 1024 * (x3 - 55296)) = 65536 + 1024 * (x3 - 55296) := IntWalk.i64_in _ (by omega)
              have hw4 : IntKind.i64.wrap (65536 + 1024 * (x3 - 55296) + y3) = 65536 + 1024 * (x3 - 55296) + y3 := IntWalk.i64_in _ (by omega)
              have hw5 : IntKind.i64.wrap (65536 + 1024 * (x3 - 55296) + y3 - 56320) = 65536 + 1024 * (x3 - 55296) + y3 - 56320 := IntWalk.i64_in _ (by omega)
              have hw6 : IntKind.i64.wrap ((k : Int) + 1) = (k : Int) + 1 := IntWalk.i64_in _ (by omega)
              have hi1 : (k : Int) + 1 < us.length := by omega
              have hi0 : (0 : Int) ≤ (k : Int) + 1 := by omega
              have hn1 : ((k : Int) + 1).toNat = k + 1 := by omega
              have hkk : (k : Int) < us.length := by omega
              have HS4 : Hid (w2.heap.size ≤ w4.heap.size) := by show _ ≤ _; omega
              have HN4 : Hid (n ≤ 268435456) := by show _ ≤ _; omega
              have HB4 := Lib.hid (hob.out.keep hb34 (Nat.le_refl _))
              go_wp2_with fail
              go_region_law (first
                | (refine step_append_lies _ rfl (.tmp 53) (.tmp 71) 34 rfl w2.heap.size 5 i0 (.int .u8 0) 1 1 Tryd.underlying34 hi hz0 hz1 hz2 rfl (by decide) (.slice A' n c) n (byteVals ob) (by simp [Act.eval]) (HB4.out.keep HX.out (Nat.le_refl _)) ⟨g5, 0, none⟩ n5 c5 (byteVals (putL [65536 + 1024 * (x3 - 55296) + y3 - 56320])) (by simp [Act.eval]) (by have h := HL5.out; rw [byteVals_len]; omega) (World.ownsRow.cells HO5.out rfl) (by intro u hu; simp [byteVals] at hu; obtain ⟨b, _, rfl⟩ := hu; rfl) HL5'.out.2 (by have := HN4.out; have := HL5'.out.1; simp only [maxLen]; omega) (by have := HN4.out; have := HL5'.out.1; omega) (Nat.le_trans HS4.out HX.out.size) w5.heap.size rfl ?_; intro g6 cp6 w6 hown6 hgr6 hlo6 hlt6; have HO6 := Lib.hid hown6; have HG6 := Lib.hid hgr6; clear hown6 hgr6 hlo6)
                | (go_simp; go_at_call 25; refine (rput_any _ [65536 + 1024 * (x3 - 55296) + y3 - 56320] 1 _ rfl (by omega) _ (IS_one (by simp) (by simp))).mono ?_; rintro e w5 ⟨A5, n5, c5, rfl, ho5, hb5⟩; have hbX : Below w4.heap.size w4 w5 := Below.trans (by repeat (first | exact Below.refl _ _ | refine Below.drew ?_ | refine Below.alloc ?_ (by simp) _)) (hb5.mono (by simp)); have hs5 := hbX.size; have hl5 := ho5.len; have h4 := HM4.out (65536 + 1024 * (x3 - 55296) + y3 - 56320); have h1 := HM1.out (65536 + 1024 * (x3 - 55296) + y3 - 56320); have hl5' : n5 ≤ 4 ∧ 1 ≤ n5 := (by rw [hl5]; simpa [putL] using And.intro h4 h1); obtain ⟨g5, cp5, e5, hg5, hlt5⟩ := World.ownsRow.form ho5 hl5'.2; injection e5 with e5a e5b e5c; subst e5a; have HO5 := Lib.hid ho5; have HL5 := Lib.hid hl5; have HL5' := Lib.hid hl5'; have HX := Lib.hid hbX; clear ho5 hl5 h4 h1 hl5' hbX hb5 e5c e5b))
              all_goals (
                clear hw1 hw2' hw3 hw4 hw5 hw6 hn1
                have hl5b := HL5'.out
                have hbW : Below w2.heap.size w2 w5 := (hbw.trans (hb34.mono hsz)).trans (HX.out.mono HS4.out)
                have HBW := Lib.hid ((hbW.grown HG6.out (Nat.le_trans HS4.out HX.out.size) hob.out.ge : Below w2.heap.size w2 w6))
                have HO : Hid (OwnB w6 w2.heap.size (some ⟨g6, 0, none⟩) (n + n5) cp6 (ob ++ putL [65536 + 1024 * (x3 - 55296) + y3 - 56320])) := by
                  show World.ownsRow _ _ _ _ _ _ _
                  rw [byteVals_app]; exact HO6.out
                go_wp2
                go_roundg (us.length - (k + 1 + 1))
                case measure => have := hg.out; omega
                case rel => exact ⟨k + 1 + 1, n + n5, cp6, _, _, by go_num, rfl, by omega, by omega, rfl, hr', HO.out, HBW.out⟩)
            | false =>
              have HL : Hid (uLow ⟨y0, y1, y2, y3⟩ = false) := hLo
              clear hLo
              have hres : Hid (readR s.data.toList = ([], 6, x0)) := by
                have h := hr.out
                rw [hdrop.out, ruR_half rfl HH.out (fun v r2 e => by rw [hdrop2.out] at e; cases e; exact HL.out)] at h
                show _ = _
                rw [hR.out, ← h]; rfl
              go_wp2_with fail
              refine (rhigh_at ⟨x0, x1, false, x3⟩ true HH.out x0 x1 x3 false rfl _).mono ?_
              rintro e w3 ⟨rfl, hb3⟩
              replace c0 := cell_later hb3 c0
              replace c1 := cell_later hb3 c1
              replace c2 := cell_later hb3 c2
              replace c3 := cell_later hb3 c3
              replace d0 := cell_later hb3 d0
              replace d1 := cell_later hb3 d1
              replace d2 := cell_later hb3 d2
              replace d3 := cell_later hb3 d3
              go_wp2_with fail
              refine (rlow_at ⟨y0, y1, y2, y3⟩ false HL.out y0 y1 y3 y2 rfl _).mono ?_
              rintro e w4 ⟨rfl, hb4⟩
              replace c0 := cell_later hb4 c0
              replace c1 := cell_later hb4 c1
              replace c2 := cell_later hb4 c2
              replace c3 := cell_later hb4 c3
              go_wp2_with fail
              refine (rhigh_at ⟨x0, x1, false, x3⟩ true HH.out x0 x1 x3 false rfl _).mono ?_
              rintro e w5 ⟨rfl, hb5⟩
              replace c0 := cell_later hb5 c0
              replace c1 := cell_later hb5 c1
              replace c2 := cell_later hb5 c2
              replace c3 := cell_later hb5 c3
              have hFr := blk_later HF2.out ((hbw.trans (hb3.mono hsz)).trans ((hb4.trans (hb5.mono hb4.size)).mono (by have := hb3.size; omega))) hlt2
              have f0 : w5.cell? ⟨w.heap.size, 0, none⟩ = some (.int .i64 0) := blk_cell hFr 0
              have f1 : w5.cell? ⟨w.heap.size, 1, none⟩ = some (.int .i64 0) := blk_cell hFr 1
              have g0 := blk_frozen hFr 0
              have g1 := blk_frozen hFr 1
              have hltr := blk_lt hFr
              have hbr : Below w.heap.size w w5 := hw2.trans (Below.mono ((hbw.trans (hb3.mono hsz)).trans ((hb4.trans (hb5.mono hb4.size)).mono (by have := hb3.size; omega))) hw2.size)
              go_wp2
              go_region
              all_goals (
                go_wp2
                refine bodyPost_ret (v := .tuple #[.string ⟨#[]⟩, .agg #[.int .i64 6, .int .i64 x0]]) (by simp [results, Tryd.results10, go_sem, f0, f1]) rfl ?_
                rw [hres.out]
                refine ⟨rfl, ?_⟩
                repeat (first | exact hbr | refine Below.drew ?_ | refine Below.setCell ?_ (by simp) _))
          · have hres : Hid (readR s.data.toList = ([], 6, x0)) := by
              have h := hr.out
              rw [hdrop.out, ruR_half rfl HH.out (fun v r2 e => by rw [List.drop_eq_nil_of_le (by omega)] at e; cases e)] at h
              show _ = _
              rw [hR.out, ← h]; rfl
            go_wp2_with fail
            refine (rhigh_at ⟨x0, x1, false, x3⟩ true HH.out x0 x1 x3 false rfl _).mono ?_
            rintro e w3 ⟨rfl, hb3⟩
            replace c0 := cell_later hb3 c0
            replace c1 := cell_later hb3 c1
            replace c2 := cell_later hb3 c2
            replace c3 := cell_later hb3 c3
            go_wp2_with fail
            refine (rhigh_at ⟨x0, x1, false, x3⟩ true HH.out x0 x1 x3 false rfl _).mono ?_
            rintro e w4 ⟨rfl, hb4⟩
            replace c0 := cell_later hb4 c0
            replace c1 := cell_later hb4 c1
            replace c2 := cell_later hb4 c2
            replace c3 := cell_later hb4 c3
            have hFr := blk_later HF2.out (hbw.trans ((hb3.trans (hb4.mono hb3.size)).mono hsz)) hlt2
            have f0 : w4.cell? ⟨w.heap.size, 0, none⟩ = some (.int .i64 0) := blk_cell hFr 0
            have f1 : w4.cell? ⟨w.heap.size, 1, none⟩ = some (.int .i64 0) := blk_cell hFr 1
            have g0 := blk_frozen hFr 0
            have g1 := blk_frozen hFr 1
            have hltr := blk_lt hFr
            have hbr : Below w.heap.size w w4 := hw2.trans (Below.mono (hbw.trans ((hb3.trans (hb4.mono hb3.size)).mono hsz)) hw2.size)
            go_wp2
            go_region
            all_goals (
              go_wp2
              refine bodyPost_ret (v := .tuple #[.string ⟨#[]⟩, .agg #[.int .i64 6, .int .i64 x0]]) (by simp [results, Tryd.results10, go_sem, f0, f1]) rfl ?_
              rw [hres.out]
              refine ⟨rfl, ?_⟩
              repeat (first | exact hbr | refine Below.drew ?_ | refine Below.setCell ?_ (by simp) _))
        | false =>
          have HH : Hid (uHigh ⟨x0, x1, false, x3⟩ = false) := hHi
          clear hHi
          cases hLo : uLow ⟨x0, x1, false, x3⟩ with
          | true =>
            have HL : Hid (uLow ⟨x0, x1, false, x3⟩ = true) := hLo
            clear hLo
            have hres : Hid (readR s.data.toList = ([], 6, x0)) := by
              have h := hr.out
              rw [hdrop.out, ruR_low rfl HH.out HL.out] at h
              show _ = _
              rw [hR.out, ← h]; rfl
            go_wp2_with fail
            refine (rhigh_at ⟨x0, x1, false, x3⟩ false HH.out x0 x1 x3 false rfl _).mono ?_
            rintro e w3 ⟨rfl, hb3⟩
            replace c0 := cell_later hb3 c0
            replace c1 := cell_later hb3 c1
            replace c2 := cell_later hb3 c2
            replace c3 := cell_later hb3 c3
            go_wp2_with fail
            refine (rhigh_at ⟨x0, x1, false, x3⟩ false HH.out x0 x1 x3 false rfl _).mono ?_
            rintro e w4 ⟨rfl, hb4⟩
            replace c0 := cell_later hb4 c0
            replace c1 := cell_later hb4 c1
            replace c2 := cell_later hb4 c2
            replace c3 := cell_later hb4 c3
            go_wp2_with fail
            refine (rlow_at ⟨x0, x1, false, x3⟩ true HL.out x0 x1 x3 false rfl _).mono ?_
            rintro e w5 ⟨rfl, hb5⟩
            replace c0 := cell_later hb5 c0
            replace c1 := cell_later hb5 c1
            replace c2 := cell_later hb5 c2
            replace c3 := cell_later hb5 c3
            have hFr := blk_later HF2.out ((hbw.trans (hb3.mono hsz)).trans ((hb4.trans (hb5.mono hb4.size)).mono (by have := hb3.size; omega))) hlt2
            have f0 : w5.cell? ⟨w.heap.size, 0, none⟩ = some (.int .i64 0) := blk_cell hFr 0
            have f1 : w5.cell? ⟨w.heap.size, 1, none⟩ = some (.int .i64 0) := blk_cell hFr 1
            have g0 := blk_frozen hFr 0
            have g1 := blk_frozen hFr 1
            have hltr := blk_lt hFr
            have hbr : Below w.heap.size w w5 := hw2.trans (Below.mono ((hbw.trans (hb3.mono hsz)).trans ((hb4.trans (hb5.mono hb4.size)).mono (by have := hb3.size; omega))) hw2.size)
            go_wp2
            go_region
            all_goals (
              go_wp2
              refine bodyPost_ret (v := .tuple #[.string ⟨#[]⟩, .agg #[.int .i64 6, .int .i64 x0]]) (by simp [results, Tryd.results10, go_sem, f0, f1]) rfl ?_
              rw [hres.out]
              refine ⟨rfl, ?_⟩
              repeat (first | exact hbr | refine Below.drew ?_ | refine Below.setCell ?_ (by simp) _))
          | false =>
            have HL : Hid (uLow ⟨x0, x1, false, x3⟩ = false) := hLo
            clear hLo
            have hr' : Hid (ruR (us.drop (k + 1)) (ob ++ putL [x3]) = ruR us []) := by
              have h := hr.out
              rw [hdrop.out, ruR_one rfl HH.out HL.out] at h
              exact h
            go_wp2_with fail
            refine (rhigh_at ⟨x0, x1, false, x3⟩ false HH.out x0 x1 x3 false rfl _).mono ?_
            rintro e w3 ⟨rfl, hb3⟩
            replace c0 := cell_later hb3 c0
            replace c1 := cell_later hb3 c1
            replace c2 := cell_later hb3 c2
            replace c3 := cell_later hb3 c3
            go_wp2_with fail
            refine (rhigh_at ⟨x0, x1, false, x3⟩ false HH.out x0 x1 x3 false rfl _).mono ?_
            rintro e w4 ⟨rfl, hb4⟩
            replace c0 := cell_later hb4 c0
            replace c1 := cell_later hb4 c1
            replace c2 := cell_later hb4 c2
            replace c3 := cell_later hb4 c3
            go_wp2_with fail
            refine (rlow_at ⟨x0, x1, false, x3⟩ false HL.out x0 x1 x3 false rfl _).mono ?_
            rintro e w5 ⟨rfl, hb5⟩
            replace c0 := cell_later hb5 c0
            replace c1 := cell_later hb5 c1
            replace c2 := cell_later hb5 c2
            replace c3 := cell_later hb5 c3
            have hb35 := hb3.trans ((hb4.trans (hb5.mono hb4.size)).mono hb3.size)
            have hs35 := hb35.size
            have hob5 := Lib.hid (hob.out.keep hb35 (Nat.le_refl _))
            go_wp2_with fail
            refine (rput_any _ [x3] 1 _ rfl (by omega) _ (IS_one (by simp) (by simp))).mono ?_
            rintro e w6 ⟨A6, n6, c6, rfl, ho6, hb6⟩
            have hbA := (below_new1 w5 (.cells #[.int .i64 x3] 3)).trans (hb6.mono (by simp))
            have hs6 := hbA.size
            have hl6 := ho6.len
            have h4 := HM4.out x3
            have HO6 := Lib.hid ho6; clear ho6
            have hl6' : n6 ≤ 4 := by rw [hl6]; simpa [putL] using h4
            have HL6 := Lib.hid hl6; clear hl6 h4
            go_wp2_with (at_builtin; refine wpList_append_bs _ rfl (.tmp 93) (.tmp 100) 34 rfl w2.heap.size 5 i0 (.int .u8 0) Tryd.underlying34 hi hz0 hz1 hz2 rfl _ n (byteVals ob) rfl (hob5.out.keep hbA (Nat.le_refl _)) w6.heap.size A6 n6 (putL [x3]) HL6.out c6 rfl HO6.out.bs (by rw [← HL6.out]; omega) (by omega) ?_)
            intro A7 c7 w7 hown7 hc7 hgr7
            have HO : Hid (OwnB w7 w2.heap.size A7 (n + n6) c7 (ob ++ putL [x3])) := by
              show World.ownsRow _ _ _ _ _ _ _
              rw [byteVals_app]; exact hown7
            have hbB : Below w2.heap.size w2 w6 := (hbw.trans (hb35.mono hsz)).trans (hbA.mono (by omega))
            have HB := Lib.hid ((hbB.grown hgr7 (by omega) hob.out.ge : Below w2.heap.size w2 w7))
            clear hown7 hgr7
            go_wp2
            go_roundg (us.length - (k + 1))
            case measure => have := hg.out; omega
            case rel => exact ⟨k + 1, n + n6, c7, A7, ob ++ putL [x3], by go_num, rfl, by omega, by omega, rfl, hr', HO.out, HB.out⟩
    · obtain rfl : k = us.length := by omega
      have hr2 : Hid (readR s.data.toList = finR (.inl ob) en) := by
        have h := hr.out
        rw [List.drop_length, ruR_nil] at h
        show _ = _
        rw [hR.out, ← h]
      have hFr := blk_later HF2.out hbw hlt2
      have f0 : wr.cell? ⟨w.heap.size, 0, none⟩ = some (.int .i64 0) := blk_cell hFr 0
      have f1 : wr.cell? ⟨w.heap.size, 1, none⟩ = some (.int .i64 0) := blk_cell hFr 1
      have g0 := blk_frozen hFr 0
      have g1 := blk_frozen hFr 1
      have hltr := blk_lt hFr
      have hbr : Below w.heap.size w wr := hw2.trans (hbw.mono hw2.size)
      by_cases hen : 0 ≤ en
      · have hres : Hid (readR s.data.toList = ([], 3, en)) := by show _ = _; rw [hr2.out]; exact if_pos hen
        go_wp2
        refine bodyPost_ret (v := .tuple #[.string ⟨#[]⟩, .agg #[.int .i64 3, .int .i64 en]]) (by simp [results, Tryd.results10, go_sem, f0, f1]) rfl ?_
        rw [hres.out]
        exact ⟨rfl, (hbr.setCell (by simp) _).setCell (by simp) _⟩
      · have hres : Hid (readR s.data.toList = (ob, 0, 0)) := by show _ = _; rw [hr2.out]; exact if_neg hen
        have hlw := hob.out.len
        have hcv := conv_bs (P := Tryd.prog) wr 34 9 5 Tryd.underlying34 Tryd.underlying5 Tryd.underlying9 hob.out.bs c
        rw [← hlw] at hcv
        clear hlw
        go_wp2
        refine bodyPost_ret (v := .tuple #[.string ⟨ob.toArray⟩, .agg #[.int .i64 0, .int .i64 0]]) (by simp [results, Tryd.results10, go_sem, f0, f1]) rfl ?_
        rw [hres.out]
        refine ⟨rfl, ?_⟩
        repeat (first | exact hbr | refine Below.drew ?_ | refine Below.setCell ?_ (by simp) _)

end Go.Proofs.YtpchipmpgoflfaaDoor
