/- The law FloatsOrder walked; no statement of the seat is proved here. -/
import Derived.Test.YtncldnghhpdolaaGreatDoorFlO
namespace Go.Proofs.YtncldnghhpdolaaGreatDoor
open Go.RowKit

theorem fread_len {s r : ByteArray} {c : Int} (h : fltR s.data.toList = (r.data.toList, c)) : r.size ≤ 2 * s.size + 31 := by
  have h1 := flt_len s.data.toList
  rw [h] at h1
  simp only [size_list] at h1
  exact h1
theorem norm_isO {l t : List UInt8} (h : fltR l = (t, 0)) : isR t = true := by
  unfold isR
  rcases flt_norm h with rfl | rfl | rfl | h
  · rfl
  · rfl
  · rfl
  · rw [h]; simp
/-- A row of three strings, in a world that came of w0. -/
structure RB (w0 w : World) (xs : List ByteArray) : Prop where
  blk : w.heap[w0.heap.size]? = some (.cells (xs.map Value.string).toArray 9 (0, 0))
  len : xs.length = 3
  below : Below w0.heap.size w0 w
theorem RB.later {w0 w w' : World} {xs : List ByteArray} (h : RB w0 w xs) (hb : Below w.heap.size w w') : RB w0 w' xs := ⟨blk_later h.blk hb (blk_lt h.blk), h.len, h.below.trans (hb.mono h.below.size)⟩
theorem RB.cell {w0 w : World} {xs : List ByteArray} (h : RB w0 w xs) {k : Nat} {s : ByteArray} (hs : xs[k]? = some s) : w.cell? ⟨w0.heap.size, k, none⟩ = some (.string s) := by
  rw [blk_cell h.blk]; simp [hs]
theorem RB.frozen {w0 w : World} {xs : List ByteArray} (h : RB w0 w xs) (k : Nat) : w.frozen? ⟨w0.heap.size, k, none⟩ = false := blk_frozen h.blk k
theorem RB.set {w0 w : World} {xs : List ByteArray} (h : RB w0 w xs) (k : Nat) (s : ByteArray) : RB w0 (w.setCell ⟨w0.heap.size, k, none⟩ (.string s)) (xs.set k s) :=
  ⟨by rw [cset_own h.blk k (.string s)]; simp, by rw [List.length_set]; exact h.len, h.below.setCell (Nat.le_refl _) _⟩
theorem RB.new (w : World) (a b c : ByteArray) : RB w (w.alloc (.cells #[.string a, .string b, .string c] 9)) [a, b, c] := ⟨heap_new1 w _, rfl, below_new1 _ _⟩
/-- A normal form's text. -/
def Nrm (s : ByteArray) : Prop := isR s.data.toList = true ∧ s.size ≤ 549755813888
def Upto (k : Nat) (xs : List ByteArray) : Prop := ∀ j s, j < k → xs[j]? = some s → Nrm s
theorem Upto.set {k : Nat} {xs : List ByteArray} (h : Upto k xs) {s : ByteArray} (hs : Nrm s) : Upto (k + 1) (xs.set k s) := by
  intro j t hj ht
  rw [List.getElem?_set] at ht
  split at ht
  · split at ht
    · cases ht; exact hs
    · cases ht
  · exact h j t (by omega) ht

set_option maxRecDepth 100000 in
set_option maxHeartbeats 8000000 in
theorem orderlaw_walk (a b c : ByteArray) (w : World) (hG : Gl w) :
    Calls Tryz.prog 6 #[.string a, .string b, .string c] w fun e w' => e = .returned (.bool true) ∧ Below w.heap.size w w' := by
  have HG := Lib.hid hG
  clear hG
  go_enter Tryz.func6, Tryz.ntmps6
  go_wp2
  go_loopw [8] (fun i wr => ∃ k : Nat, k ≤ 3 ∧ i = .int .i64 k ∧ ∃ xs, Hid (RB w wr xs) ∧ Hid (Upto k xs)) (fun i _ => 3 - (intOf i).toNat)
  case atStart => exact ⟨0, by omega, rfl, _, RB.new w a b c, fun j s hj => by omega⟩
  case round =>
    obtain ⟨k, hk, rfl, xs, HR, HU⟩ := hrel
    by_cases hk3 : k < 3
    · obtain ⟨s, hs⟩ : ∃ s, Hid (xs[k]? = some s) := ⟨xs[k]'(by rw [HR.out.len]; exact hk3), List.getElem?_eq_getElem _⟩
      have c0 := HR.out.cell hs.out
      by_cases h300 : 300 < s.size
      · go_wp2_with (go_at_call 8; (with_reducible refine (lives_any _ (HG.out.later HR.out.below)).mono ?_); rintro x w' ⟨rfl, hb'⟩)
        go_ret
        exact ⟨rfl, (HR.out.later hb').below⟩
      · obtain ⟨t, cd, hr⟩ := fread_ex s
        have hts := fread_len hr
        have C1 := Lib.hid (fun w hG => fread_is s t cd (by omega) ((flt_eq _).trans hr) w hG)
        by_cases hcd : cd = 0
        · subst hcd
          have hi := norm_isO hr
          have HN : Hid (Nrm t) := ⟨hi, by omega⟩
          obtain ⟨p, hp⟩ : ∃ p, (!decide (t.data.toList = 45 :: infL)) = p := ⟨_, rfl⟩
          obtain ⟨q, hq⟩ : ∃ p, (!decide (t.data.toList = nanL)) = p := ⟨_, rfl⟩
          have C2 := Lib.hid (fun w hT => fis_is t true (by omega) ((is_eq _).trans hi) w hT)
          have C3 := Lib.hid (fun w hT => fless_is t t false (by omega) (by omega) (lp_self hi) w hT)
          have C4 := Lib.hid (fun w hT => fless_is t ⟨#[45, 105, 110, 102]⟩ false (by omega) (by decide) (lp_neg hi) w hT)
          have C5 := Lib.hid (fun w hT => fless_is ⟨#[110, 97, 110]⟩ t false (by decide) (by omega) (lp_nan hi) w hT)
          have C6 := Lib.hid (fun w hT => fless_is ⟨#[45, 105, 110, 102]⟩ t p (by decide) (by omega) ((lp_neg2 hi).trans hp) w hT)
          have C7 := Lib.hid (fun w hT => fless_is t ⟨#[110, 97, 110]⟩ q (by omega) (by decide) ((lp_nan2 hi).trans hq) w hT)
          have hpq : (p = false ∧ q = true ∧ (t.toList == [45, 105, 110, 102]) = true ∧ (t.toList == [110, 97, 110]) = false) ∨ (p = true ∧ q = false ∧ (t.toList == [45, 105, 110, 102]) = false ∧ (t.toList == [110, 97, 110]) = true) ∨
              (p = true ∧ q = true ∧ (t.toList == [45, 105, 110, 102]) = false ∧ (t.toList == [110, 97, 110]) = false) := by
            rw [← hp, ← hq]
            by_cases h : t.data.toList = 45 :: infL
            · have h2 : t.data.toList ≠ nanL := by rw [h]; decide
              exact .inl ⟨by rw [decide_eq_true h]; rfl, by rw [decide_eq_false h2]; rfl, beq_lit h, beq_litF h2⟩
            · by_cases h2 : t.data.toList = nanL
              · exact .inr (.inl ⟨by rw [decide_eq_false h]; rfl, by rw [decide_eq_true h2]; rfl, beq_litF h, beq_lit h2⟩)
              · exact .inr (.inr ⟨by rw [decide_eq_false h]; rfl, by rw [decide_eq_false h2]; rfl, beq_litF h, beq_litF h2⟩)
          clear hr hi hts hp hq
          rcases hpq with ⟨rfl, rfl, n1, n2⟩ | ⟨rfl, rfl, n1, n2⟩ | ⟨rfl, rfl, n1, n2⟩
          all_goals (
            go_wp2_with (first
              | (go_at_call 12; (with_reducible refine (C1.out _ (HG.out.later HR.out.below)).mono ?_); rintro x w' ⟨rfl, hb'⟩; replace HR := Lib.hid (HR.out.later hb'); clear hb')
              | (go_at_call 13; (with_reducible refine (C2.out _ (HG.out.later HR.out.below).tab).mono ?_); rintro x w' ⟨rfl, hb'⟩; replace HR := Lib.hid (HR.out.later hb'); clear hb')
              | (go_at_call 10; (first
                  | (with_reducible refine (C3.out _ (HG.out.later HR.out.below).tab).mono ?_)
                  | (with_reducible refine (C4.out _ (HG.out.later HR.out.below).tab).mono ?_)
                  | (with_reducible refine (C5.out _ (HG.out.later HR.out.below).tab).mono ?_)
                  | (with_reducible refine (C6.out _ (HG.out.later HR.out.below).tab).mono ?_)); rintro x w' ⟨rfl, hb'⟩; replace HR := Lib.hid (HR.out.later hb'); clear hb')
              | (go_at_call 10; (with_reducible refine (C7.out _ (HG.out.later HR.out.below).tab).mono ?_); rintro x w' ⟨rfl, hb'⟩; replace HR := Lib.hid (HR.out.later hb'); clear hb'; have c1 := HR.out.cell hs.out; have f1 := HR.out.frozen k))
            go_roundw
            case rel => exact ⟨k + 1, by omega, by go_num, _, HR.out.set k t, HU.out.set HN.out⟩
            case measure => simp [intOf]; omega
            )
        · have g0 : (cd != 0) = true := by simp [hcd]
          have e0 := (flt_3 hr).2 hcd
          have o1 : t.toList.isEmpty = true := by rw [ByteArray.toList_eq, e0]; rfl
          have o2 : t.toList = [] := by rw [ByteArray.toList_eq, e0]
          clear hr hcd hts e0
          go_wp2_with (first
            | (go_at_call 12; (with_reducible refine (C1.out _ (HG.out.later HR.out.below)).mono ?_); rintro x w' ⟨rfl, hb'⟩; replace HR := Lib.hid (HR.out.later hb'); clear hb')
            | (go_at_call 8; (with_reducible refine (lives_any _ (HG.out.later HR.out.below)).mono ?_); rintro x w' ⟨rfl, hb'⟩; replace HR := Lib.hid (HR.out.later hb'); clear hb'))
          go_ret
          exact ⟨rfl, HR.out.below⟩
    · obtain rfl : k = 3 := by omega
      obtain ⟨x, y, z, rfl⟩ : ∃ x y z, xs = [x, y, z] := by
        have := HR.out.len
        match xs, this with
        | [x, y, z], _ => exact ⟨x, y, z, rfl⟩
      obtain ⟨nx, sx⟩ := HU.out 0 x (by omega) rfl
      obtain ⟨ny, sy⟩ := HU.out 1 y (by omega) rfl
      obtain ⟨nz, sz⟩ := HU.out 2 z (by omega) rfl
      obtain ⟨X, hX⟩ : ∃ X, lessP x.data.toList y.data.toList = X := ⟨_, rfl⟩
      obtain ⟨Y, hY⟩ : ∃ X, lessP y.data.toList x.data.toList = X := ⟨_, rfl⟩
      obtain ⟨V, hV⟩ : ∃ X, lessP y.data.toList z.data.toList = X := ⟨_, rfl⟩
      obtain ⟨U, hU⟩ : ∃ X, lessP x.data.toList z.data.toList = X := ⟨_, rfl⟩
      have hcases : (X = true ∧ Y = false ∧ (V = false ∨ U = true) ∧ x.data.toList ≠ y.data.toList) ∨ (X = false ∧ Y = true ∧ x.data.toList ≠ y.data.toList) ∨ (X = false ∧ Y = false ∧ x = y) := by
        cases X
        · cases Y
          · exact .inr (.inr ⟨rfl, rfl, str_of (lp_total nx ny hX hY)⟩)
          · refine .inr (.inl ⟨rfl, rfl, fun e => ?_⟩)
            rw [e, lp_self ny] at hY; cases hY
        · refine .inl ⟨rfl, ?_, ?_, fun e => ?_⟩
          · cases Y
            · rfl
            · exact (lp_asym nx ny hX hY).elim
          · cases V
            · exact .inl rfl
            · exact .inr (hU.symm.trans (lp_trans nx ny nz hX hV))
          · rw [e, lp_self ny] at hX; cases hX
      obtain ⟨S, hS⟩ : ∃ S : World → Prop, S = fun w' => RB w w' [x, y, z] := ⟨_, rfl⟩
      have mk : ∀ {s t : ByteArray} {v : Bool}, s.size ≤ 549755813888 → t.size ≤ 549755813888 → lessP s.data.toList t.data.toList = v → ∀ n : Keep S, Calls Tryz.prog 10 #[.string s, .string t] n.at_ fun e w' => e = .returned (.bool v) ∧ ∃ m : Keep S, w' = m.at_ := fun {s t v} h1 h2 h3 n => calls_keep (by
        have hn : RB w n.at_ [x, y, z] := (congrFun hS n.at_).mp n.ok
        refine (fless_is s t v h1 h2 h3 _ (HG.out.later hn.below).tab).mono ?_
        rintro e w' ⟨rfl, hb⟩
        exact ⟨rfl, by rw [hS]; exact hn.later hb⟩)
      have K1 := Lib.hid (mk sx sy hX)
      have K2 := Lib.hid (mk sy sx hY)
      have K3 := Lib.hid (mk sy sz hV)
      have K4 := Lib.hid (mk sx sz hU)
      have K5 : Hid (∀ n : Keep S, Calls Tryz.prog 8 #[] n.at_ fun e w' => e = .returned (.bool true) ∧ ∃ m : Keep S, w' = m.at_) := fun n => calls_keep (by
        have hn : RB w n.at_ [x, y, z] := (congrFun hS n.at_).mp n.ok
        refine (lives_any _ (HG.out.later hn.below)).mono ?_
        rintro e w' ⟨rfl, hb⟩
        exact ⟨rfl, by rw [hS]; exact hn.later hb⟩)
      have hd : ∀ w', S w' → S w'.drew := fun w' h => by rw [hS] at h ⊢; exact ⟨h.blk, h.len, h.below.drew⟩
      have HD := Lib.hid hd
      have hb : ∀ w', S w' → Below w.heap.size w w' := fun w' h => by rw [hS] at h; exact h.below
      have HBB := Lib.hid hb
      have hn : ∀ n : Keep S, RB w n.at_ [x, y, z] := fun n => (congrFun hS n.at_).mp n.ok
      have c0 := fun n => (hn n).cell (k := 0) (s := x) rfl
      have c1 := fun n => (hn n).cell (k := 1) (s := y) rfl
      have c2 := fun n => (hn n).cell (k := 2) (s := z) rfl
      have H0 : Hid (S wr) := by rw [hS]; exact HR.out
      clear hn hb hd mk hX hY hV hU nx ny nz HU HR hS sx sy sz
      rcases hcases with ⟨rfl, rfl, hvu, hne⟩ | ⟨rfl, rfl, hne⟩ | ⟨rfl, rfl, rfl⟩
      · rcases hvu with rfl | rfl
        · cases U
          all_goals (
            have g1 := beq_str hne
            have g2 : ¬ x.toList = y.toList := by rw [ByteArray.toList_eq, ByteArray.toList_eq]; exact hne
            clear hne
            go_upto_region 13 with (fail)
            refine wp_region_keep S (by kernel_rfl) (by kernel_rfl) (HD.out _ H0.out) ?_
            intro hne
            repeat (go_big_quiet_step ((first | (go_at_call 10; first | with_reducible exact K1.out _ | with_reducible exact K2.out _ | with_reducible exact K3.out _ | with_reducible exact K4.out _) | (go_at_call 8; with_reducible exact K5.out _))))
            refine wpQuiet_nil ?_
            intro w5 hw
            obtain ⟨nn, hw⟩ := hw
            have H5 : Hid (S w5) := hw ▸ nn.ok
            clear hw nn hne
            go_upto_region 14 with (fail)
            refine wp_region_keep S (by kernel_rfl) (by kernel_rfl) (HD.out _ H5.out) ?_
            intro hne
            repeat (go_big_quiet_step ((first | (go_at_call 10; first | with_reducible exact K1.out _ | with_reducible exact K2.out _ | with_reducible exact K3.out _ | with_reducible exact K4.out _) | (go_at_call 8; with_reducible exact K5.out _))))
            refine wpQuiet_nil ?_
            intro w6 hw
            obtain ⟨nn, hw⟩ := hw
            have H6 : Hid (S w6) := hw ▸ nn.ok
            clear hw nn hne
            go_upto_region 15 with (fail)
            refine wp_region_keep S (by kernel_rfl) (by kernel_rfl) (HD.out _ H6.out) ?_
            intro hne
            repeat (go_big_quiet_step ((first | (go_at_call 10; first | with_reducible exact K1.out _ | with_reducible exact K2.out _ | with_reducible exact K3.out _ | with_reducible exact K4.out _) | (go_at_call 8; with_reducible exact K5.out _))))
            refine wpQuiet_nil ?_
            intro w7 hw
            obtain ⟨nn, hw⟩ := hw
            have H7 : Hid (S w7) := hw ▸ nn.ok
            clear hw nn hne
            go_upto_region 17 with (fail)
            refine wp_region_keep S (by kernel_rfl) (by kernel_rfl) (HD.out _ H7.out) ?_
            intro hne
            repeat (go_big_quiet_step ((first | (go_at_call 10; first | with_reducible exact K1.out _ | with_reducible exact K2.out _ | with_reducible exact K3.out _ | with_reducible exact K4.out _) | (go_at_call 8; with_reducible exact K5.out _))))
            refine wpQuiet_nil ?_
            intro w8 hw
            obtain ⟨nn, hw⟩ := hw
            have H8 : Hid (S w8) := hw ▸ nn.ok
            clear hw nn hne
            go_wp2
            go_ret
            exact ⟨rfl, HBB.out _ H8.out⟩
          )
        · cases V
          all_goals (
            have g1 := beq_str hne
            have g2 : ¬ x.toList = y.toList := by rw [ByteArray.toList_eq, ByteArray.toList_eq]; exact hne
            clear hne
            go_upto_region 13 with (fail)
            refine wp_region_keep S (by kernel_rfl) (by kernel_rfl) (HD.out _ H0.out) ?_
            intro hne
            repeat (go_big_quiet_step ((first | (go_at_call 10; first | with_reducible exact K1.out _ | with_reducible exact K2.out _ | with_reducible exact K3.out _ | with_reducible exact K4.out _) | (go_at_call 8; with_reducible exact K5.out _))))
            refine wpQuiet_nil ?_
            intro w5 hw
            obtain ⟨nn, hw⟩ := hw
            have H5 : Hid (S w5) := hw ▸ nn.ok
            clear hw nn hne
            go_upto_region 14 with (fail)
            refine wp_region_keep S (by kernel_rfl) (by kernel_rfl) (HD.out _ H5.out) ?_
            intro hne
            repeat (go_big_quiet_step ((first | (go_at_call 10; first | with_reducible exact K1.out _ | with_reducible exact K2.out _ | with_reducible exact K3.out _ | with_reducible exact K4.out _) | (go_at_call 8; with_reducible exact K5.out _))))
            refine wpQuiet_nil ?_
            intro w6 hw
            obtain ⟨nn, hw⟩ := hw
            have H6 : Hid (S w6) := hw ▸ nn.ok
            clear hw nn hne
            go_upto_region 15 with (fail)
            refine wp_region_keep S (by kernel_rfl) (by kernel_rfl) (HD.out _ H6.out) ?_
            intro hne
            repeat (go_big_quiet_step ((first | (go_at_call 10; first | with_reducible exact K1.out _ | with_reducible exact K2.out _ | with_reducible exact K3.out _ | with_reducible exact K4.out _) | (go_at_call 8; with_reducible exact K5.out _))))
            refine wpQuiet_nil ?_
            intro w7 hw
            obtain ⟨nn, hw⟩ := hw
            have H7 : Hid (S w7) := hw ▸ nn.ok
            clear hw nn hne
            go_upto_region 17 with (fail)
            refine wp_region_keep S (by kernel_rfl) (by kernel_rfl) (HD.out _ H7.out) ?_
            intro hne
            repeat (go_big_quiet_step ((first | (go_at_call 10; first | with_reducible exact K1.out _ | with_reducible exact K2.out _ | with_reducible exact K3.out _ | with_reducible exact K4.out _) | (go_at_call 8; with_reducible exact K5.out _))))
            refine wpQuiet_nil ?_
            intro w8 hw
            obtain ⟨nn, hw⟩ := hw
            have H8 : Hid (S w8) := hw ▸ nn.ok
            clear hw nn hne
            go_wp2
            go_ret
            exact ⟨rfl, HBB.out _ H8.out⟩
          )
      · (
        have g1 := beq_str hne
        have g2 : ¬ x.toList = y.toList := by rw [ByteArray.toList_eq, ByteArray.toList_eq]; exact hne
        clear hne
        go_upto_region 13 with (fail)
        refine wp_region_keep S (by kernel_rfl) (by kernel_rfl) (HD.out _ H0.out) ?_
        intro hne
        repeat (go_big_quiet_step ((first | (go_at_call 10; first | with_reducible exact K1.out _ | with_reducible exact K2.out _ | with_reducible exact K3.out _ | with_reducible exact K4.out _) | (go_at_call 8; with_reducible exact K5.out _))))
        refine wpQuiet_nil ?_
        intro w5 hw
        obtain ⟨nn, hw⟩ := hw
        have H5 : Hid (S w5) := hw ▸ nn.ok
        clear hw nn hne
        go_upto_region 14 with (fail)
        refine wp_region_keep S (by kernel_rfl) (by kernel_rfl) (HD.out _ H5.out) ?_
        intro hne
        repeat (go_big_quiet_step ((first | (go_at_call 10; first | with_reducible exact K1.out _ | with_reducible exact K2.out _ | with_reducible exact K3.out _ | with_reducible exact K4.out _) | (go_at_call 8; with_reducible exact K5.out _))))
        refine wpQuiet_nil ?_
        intro w6 hw
        obtain ⟨nn, hw⟩ := hw
        have H6 : Hid (S w6) := hw ▸ nn.ok
        clear hw nn hne
        go_upto_region 15 with (fail)
        refine wp_region_keep S (by kernel_rfl) (by kernel_rfl) (HD.out _ H6.out) ?_
        intro hne
        repeat (go_big_quiet_step ((first | (go_at_call 10; first | with_reducible exact K1.out _ | with_reducible exact K2.out _ | with_reducible exact K3.out _ | with_reducible exact K4.out _) | (go_at_call 8; with_reducible exact K5.out _))))
        refine wpQuiet_nil ?_
        intro w7 hw
        obtain ⟨nn, hw⟩ := hw
        have H7 : Hid (S w7) := hw ▸ nn.ok
        clear hw nn hne
        go_upto_region 17 with (fail)
        refine wp_region_keep S (by kernel_rfl) (by kernel_rfl) (HD.out _ H7.out) ?_
        intro hne
        repeat (go_big_quiet_step ((first | (go_at_call 10; first | with_reducible exact K1.out _ | with_reducible exact K2.out _ | with_reducible exact K3.out _ | with_reducible exact K4.out _) | (go_at_call 8; with_reducible exact K5.out _))))
        refine wpQuiet_nil ?_
        intro w8 hw
        obtain ⟨nn, hw⟩ := hw
        have H8 : Hid (S w8) := hw ▸ nn.ok
        clear hw nn hne
        go_wp2
        go_ret
        exact ⟨rfl, HBB.out _ H8.out⟩
        )
      · (
        go_upto_region 13 with (fail)
        refine wp_region_keep S (by kernel_rfl) (by kernel_rfl) (HD.out _ H0.out) ?_
        intro hne
        repeat (go_big_quiet_step ((first | (go_at_call 10; first | with_reducible exact K1.out _ | with_reducible exact K2.out _ | with_reducible exact K3.out _ | with_reducible exact K4.out _) | (go_at_call 8; with_reducible exact K5.out _))))
        refine wpQuiet_nil ?_
        intro w5 hw
        obtain ⟨nn, hw⟩ := hw
        have H5 : Hid (S w5) := hw ▸ nn.ok
        clear hw nn hne
        go_upto_region 14 with (fail)
        refine wp_region_keep S (by kernel_rfl) (by kernel_rfl) (HD.out _ H5.out) ?_
        intro hne
        repeat (go_big_quiet_step ((first | (go_at_call 10; first | with_reducible exact K1.out _ | with_reducible exact K2.out _ | with_reducible exact K3.out _ | with_reducible exact K4.out _) | (go_at_call 8; with_reducible exact K5.out _))))
        refine wpQuiet_nil ?_
        intro w6 hw
        obtain ⟨nn, hw⟩ := hw
        have H6 : Hid (S w6) := hw ▸ nn.ok
        clear hw nn hne
        go_upto_region 15 with (fail)
        refine wp_region_keep S (by kernel_rfl) (by kernel_rfl) (HD.out _ H6.out) ?_
        intro hne
        repeat (go_big_quiet_step ((first | (go_at_call 10; first | with_reducible exact K1.out _ | with_reducible exact K2.out _ | with_reducible exact K3.out _ | with_reducible exact K4.out _) | (go_at_call 8; with_reducible exact K5.out _))))
        refine wpQuiet_nil ?_
        intro w7 hw
        obtain ⟨nn, hw⟩ := hw
        have H7 : Hid (S w7) := hw ▸ nn.ok
        clear hw nn hne
        go_upto_region 17 with (fail)
        refine wp_region_keep S (by kernel_rfl) (by kernel_rfl) (HD.out _ H7.out) ?_
        intro hne
        repeat (go_big_quiet_step ((first | (go_at_call 10; first | with_reducible exact K1.out _ | with_reducible exact K2.out _ | with_reducible exact K3.out _ | with_reducible exact K4.out _) | (go_at_call 8; with_reducible exact K5.out _))))
        refine wpQuiet_nil ?_
        intro w8 hw
        obtain ⟨nn, hw⟩ := hw
        have H8 : Hid (S w8) := hw ▸ nn.ok
        clear hw nn hne
        go_wp2
        go_ret
        exact ⟨rfl, HBB.out _ H8.out⟩
        )

end Go.Proofs.YtncldnghhpdolaaGreatDoor
