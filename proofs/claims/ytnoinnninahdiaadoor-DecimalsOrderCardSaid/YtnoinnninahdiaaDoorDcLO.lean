/- The walk of the law DecimalsOrder; no statement of the seat is proved here. -/
import Derived.Test.YtnoinnninahdiaaDoorDcL
import Derived.Test.YtnoinnninahdiaaDoorDcO
import Derived.Test.YtnoinnninahdiaaDoorDcZ
namespace Go.Proofs.YtnoinnninahdiaaDoor
open Go.RowKit

/-- A row of three strings, in a world that came of w0. -/
structure RB (w0 w : World) (xs : List ByteArray) : Prop where
  blk : w.heap[w0.heap.size]? = some (.cells (xs.map Value.string).toArray 9 (0, 0))
  len : xs.length = 3
  below : Below w0.heap.size w0 w
theorem RB.later {w0 w w' : World} {xs : List ByteArray} (h : RB w0 w xs) (hb : Below w.heap.size w w') : RB w0 w' xs := ⟨blk_later h.blk hb (blk_lt h.blk), h.len, h.below.trans (hb.mono h.below.size)⟩
theorem RB.cell {w0 w : World} {xs : List ByteArray} (h : RB w0 w xs) {k : Nat} {s : ByteArray} (hs : xs[k]? = some s) : w.cell? ⟨w0.heap.size, k, none⟩ = some (.string s) := by
  rw [blk_cell h.blk]; simp [hs]
theorem RB.frozen {w0 w : World} {xs : List ByteArray} (h : RB w0 w xs) (k : Nat) : w.frozen? ⟨w0.heap.size, k, none⟩ = false := blk_frozen h.blk k
theorem RB.set {w0 w : World} {xs : List ByteArray} (h : RB w0 w xs) (k : Nat) (s : ByteArray) : RB w0 (w.setCell ⟨w0.heap.size, k, none⟩ (.string s)) (xs.set k s) :=
  ⟨by rw [cset_own h.blk k (.string s)]; simp, by rw [List.length_set]; exact h.len, h.below.setCell (Nat.le_refl _) _⟩
theorem RB.new (w : World) (a b c : ByteArray) : RB w (w.alloc (.cells #[.string a, .string b, .string c] 9)) [a, b, c] := ⟨heap_new1 w _, rfl, below_new1 _ _⟩
/-- A normal form's text. -/
def Nrm (s : ByteArray) : Prop := ∃ d, Norm d ∧ s.data.toList = d.text ∧ s.size ≤ 549755813888
def Upto (k : Nat) (xs : List ByteArray) : Prop := ∀ j s, j < k → xs[j]? = some s → Nrm s
theorem Upto.set {k : Nat} {xs : List ByteArray} (h : Upto k xs) {s : ByteArray} (hs : Nrm s) : Upto (k + 1) (xs.set k s) := by
  intro j t hj ht
  rw [List.getElem?_set] at ht
  split at ht
  · split at ht
    · cases ht; exact hs
    · cases ht
  · exact h j t (by omega) ht
theorem read_len {l : List UInt8} (hg : goodL l = true) : (dW (sW l)).text.length ≤ 2 * l.length + 31 := by
  have h1 := text_len (norm_dW hg)
  have h2 : (dW (sW l)).digits.length ≤ 2 * l.length + 1 := by
    unfold dW normalD
    split
    · simp [Dm.zero]
    · have h3 := rstrip_len (lstrip ((sW l).whole ++ (sW l).part))
      have h4 := lstrip_len ((sW l).whole ++ (sW l).part)
      have h5 : ((sW l).whole ++ (sW l).part).length = (wholeL l).length + (partL l).length := List.length_append
      have h6 := whole_le l
      have h7 := part_le l
      simp only; omega
  omega
/-- What is read, in full: a normal form's text that is no longer, or a code. -/
theorem read_all (s : ByteArray) (hs : s.size ≤ 100000) : (∃ (t : ByteArray) (d : Dm), Norm d ∧ t.data.toList = d.text ∧ readD s.data.toList = (t.data.toList, 0) ∧ t.size ≤ 549755813888) ∨ (∃ k : Int, readD s.data.toList = ((⟨#[]⟩ : ByteArray).data.toList, k) ∧ (k = 3 ∨ k = 7)) := by
  unfold readD
  cases okW s.data.toList
  · exact .inr ⟨3, rfl, .inl rfl⟩
  · cases hg : goodL s.data.toList
    · exact .inr ⟨7, rfl, .inr rfl⟩
    · obtain ⟨t, ht⟩ := str_ex (dW (sW s.data.toList)).text
      refine .inl ⟨t, _, norm_dW hg, ht, by rw [ht]; rfl, ?_⟩
      have := read_len hg
      rw [← ht, size_list, size_list] at this; omega
theorem nrm_told {t : ByteArray} {d : Dm} (hd : Norm d) (ht : t.data.toList = d.text) : ∃ ds, Told t.data.toList d.minus ds d.exp true := by
  obtain ⟨ds, hds⟩ := str_ex d.digits
  exact ⟨ds, by rw [Told, if_pos rfl, ht, text_parse hd, hds]⟩
theorem nrm_read {t : ByteArray} {d : Dm} (hd : Norm d) (ht : t.data.toList = d.text) : readD t.data.toList = (t.data.toList, 0) := by rw [ht]; exact text_read hd
theorem nrm_less {a b : ByteArray} {x y : Dm} (ha : Norm x) (hb : Norm y) (ea : a.data.toList = x.text) (eb : b.data.toList = y.text) : lessT a.data.toList b.data.toList = lessD x y := by rw [ea, eb]; exact lessT_text ha hb
theorem told_nil : Told (⟨#[]⟩ : ByteArray).data.toList false ⟨#[]⟩ 0 false := by rw [Told, if_neg (by simp)]; exact ⟨parse_nil, rfl, rfl, rfl⟩

set_option maxRecDepth 100000 in
set_option maxHeartbeats 4000000 in
theorem orderlaw_walk (a b c : ByteArray) (w : World) (hT : TAB w) :
    Calls Tryd.prog 5 #[.string a, .string b, .string c] w fun e w' => e = .returned (.bool true) ∧ Below w.heap.size w w' := by
  have HT := Lib.hid hT
  clear hT
  go_enter Tryd.func5, Tryd.ntmps5
  go_wp2
  go_loopw [8] (fun i wr => ∃ k : Nat, k ≤ 3 ∧ i = .int .i64 k ∧ ∃ xs, Hid (RB w wr xs) ∧ Hid (Upto k xs)) (fun i _ => 3 - (intOf i).toNat)
  case atStart => exact ⟨0, by omega, rfl, _, RB.new w a b c, fun j s hj => by omega⟩
  case round =>
    obtain ⟨k, hk, rfl, xs, HR, HU⟩ := hrel
    by_cases hk3 : k < 3
    · obtain ⟨s, hs⟩ : ∃ s, Hid (xs[k]? = some s) := ⟨xs[k]'(by rw [HR.out.len]; exact hk3), List.getElem?_eq_getElem _⟩
      have c0 := HR.out.cell hs.out
      by_cases h300 : 300 < s.size
      · go_wp2_with (go_at_call 8; (with_reducible refine (lives_any _ (HT.out.later HR.out.below)).mono ?_); rintro x w' ⟨rfl, hb'⟩)
        go_ret
        exact ⟨rfl, (HR.out.later hb').below⟩
      · rcases read_all s (by omega) with ⟨t, d, hd, ht, hr, hts⟩ | ⟨cd, hr, hcd⟩
        · have C1 := Lib.hid (fun w hT => iread_is s t 0 (by omega) hr w hT)
          obtain ⟨ds, hT⟩ := nrm_told hd ht
          have C2 := Lib.hid (fun w hT' => parts_is t ds d.minus d.exp true hts hT w hT')
          have C3 := Lib.hid (fun w hT => rd_ok t t 0 hts (nrm_read hd ht) w hT)
          have C4 := Lib.hid (fun w hT => less_is t t hts hts false (by rw [nrm_less hd hd ht ht]; exact less_self d) w hT)
          have HN : Hid (Nrm t) := ⟨d, hd, ht, hts⟩
          clear hr hT hd ht hts
          obtain ⟨dm, hdm⟩ : ∃ m, m = d.minus := ⟨_, rfl⟩
          obtain ⟨de, hde⟩ : ∃ m, m = d.exp := ⟨_, rfl⟩
          rw [← hdm, ← hde] at C2
          clear hdm hde
          go_wp2_with (first
            | (go_at_call 9; (with_reducible refine (C1.out _ (HT.out.later HR.out.below)).mono ?_); rintro x w' ⟨rfl, hb'⟩; replace HR := Lib.hid (HR.out.later hb'); clear hb')
            | (go_at_call 11; (with_reducible refine (C2.out _ (HT.out.later HR.out.below)).mono ?_); rintro x w' ⟨rfl, hb'⟩; replace HR := Lib.hid (HR.out.later hb'); clear hb')
            | (go_at_call 15; (with_reducible refine (C3.out _ (HT.out.later HR.out.below)).mono ?_); rintro x w' ⟨rfl, hb'⟩; replace HR := Lib.hid (HR.out.later hb'); clear hb')
            | (go_at_call 13; (with_reducible refine (C4.out _ (HT.out.later HR.out.below)).mono ?_); rintro x w' ⟨rfl, hb'⟩; replace HR := Lib.hid (HR.out.later hb'); clear hb'; have c1 := HR.out.cell hs.out; have f1 := HR.out.frozen k))
          go_roundw
          case rel => exact ⟨k + 1, by omega, by go_num, _, HR.out.set k t, HU.out.set HN.out⟩
          case measure => simp [intOf]; omega
        · have C1 := Lib.hid (fun w hT => iread_is s ⟨#[]⟩ cd (by omega) hr w hT)
          have C2 := Lib.hid (fun w hT' => parts_is ⟨#[]⟩ ⟨#[]⟩ false 0 false (by decide) told_nil w hT')
          have g0 : (cd != 0) = true := by rcases hcd with rfl | rfl <;> rfl
          clear hr hcd
          go_wp2_with (first
            | (go_at_call 9; (with_reducible refine (C1.out _ (HT.out.later HR.out.below)).mono ?_); rintro x w' ⟨rfl, hb'⟩; replace HR := Lib.hid (HR.out.later hb'); clear hb')
            | (go_at_call 11; (with_reducible refine (C2.out _ (HT.out.later HR.out.below)).mono ?_); rintro x w' ⟨rfl, hb'⟩; replace HR := Lib.hid (HR.out.later hb'); clear hb')
            | (go_at_call 8; (with_reducible refine (lives_any _ (HT.out.later HR.out.below)).mono ?_); rintro x w' ⟨rfl, hb'⟩; replace HR := Lib.hid (HR.out.later hb'); clear hb'))
          go_ret
          exact ⟨rfl, HR.out.below⟩
    · obtain rfl : k = 3 := by omega
      obtain ⟨x, y, z, rfl⟩ : ∃ x y z, xs = [x, y, z] := by
        have := HR.out.len
        match xs, this with
        | [x, y, z], _ => exact ⟨x, y, z, rfl⟩
      obtain ⟨dx, nx, ex, sx⟩ := HU.out 0 x (by omega) rfl
      obtain ⟨dy, ny, ey, sy⟩ := HU.out 1 y (by omega) rfl
      obtain ⟨dz, nz, ez, sz⟩ := HU.out 2 z (by omega) rfl
      obtain ⟨X, hX⟩ : ∃ X, lessD dx dy = X := ⟨_, rfl⟩
      obtain ⟨Y, hY⟩ : ∃ X, lessD dy dx = X := ⟨_, rfl⟩
      obtain ⟨V, hV⟩ : ∃ X, lessD dy dz = X := ⟨_, rfl⟩
      obtain ⟨U, hU⟩ : ∃ X, lessD dx dz = X := ⟨_, rfl⟩
      have hcases : (X = true ∧ Y = false ∧ (V = false ∨ U = true) ∧ x.data.toList ≠ y.data.toList) ∨ (X = false ∧ Y = true ∧ x.data.toList ≠ y.data.toList) ∨ (X = false ∧ Y = false ∧ x = y) := by
        have hxy : x.data.toList = y.data.toList → dx = dy := fun e => text_inj nx ny (by rw [← ex, e, ey])
        cases X
        · cases Y
          · refine .inr (.inr ⟨rfl, rfl, str_of ?_⟩)
            rw [ex, ey, less_total nx ny hX hY]
          · refine .inr (.inl ⟨rfl, rfl, fun e => ?_⟩)
            rw [hxy e, less_self] at hY; cases hY
        · refine .inl ⟨rfl, ?_, ?_, fun e => ?_⟩
          · cases Y
            · rfl
            · exact (less_asym hX hY).elim
          · cases V
            · exact .inl rfl
            · exact .inr (hU.symm.trans (less_trans hX hV))
          · rw [hxy e, less_self] at hX; cases hX
      obtain ⟨S, hS⟩ : ∃ S : World → Prop, S = fun w' => RB w w' [x, y, z] := ⟨_, rfl⟩
      have mk : ∀ {s t : ByteArray} {v : Bool}, s.size ≤ 549755813888 → t.size ≤ 549755813888 → lessT s.data.toList t.data.toList = v → ∀ n : Keep S, Calls Tryd.prog 13 #[.string s, .string t] n.at_ fun e w' => e = .returned (.bool v) ∧ ∃ m : Keep S, w' = m.at_ := fun {s t v} h1 h2 h3 n => calls_keep (by
        have hn : RB w n.at_ [x, y, z] := (congrFun hS n.at_).mp n.ok
        refine (less_is s t h1 h2 v h3 _ (HT.out.later hn.below)).mono ?_
        rintro e w' ⟨rfl, hb⟩
        exact ⟨rfl, by rw [hS]; exact hn.later hb⟩)
      have K1 := Lib.hid (mk sx sy ((nrm_less nx ny ex ey).trans hX))
      have K2 := Lib.hid (mk sy sx ((nrm_less ny nx ey ex).trans hY))
      have K3 := Lib.hid (mk sy sz ((nrm_less ny nz ey ez).trans hV))
      have K4 := Lib.hid (mk sx sz ((nrm_less nx nz ex ez).trans hU))
      have K5 : Hid (∀ n : Keep S, Calls Tryd.prog 8 #[] n.at_ fun e w' => e = .returned (.bool true) ∧ ∃ m : Keep S, w' = m.at_) := fun n => calls_keep (by
        have hn : RB w n.at_ [x, y, z] := (congrFun hS n.at_).mp n.ok
        refine (lives_any _ (HT.out.later hn.below)).mono ?_
        rintro e w' ⟨rfl, hb⟩
        exact ⟨rfl, by rw [hS]; exact hn.later hb⟩)
      have hd : ∀ w', S w' → S w'.drew := fun w' h => by rw [hS] at h ⊢; exact ⟨h.blk, h.len, h.below.drew⟩
      have HD := Lib.hid hd
      have hb : ∀ w', S w' → Below w.heap.size w w' := fun w' h => by rw [hS] at h; exact h.below
      have HBB := Lib.hid hb
      have hn : ∀ n : Keep S, RB w n.at_ [x, y, z] := fun n => (congrFun hS n.at_).mp n.ok
      have c0 := fun n => (hn n).cell (k := 0) (s := x) rfl
      have c1 := fun n => (hn n).cell (k := 1) (s := y) rfl
      have c2 := fun n => (hn n).cell (k := 2) (s := z) rfl
      have H0 : Hid (S wr) := by rw [hS]; exact HR.out
      clear hn hb hd mk hX hY hV hU nx ny nz ex ey ez HU HR hS sx sy sz
      rcases hcases with ⟨rfl, rfl, hvu, hne⟩ | ⟨rfl, rfl, hne⟩ | ⟨rfl, rfl, rfl⟩
      · rcases hvu with rfl | rfl
        · cases U
          all_goals (
            have g1 := beq_str hne
            have g2 : ¬ x.toList = y.toList := by rw [ByteArray.toList_eq, ByteArray.toList_eq]; exact hne
            clear hne
            go_upto_region 14 with (fail)
            refine wp_region_keep S (by kernel_rfl) (by kernel_rfl) (HD.out _ H0.out) ?_
            intro hne
            repeat (go_big_quiet_step ((first | (go_at_call 13; first | with_reducible exact K1.out _ | with_reducible exact K2.out _ | with_reducible exact K3.out _ | with_reducible exact K4.out _) | (go_at_call 8; with_reducible exact K5.out _))))
            refine wpQuiet_nil ?_
            intro w5 hw
            obtain ⟨nn, hw⟩ := hw
            have H5 : Hid (S w5) := hw ▸ nn.ok
            clear hw nn hne
            go_upto_region 15 with (fail)
            refine wp_region_keep S (by kernel_rfl) (by kernel_rfl) (HD.out _ H5.out) ?_
            intro hne
            repeat (go_big_quiet_step ((first | (go_at_call 13; first | with_reducible exact K1.out _ | with_reducible exact K2.out _ | with_reducible exact K3.out _ | with_reducible exact K4.out _) | (go_at_call 8; with_reducible exact K5.out _))))
            refine wpQuiet_nil ?_
            intro w6 hw
            obtain ⟨nn, hw⟩ := hw
            have H6 : Hid (S w6) := hw ▸ nn.ok
            clear hw nn hne
            go_upto_region 16 with (fail)
            refine wp_region_keep S (by kernel_rfl) (by kernel_rfl) (HD.out _ H6.out) ?_
            intro hne
            repeat (go_big_quiet_step ((first | (go_at_call 13; first | with_reducible exact K1.out _ | with_reducible exact K2.out _ | with_reducible exact K3.out _ | with_reducible exact K4.out _) | (go_at_call 8; with_reducible exact K5.out _))))
            refine wpQuiet_nil ?_
            intro w7 hw
            obtain ⟨nn, hw⟩ := hw
            have H7 : Hid (S w7) := hw ▸ nn.ok
            clear hw nn hne
            go_upto_region 18 with (fail)
            refine wp_region_keep S (by kernel_rfl) (by kernel_rfl) (HD.out _ H7.out) ?_
            intro hne
            repeat (go_big_quiet_step ((first | (go_at_call 13; first | with_reducible exact K1.out _ | with_reducible exact K2.out _ | with_reducible exact K3.out _ | with_reducible exact K4.out _) | (go_at_call 8; with_reducible exact K5.out _))))
            refine wpQuiet_nil ?_
            intro w8 hw
            obtain ⟨nn, hw⟩ := hw
            have H8 : Hid (S w8) := hw ▸ nn.ok
            clear hw nn hne
            go_wp2
            go_ret
            exact ⟨rfl, HBB.out _ H8.out⟩)
        · cases V
          all_goals (
            have g1 := beq_str hne
            have g2 : ¬ x.toList = y.toList := by rw [ByteArray.toList_eq, ByteArray.toList_eq]; exact hne
            clear hne
            go_upto_region 14 with (fail)
            refine wp_region_keep S (by kernel_rfl) (by kernel_rfl) (HD.out _ H0.out) ?_
            intro hne
            repeat (go_big_quiet_step ((first | (go_at_call 13; first | with_reducible exact K1.out _ | with_reducible exact K2.out _ | with_reducible exact K3.out _ | with_reducible exact K4.out _) | (go_at_call 8; with_reducible exact K5.out _))))
            refine wpQuiet_nil ?_
            intro w5 hw
            obtain ⟨nn, hw⟩ := hw
            have H5 : Hid (S w5) := hw ▸ nn.ok
            clear hw nn hne
            go_upto_region 15 with (fail)
            refine wp_region_keep S (by kernel_rfl) (by kernel_rfl) (HD.out _ H5.out) ?_
            intro hne
            repeat (go_big_quiet_step ((first | (go_at_call 13; first | with_reducible exact K1.out _ | with_reducible exact K2.out _ | with_reducible exact K3.out _ | with_reducible exact K4.out _) | (go_at_call 8; with_reducible exact K5.out _))))
            refine wpQuiet_nil ?_
            intro w6 hw
            obtain ⟨nn, hw⟩ := hw
            have H6 : Hid (S w6) := hw ▸ nn.ok
            clear hw nn hne
            go_upto_region 16 with (fail)
            refine wp_region_keep S (by kernel_rfl) (by kernel_rfl) (HD.out _ H6.out) ?_
            intro hne
            repeat (go_big_quiet_step ((first | (go_at_call 13; first | with_reducible exact K1.out _ | with_reducible exact K2.out _ | with_reducible exact K3.out _ | with_reducible exact K4.out _) | (go_at_call 8; with_reducible exact K5.out _))))
            refine wpQuiet_nil ?_
            intro w7 hw
            obtain ⟨nn, hw⟩ := hw
            have H7 : Hid (S w7) := hw ▸ nn.ok
            clear hw nn hne
            go_upto_region 18 with (fail)
            refine wp_region_keep S (by kernel_rfl) (by kernel_rfl) (HD.out _ H7.out) ?_
            intro hne
            repeat (go_big_quiet_step ((first | (go_at_call 13; first | with_reducible exact K1.out _ | with_reducible exact K2.out _ | with_reducible exact K3.out _ | with_reducible exact K4.out _) | (go_at_call 8; with_reducible exact K5.out _))))
            refine wpQuiet_nil ?_
            intro w8 hw
            obtain ⟨nn, hw⟩ := hw
            have H8 : Hid (S w8) := hw ▸ nn.ok
            clear hw nn hne
            go_wp2
            go_ret
            exact ⟨rfl, HBB.out _ H8.out⟩)
      · (
        have g1 := beq_str hne
        have g2 : ¬ x.toList = y.toList := by rw [ByteArray.toList_eq, ByteArray.toList_eq]; exact hne
        clear hne
        go_upto_region 14 with (fail)
        refine wp_region_keep S (by kernel_rfl) (by kernel_rfl) (HD.out _ H0.out) ?_
        intro hne
        repeat (go_big_quiet_step ((first | (go_at_call 13; first | with_reducible exact K1.out _ | with_reducible exact K2.out _ | with_reducible exact K3.out _ | with_reducible exact K4.out _) | (go_at_call 8; with_reducible exact K5.out _))))
        refine wpQuiet_nil ?_
        intro w5 hw
        obtain ⟨nn, hw⟩ := hw
        have H5 : Hid (S w5) := hw ▸ nn.ok
        clear hw nn hne
        go_upto_region 15 with (fail)
        refine wp_region_keep S (by kernel_rfl) (by kernel_rfl) (HD.out _ H5.out) ?_
        intro hne
        repeat (go_big_quiet_step ((first | (go_at_call 13; first | with_reducible exact K1.out _ | with_reducible exact K2.out _ | with_reducible exact K3.out _ | with_reducible exact K4.out _) | (go_at_call 8; with_reducible exact K5.out _))))
        refine wpQuiet_nil ?_
        intro w6 hw
        obtain ⟨nn, hw⟩ := hw
        have H6 : Hid (S w6) := hw ▸ nn.ok
        clear hw nn hne
        go_upto_region 16 with (fail)
        refine wp_region_keep S (by kernel_rfl) (by kernel_rfl) (HD.out _ H6.out) ?_
        intro hne
        repeat (go_big_quiet_step ((first | (go_at_call 13; first | with_reducible exact K1.out _ | with_reducible exact K2.out _ | with_reducible exact K3.out _ | with_reducible exact K4.out _) | (go_at_call 8; with_reducible exact K5.out _))))
        refine wpQuiet_nil ?_
        intro w7 hw
        obtain ⟨nn, hw⟩ := hw
        have H7 : Hid (S w7) := hw ▸ nn.ok
        clear hw nn hne
        go_upto_region 18 with (fail)
        refine wp_region_keep S (by kernel_rfl) (by kernel_rfl) (HD.out _ H7.out) ?_
        intro hne
        repeat (go_big_quiet_step ((first | (go_at_call 13; first | with_reducible exact K1.out _ | with_reducible exact K2.out _ | with_reducible exact K3.out _ | with_reducible exact K4.out _) | (go_at_call 8; with_reducible exact K5.out _))))
        refine wpQuiet_nil ?_
        intro w8 hw
        obtain ⟨nn, hw⟩ := hw
        have H8 : Hid (S w8) := hw ▸ nn.ok
        clear hw nn hne
        go_wp2
        go_ret
        exact ⟨rfl, HBB.out _ H8.out⟩)
      · (
        go_upto_region 14 with (fail)
        refine wp_region_keep S (by kernel_rfl) (by kernel_rfl) (HD.out _ H0.out) ?_
        intro hne
        repeat (go_big_quiet_step ((first | (go_at_call 13; first | with_reducible exact K1.out _ | with_reducible exact K2.out _ | with_reducible exact K3.out _ | with_reducible exact K4.out _) | (go_at_call 8; with_reducible exact K5.out _))))
        refine wpQuiet_nil ?_
        intro w5 hw
        obtain ⟨nn, hw⟩ := hw
        have H5 : Hid (S w5) := hw ▸ nn.ok
        clear hw nn hne
        go_upto_region 15 with (fail)
        refine wp_region_keep S (by kernel_rfl) (by kernel_rfl) (HD.out _ H5.out) ?_
        intro hne
        repeat (go_big_quiet_step ((first | (go_at_call 13; first | with_reducible exact K1.out _ | with_reducible exact K2.out _ | with_reducible exact K3.out _ | with_reducible exact K4.out _) | (go_at_call 8; with_reducible exact K5.out _))))
        refine wpQuiet_nil ?_
        intro w6 hw
        obtain ⟨nn, hw⟩ := hw
        have H6 : Hid (S w6) := hw ▸ nn.ok
        clear hw nn hne
        go_upto_region 16 with (fail)
        refine wp_region_keep S (by kernel_rfl) (by kernel_rfl) (HD.out _ H6.out) ?_
        intro hne
        repeat (go_big_quiet_step ((first | (go_at_call 13; first | with_reducible exact K1.out _ | with_reducible exact K2.out _ | with_reducible exact K3.out _ | with_reducible exact K4.out _) | (go_at_call 8; with_reducible exact K5.out _))))
        refine wpQuiet_nil ?_
        intro w7 hw
        obtain ⟨nn, hw⟩ := hw
        have H7 : Hid (S w7) := hw ▸ nn.ok
        clear hw nn hne
        go_upto_region 18 with (fail)
        refine wp_region_keep S (by kernel_rfl) (by kernel_rfl) (HD.out _ H7.out) ?_
        intro hne
        repeat (go_big_quiet_step ((first | (go_at_call 13; first | with_reducible exact K1.out _ | with_reducible exact K2.out _ | with_reducible exact K3.out _ | with_reducible exact K4.out _) | (go_at_call 8; with_reducible exact K5.out _))))
        refine wpQuiet_nil ?_
        intro w8 hw
        obtain ⟨nn, hw⟩ := hw
        have H8 : Hid (S w8) := hw ▸ nn.ok
        clear hw nn hne
        go_wp2
        go_ret
        exact ⟨rfl, HBB.out _ H8.out⟩)

end Go.Proofs.YtnoinnninahdiaaDoor
