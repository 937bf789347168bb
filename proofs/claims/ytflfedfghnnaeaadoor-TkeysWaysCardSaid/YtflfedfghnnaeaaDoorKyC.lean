/- Walks over package tkeys: word, Blanks; no statement of the seat is proved here. -/
import Derived.Test.YtflfedfghnnaeaaDoorKyB
import Derived.Lib.SlTrimSet
import Derived.Shelf.Strings.SlTrimAscii
namespace Go.Proofs.YtflfedfghnnaeaaDoor
open Go.RowKit

theorem ext_is (s : ByteArray) (i j : Nat) : (s.extract i j).data.toList = (s.data.toList.drop i).take (j - i) := by
  rw [ByteArray.data_extract, Array.toList_extract]
theorem bl_has : ∀ c : UInt8, ([32, 9] : List UInt8).contains c = blB c.toNat := u8_all (by decide +kernel)
theorem bl_ascii : ∀ (j : Nat) (b : UInt8), (⟨#[32, 9]⟩ : ByteArray).data.toList[j]? = some b → b.toNat < 128 := by
  intro j b h
  match j, h with
  | 0, h => cases h; decide
  | 1, h => cases h; decide
  | j + 2, h => simp at h
theorem trimB_is (s u : ByteArray) (hu : u.data.toList = s.data.toList.dropWhile fun c => blB c.toNat) (w : World) :
    Calls Tryd.prog 35 #[.string s, .string ⟨#[32, 9]⟩] w fun e w' => e = .returned (.string u) ∧ Below w.heap.size w w' := by
  have h := Any.strings_TrimLeft_laid Tryd.lays161 (by kernel_rfl) s ⟨#[32, 9]⟩ w (by decide) bl_ascii
  have e : (⟨(Lib.trimLeftS s.data.toList (⟨#[32, 9]⟩ : ByteArray).data.toList).toArray⟩ : ByteArray) = u := by
    apply ByteArray.ext
    apply Array.toList_inj.1
    rw [hu]
    unfold Lib.trimLeftS
    simp only
    congr 1
    funext c
    exact bl_has c
  rw [e] at h
  exact h
set_option maxHeartbeats 1000000 in
theorem blanks_is (s : ByteArray) (i : Nat) (hi : i ≤ s.size) (hs : s.size ≤ 1073740000) (k : Nat) (hk : blT s.data.toList i = k) (w : World) :
    Calls Tryd.prog 18 #[.string s, .int .i64 (i : Int)] w fun e w' => e = .returned (.int .i64 (k : Int)) ∧ Below w.heap.size w w' := by
  obtain ⟨u, hu⟩ : ∃ u : ByteArray, u.data.toList = (s.extract i s.size).data.toList.dropWhile fun c => blB c.toNat := ⟨⟨((s.extract i s.size).data.toList.dropWhile fun c => blB c.toNat).toArray⟩, rfl⟩
  have hku : s.size = u.size + k := by
    have e := ext_end s i
    rw [e] at hu
    have h1 : (s.data.toList.drop i).takeWhile (fun c => blB c.toNat) ++ (s.data.toList.drop i).dropWhile (fun c => blB c.toNat) = s.data.toList.drop i := List.takeWhile_append_dropWhile
    have h2 := congrArg List.length h1
    rw [List.length_append, ← hu, List.length_drop] at h2
    have h3 : u.data.toList.length = u.size := rfl
    have h4 : s.data.toList.length = s.size := rfl
    rw [← hk]
    unfold blT
    omega
  have HU := Lib.hid hu; clear hu hk
  have hki : (s.size : Int) - (u.size : Int) = (k : Int) := by omega
  have hi0 : (i : Int) ≤ (s.size : Int) := by omega
  clear hku
  go_enter Tryd.func18, Tryd.ntmps18
  go_wp2_with (go_at_call 35; (with_reducible refine (trimB_is _ u HU.out _).mono ?_); rintro e w1 ⟨rfl, hb1⟩)
  go_ret
  exact ⟨rfl, hb1⟩

set_option maxRecDepth 100000 in
set_option maxHeartbeats 2000000 in
theorem word_bare (s : ByteArray) (i j : Nat) (hl : longT s.data.toList i = false) (hb : baT s.data.toList i = j) (hij : i < j) (hj : j ≤ s.size) (hs : s.size ≤ 1073740000) (w : World) :
    Calls Tryd.prog 17 #[.string s, .int .i64 (i : Int)] w (RdPost ((s.data.toList.drop i).take (j - i), (j : Int), 0, 0) w) := by
  have HL := Lib.hid (fun w1 => long_is s i (by omega) (by omega) false hl w1)
  have hex := Lib.hid (ext_is s i j)
  have HF := Lib.hid (FB.new w 0 0)
  have HBA := Lib.hid hb; clear hl hb
  have hii : (i : Int) ≤ (j : Int) := by omega
  go_enter Tryd.func17, Tryd.ntmps17
  go_wp2_with (go_at_call 32; (with_reducible refine (HL.out _).mono ?_); rintro e w1 ⟨rfl, rfl⟩)
  go_loopg [5] (s.size + 1 - i) (fun g s5 wr => ∃ k : Nat, s5 = .int .i64 (k : Int) ∧ i ≤ k ∧ k ≤ s.size ∧ Hid (g = s.size + 1 - k) ∧ Hid (baT s.data.toList k = j) ∧ wr = w.alloc (.cells #[.int .i64 0, .int .i64 0] 33))
  case atStart => exact ⟨i, rfl, Nat.le_refl _, by omega, rfl, HBA.out, rfl⟩
  case round =>
    obtain ⟨k, rfl, hik, hk, hg, hba, rfl⟩ := hrel
    by_cases hlt : k < s.size
    · have hkl : k < s.data.toList.length := hlt
      cases hbb : bareB s[k].toNat
      · have hkj : k = j := by rw [← hba.out]; exact (baT_stop hkl hbb).symm
        subst hkj
        have hbc := fun w => bare_is s[k].toNat s[k].toNat_lt w
        rw [hbb] at hbc
        have HBC := Lib.hid hbc
        clear hbb hbc
        obtain ⟨f0, f1, g0, g1, _⟩ := HF.out.cells
        go_wp2_with (go_at_call 23; (with_reducible refine (HBC.out _).mono ?_); rintro e w2 ⟨rfl, rfl⟩)
        go_region
        all_goals (
          go_wp2
          refine bodyPost_ret (v := .tuple #[.string (s.extract i k), .int .i64 (k : Int), .agg #[.int .i64 0, .int .i64 0]]) (by simp [results, Tryd.results17, go_sem, f0, f1]) rfl ?_
          exact ⟨by rw [← hex.out], by first | exact (below_new1 w _).drew | exact (((below_new1 w _).setCell (p := ⟨w.heap.size, 0, none⟩) (Nat.le_refl _) _).setCell (p := ⟨w.heap.size, 1, none⟩) (Nat.le_refl _) _).drew⟩)
      · have hba' : Hid (baT s.data.toList (k + 1) = j) := by show _ = _; rw [← hba.out]; exact (baT_step hkl hbb).symm
        have hbc := fun w => bare_is s[k].toNat s[k].toNat_lt w
        rw [hbb] at hbc
        have HBC := Lib.hid hbc
        clear hbb hbc
        go_wp2_with (go_at_call 23; (with_reducible refine (HBC.out _).mono ?_); rintro e w2 ⟨rfl, rfl⟩)
        go_roundg (s.size + 1 - (k + 1))
        case measure => have := hg.out; omega
        case rel => exact ⟨k + 1, by go_num, by omega, by omega, rfl, hba', rfl⟩
    · have hkj : k = j := by rw [← hba.out]; exact (baT_end (by show s.size ≤ k; omega)).symm
      subst hkj
      obtain ⟨f0, f1, g0, g1, _⟩ := HF.out.cells
      go_wp2
      go_region
      all_goals (
        go_wp2
        refine bodyPost_ret (v := .tuple #[.string (s.extract i k), .int .i64 (k : Int), .agg #[.int .i64 0, .int .i64 0]]) (by simp [results, Tryd.results17, go_sem, f0, f1]) rfl ?_
        exact ⟨by rw [← hex.out], by first | exact (below_new1 w _).drew | exact (((below_new1 w _).setCell (p := ⟨w.heap.size, 0, none⟩) (Nat.le_refl _) _).setCell (p := ⟨w.heap.size, 1, none⟩) (Nat.le_refl _) _).drew⟩)

set_option maxRecDepth 100000 in
set_option maxHeartbeats 2000000 in
theorem word_quote (s : ByteArray) (i : Nat) (hl : longT s.data.toList i = false) (hb : baT s.data.toList i = i) (hi : i ≤ s.size) (hs : s.size ≤ 1073740000) (r : List UInt8 × Int × Int × Int) (w : World)
    (hr : ∀ w1 : World, Below w.heap.size w w1 → Calls Tryd.prog 12 #[.string s, .int .i64 (i : Int)] w1 (RdPost r w1)) :
    Calls Tryd.prog 17 #[.string s, .int .i64 (i : Int)] w (RdPost r w) := by
  have HL := Lib.hid (fun w1 => long_is s i (by omega) (by omega) false hl w1)
  have HF := Lib.hid (FB.new w 0 0)
  have HB1 := Lib.hid (below_new1 w (.cells #[.int .i64 0, .int .i64 0] 33))
  have HR := Lib.hid (hr _ HB1.out); clear hl hr
  obtain ⟨T, e0, c, a⟩ := r
  have hstop : i < s.size → Hid (bareB (bt s.data.toList i) = false) := fun h => by
    show _ = _
    cases hbb : bareB (bt s.data.toList i)
    · rfl
    · rw [bt_str h] at hbb
      have h1 : i < s.data.toList.length := h
      have := baT_step h1 hbb
      rw [hb] at this
      unfold baT at this
      omega
  clear hb
  go_enter Tryd.func17, Tryd.ntmps17
  go_wp2_with (go_at_call 32; (with_reducible refine (HL.out _).mono ?_); rintro e w1 ⟨rfl, rfl⟩)
  refine wp_loop_rounds 1 ?_
  rw [rounds_succ]
  by_cases hlt : i < s.size
  · have hbb := hstop hlt
    have hbc := fun w => bare_is s[i].toNat s[i].toNat_lt w
    rw [show bareB s[i].toNat = false by rw [← bt_str hlt]; exact hbb.out] at hbc
    have HBC := Lib.hid hbc
    clear hbb hbc hstop
    go_wp2_with (go_at_call 23; (with_reducible refine (HBC.out _).mono ?_); rintro e w2 ⟨rfl, rfl⟩)
    refine HR.out.mono ?_
    rintro e w2 ⟨rfl, hb2⟩
    dsimp only
    obtain ⟨f0, f1, g0, g1, _⟩ := (HF.out.keep hb2 (by simp)).cells
    go_wp2
    refine bodyPost_ret (v := .tuple #[.string ⟨T.toArray⟩, .int .i64 e0, .agg #[.int .i64 c, .int .i64 a]]) (by simp [results, Tryd.results17, go_sem, f0, f1]) rfl ?_
    exact ⟨rfl, ((HB1.out.trans (hb2.mono HB1.out.size)).setCell (p := ⟨w.heap.size, 0, none⟩) (Nat.le_refl _) _).setCell (p := ⟨w.heap.size, 1, none⟩) (Nat.le_refl _) _⟩
  · clear hstop
    go_wp2_with fail
    refine HR.out.mono ?_
    rintro e w2 ⟨rfl, hb2⟩
    dsimp only
    obtain ⟨f0, f1, g0, g1, _⟩ := (HF.out.keep hb2 (by simp)).cells
    go_wp2
    refine bodyPost_ret (v := .tuple #[.string ⟨T.toArray⟩, .int .i64 e0, .agg #[.int .i64 c, .int .i64 a]]) (by simp [results, Tryd.results17, go_sem, f0, f1]) rfl ?_
    exact ⟨rfl, ((HB1.out.trans (hb2.mono HB1.out.size)).setCell (p := ⟨w.heap.size, 0, none⟩) (Nat.le_refl _) _).setCell (p := ⟨w.heap.size, 1, none⟩) (Nat.le_refl _) _⟩

set_option maxHeartbeats 1000000 in
/-- tquotes.Read where no mark stands. -/
theorem read_none (s : ByteArray) (i : Nat) (hi : i ≤ s.size) (hs : s.size ≤ 1073740000) (h : ∀ h : i < s.size, s[i].toNat ≠ 34 ∧ s[i].toNat ≠ 39) (w : World) :
    Calls Tryd.prog 12 #[.string s, .int .i64 (i : Int)] w (RdPost ([], 0, 3, (i : Int)) w) := by
  have HF := Lib.hid (FB.new w 0 0)
  have HB1 := Lib.hid (below_new1 w (.cells #[.int .i64 0, .int .i64 0] 33))
  by_cases hlt : i < s.size
  · obtain ⟨h34, h39⟩ := h hlt
    have be : ((i : Int) == (s.size : Int)) = false := by simp; omega
    have b34 : ((s[i].toNat : Int) != 34) = true := by simp; omega
    have b39 : ((s[i].toNat : Int) != 39) = true := by simp; omega
    clear h h34 h39
    go_enter Tryd.func12, Tryd.ntmps12
    go_wp2_with fail
    refine (wrong_any _ _).mono ?_
    rintro e w3 ⟨rfl, hb3⟩
    obtain ⟨f0, f1, g0, g1, hlt3⟩ := (HF.out.keep hb3 (Nat.le_refl _)).cells
    go_wp2
    refine bodyPost_ret (v := .tuple #[.string ⟨#[]⟩, .int .i64 0, .agg #[.int .i64 3, .int .i64 (i : Int)]]) (by simp [results, Tryd.results12, go_sem, f0, f1]) rfl ?_
    exact ⟨rfl, ((HB1.out.trans (hb3.mono HB1.out.size)).setCell (p := ⟨w.heap.size, 0, none⟩) (Nat.le_refl _) _).setCell (p := ⟨w.heap.size, 1, none⟩) (Nat.le_refl _) _⟩
  · have be : ((i : Int) == (s.size : Int)) = true := by simp; omega
    clear h
    go_enter Tryd.func12, Tryd.ntmps12
    go_wp2_with fail
    refine (wrong_any _ _).mono ?_
    rintro e w3 ⟨rfl, hb3⟩
    obtain ⟨f0, f1, g0, g1, hlt3⟩ := (HF.out.keep hb3 (Nat.le_refl _)).cells
    go_wp2
    refine bodyPost_ret (v := .tuple #[.string ⟨#[]⟩, .int .i64 0, .agg #[.int .i64 3, .int .i64 (i : Int)]]) (by simp [results, Tryd.results12, go_sem, f0, f1]) rfl ?_
    exact ⟨rfl, ((HB1.out.trans (hb3.mono HB1.out.size)).setCell (p := ⟨w.heap.size, 0, none⟩) (Nat.le_refl _) _).setCell (p := ⟨w.heap.size, 1, none⟩) (Nat.le_refl _) _⟩

theorem baT_foll {l : List UInt8} {i : Nat} (h : ∀ c, (l.drop i).head? = some c → bareB c.toNat = false) : baT l i = i := by
  unfold baT
  have := tw_app (fun c => bareB c.toNat) [] (l.drop i) (by simp) h
  rw [List.nil_append] at this
  rw [this]; rfl
theorem longT_no {l : List UInt8} {i : Nat} (h : bt l i ≠ 34) (h' : bt l i ≠ 39) : longT l i = false := by
  unfold longT
  simp [h, h']
/-- A word's place. -/
theorem word_is (s : ByteArray) (i j : Nat) (t : List UInt8) (h : WordAt s.data.toList i t j) (hs : s.size ≤ 1073740000) (w : World) (hG : Glob w) :
    Calls Tryd.prog 17 #[.string s, .int .i64 (i : Int)] w (RdPost (t, (j : Int), 0, 0) w) := by
  have hle := h.le
  have hlen : s.data.toList.length = s.size := rfl
  obtain ⟨F, r, h1, h2, h3, rfl⟩ := h
  cases h2 with
  | bare h0 hb =>
    have hx := tw_app (fun c => bareB c.toNat) t r hb (fun c hc => (h3 c hc).1)
    have hba : baT s.data.toList i = i + t.length := by unfold baT; rw [h1, hx]
    have hlg : longT s.data.toList i = false := by
      cases t with
      | nil => exact absurd rfl h0
      | cons x t =>
        have b0 := bt_drop h1
        rcases bare_not x with g | g
        · rw [hb x (List.mem_cons_self ..)] at g; cases g
        · exact longT_no (by rw [b0]; exact g.2.1) (by rw [b0]; exact g.2.2.1)
    have := word_bare s i (i + t.length) hlg hba (by omega) (by omega) hs w
    rw [drop_take h1] at this
    exact this
  | basic t =>
    have hba : baT s.data.toList i = i := baT_foll (fun c hc => by rw [h1, writeQ, List.cons_append, List.head?_cons] at hc; injection hc with hc; subst hc; decide)
    have hh : t ≠ [] ∨ r.head? ≠ some 34 := .inr (fun e => (h3 _ e).2.1 rfl)
    exact word_quote s i (long_write _ t r i h1 hh) hba (by omega) hs _ w (fun w1 hb1 => read_basicW s i t r h1 hh hs w1 (hG.keep hb1 (Nat.le_refl _)))
  | lit hp =>
    have hba : baT s.data.toList i = i := baT_foll (fun c hc => by rw [h1, List.cons_append, List.head?_cons] at hc; injection hc with hc; subst hc; decide)
    exact word_quote s i (long_lit _ t r i hp h1 (fun c hc => (h3 c hc).2.2)) hba (by omega) hs _ w (fun w1 hb1 => read_litW s i t r hp h1 (fun c hc => (h3 c hc).2.2) hs w1)
/-- No word. -/
theorem word_none (s : ByteArray) (i : Nat) (h : NoneAt s.data.toList i) (hs : s.size ≤ 1073740000) (w : World) :
    Calls Tryd.prog 17 #[.string s, .int .i64 (i : Int)] w (RdPost ([], 0, 3, (i : Int)) w) := by
  obtain ⟨hi, hf⟩ := h
  have hi : i ≤ s.size := hi
  have hbs : ∀ h : i < s.size, s[i].toNat ≠ 34 ∧ s[i].toNat ≠ 39 := fun h => by
    have h1 : i < s.data.toList.length := h
    have := hf s[i] (by rw [List.drop_eq_getElem_cons h1]; rfl)
    exact this.2
  have hlg : longT s.data.toList i = false := by
    rcases Nat.lt_or_ge i s.size with h | h
    · exact longT_no (by rw [bt_str h]; exact (hbs h).1) (by rw [bt_str h]; exact (hbs h).2)
    · exact longT_no (by rw [bt_str_ge h]; decide) (by rw [bt_str_ge h]; decide)
  exact word_quote s i hlg (baT_foll fun c hc => (hf c hc).1) hi hs _ w (fun w1 _ => read_none s i hi hs hbs w1)

end Go.Proofs.YtflfedfghnnaeaaDoor
