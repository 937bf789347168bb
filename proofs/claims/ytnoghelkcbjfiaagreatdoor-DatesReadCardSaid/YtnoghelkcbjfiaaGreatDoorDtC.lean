/- Walks over package dates: split, Long; no statement of the seat is proved here. -/
import Derived.Test.YtnoghelkcbjfiaaGreatDoorDtB
import Derived.Deep.RegionWith
import Derived.StillTailTactics
namespace Go.Proofs.YtnoghelkcbjfiaaGreatDoor
open Go.RowKit

theorem cset_own {n : Nat} {w : World} {cs : Array Value} {T : TypeId} {fz : Nat × Nat} (h : w.heap[n]? = some (.cells cs T fz)) (k : Nat) (v : Value) : (w.setCell ⟨n, k, none⟩ v).heap[n]? = some (.cells (cs.setIfInBounds k v) T fz) := by
  simp [World.setCell, Array.getElem?_modify, h]
theorem isC_drop (l : List UInt8) (i j : Nat) : isC (l.drop i) j = isC l (i + j) := by simp [isC, tw, dg, bt_drop, Nat.add_assoc]
theorem isZ_drop (l : List UInt8) (i j : Nat) : isZ (l.drop i) j = isZ l (i + j) := by simp [isZ, tw, dg, bt_drop, Nat.add_assoc]
theorem partN_drop (l : List UInt8) (i j : Nat) : partN (l.drop i) j = partN l (i + j) := by simp [partN, runD, bt_drop, Nat.add_assoc]
theorem zoneN_drop (l : List UInt8) (i j : Nat) : zoneN (l.drop i) j = zoneN l (i + j) := by simp [zoneN, bt_drop, isZ_drop, Nat.add_assoc]

/-- The block of a text's parts. -/
def CB (w : World) (n : Nat) (d t p z : ByteArray) (e : Int) : Prop := w.heap[n]? = some (.cells #[.string d, .string t, .string p, .string z, .int .i64 e] 33 (0, 0))
theorem CB.facts {w : World} {n : Nat} {d t p z : ByteArray} {e : Int} (h : CB w n d t p z e) :
    w.cell? ⟨n, 0, none⟩ = some (.string d) ∧ w.cell? ⟨n, 1, none⟩ = some (.string t) ∧ w.cell? ⟨n, 2, none⟩ = some (.string p) ∧ w.cell? ⟨n, 3, none⟩ = some (.string z) ∧ w.cell? ⟨n, 4, none⟩ = some (.int .i64 e) ∧ (∀ i, w.frozen? ⟨n, i, none⟩ = false) ∧ n < w.heap.size :=
  ⟨blk_cell h 0, blk_cell h 1, blk_cell h 2, blk_cell h 3, blk_cell h 4, fun i => blk_frozen h i, blk_lt h⟩
theorem CB.later {w w' : World} {n : Nat} {d t p z : ByteArray} {e : Int} (h : CB w n d t p z e) (hb : Below w.heap.size w w') : CB w' n d t p z e := blk_later h hb (blk_lt h)
theorem CB.set0 {w : World} {n : Nat} {d t p z : ByteArray} {e : Int} (h : CB w n d t p z e) (x : ByteArray) : CB (w.setCell ⟨n, 0, none⟩ (.string x)) n x t p z e := cset_own h 0 _
theorem CB.set1 {w : World} {n : Nat} {d t p z : ByteArray} {e : Int} (h : CB w n d t p z e) (x : ByteArray) : CB (w.setCell ⟨n, 1, none⟩ (.string x)) n d x p z e := cset_own h 1 _
theorem CB.set2 {w : World} {n : Nat} {d t p z : ByteArray} {e : Int} (h : CB w n d t p z e) (x : ByteArray) : CB (w.setCell ⟨n, 2, none⟩ (.string x)) n d t x z e := cset_own h 2 _
theorem CB.set3 {w : World} {n : Nat} {d t p z : ByteArray} {e : Int} (h : CB w n d t p z e) (x : ByteArray) : CB (w.setCell ⟨n, 3, none⟩ (.string x)) n d t p x e := cset_own h 3 _
theorem CB.set4 {w : World} {n : Nat} {d t p z : ByteArray} {e : Int} (h : CB w n d t p z e) (x : Int) : CB (w.setCell ⟨n, 4, none⟩ (.int .i64 x)) n d t p z x := cset_own h 4 _
theorem CB.new (w : World) : CB (w.alloc (.cells #[.string ⟨#[]⟩, .string ⟨#[]⟩, .string ⟨#[]⟩, .string ⟨#[]⟩, .int .i64 0] 33)) w.heap.size ⟨#[]⟩ ⟨#[]⟩ ⟨#[]⟩ ⟨#[]⟩ 0 := heap_new1 w _
theorem set5 {B n : Nat} {w0 w : World} (h : Below B w0 w) (hn : B ≤ n) (a b c d e : Value) : Below B w0 (((((w.setCell ⟨n, 0, none⟩ a).setCell ⟨n, 1, none⟩ b).setCell ⟨n, 2, none⟩ c).setCell ⟨n, 3, none⟩ d).setCell ⟨n, 4, none⟩ e) :=
  ((((h.setCell hn _).setCell hn _).setCell hn _).setCell hn _).setCell hn _
theorem ext3 {s : ByteArray} (_h : 10 ≤ s.size) : ((s.extract 10 s.size).extract 1 (s.size - 10)).data.toList = s.data.toList.drop 11 := by
  rw [ext_list, ext_end, List.drop_drop, List.take_of_length_le (by rw [List.length_drop, size_list]; omega)]
theorem ret_cut {d t p z : ByteArray} {e e' : Int} (h : e = e') : Ending.returned (.agg #[.string d, .string t, .string p, .string z, .int .i64 e]) = .returned (.agg #[.string d, .string t, .string p, .string z, .int .i64 e']) := by rw [h]

theorem res_split {w : World} {n : Nat} {d t p z : ByteArray} {e : Int} (h : CB w n d t p z e) (a : Array Value) (ha : a[2]?.getD undef = .pointer (some ⟨n, 0, none⟩)) :
    (results Tryz.f13 a).run Tryz.prog w = .ok (.agg #[.string d, .string t, .string p, .string z, .int .i64 e]) w := by
  obtain ⟨x0, x1, x2, x3, x4, _, _⟩ := h.facts
  simp [results, Tryz.results13, go_sem, ha, x0, x1, x2, x3, x4]
theorem dateF_at (s d : ByteArray) (hs : s.size ≤ 1099511627776) (hd : d.data.toList = formL s.data.toList dateF) (w : World) :
    Calls Tryz.prog 18 #[.string s, .string ⟨#[57, 57, 57, 57, 45, 57, 57, 45, 57, 57]⟩] w fun e w' => e = .returned (.string d) ∧ Below w.heap.size w w' :=
  form_is s ⟨#[57, 57, 57, 57, 45, 57, 57, 45, 57, 57]⟩ d hs (by decide) (by decide) hd w

set_option maxHeartbeats 1000000 in
theorem split_no (s t p : ByteArray) (e : Nat) (hs : s.size ≤ 549755813888) (hD : isD s.data.toList 0 = false) (ht : t.data.toList = (spl s.data.toList).timeL s.data.toList) (hp : p.data.toList = (spl s.data.toList).partL s.data.toList) (he : (spl s.data.toList).long = e) (w : World) :
    Calls Tryz.prog 13 #[.string s] w fun x w' => x = .returned (.agg #[.string ⟨#[]⟩, .string t, .string p, .string ⟨#[]⟩, .int .i64 (e : Int)]) ∧ Below w.heap.size w w' := by
  have hs : s.size ≤ 1099511627776 := by omega
  have hF := Lib.hid (fun w => dateF_at s ⟨#[]⟩ hs (by rw [formL, if_neg]; rw [← List.drop_zero (l := s.data.toList), fit_dt, hD]; simp) w)
  have hT : t.data.toList = formL s.data.toList timeF := by
    rw [ht, formL, ← List.drop_zero (l := s.data.toList), fit_tm, List.drop_zero]
    cases hC : isC s.data.toList 0 <;> simp [Parts.timeL, spl, hD, hC, timeF]
  have hP : p.data.toList = (s.data.toList.drop 9).take (if isC s.data.toList 0 then partN s.data.toList 8 else 0) := by
    rw [hp]
    cases hC : isC s.data.toList 0 <;> simp [Parts.partL, spl, hD, hC]
  have hC := Lib.hid (fun w => clock_is0 s t p hs hT hP w)
  have htl : t.size ≤ s.size := by
    have h1 : t.data.toList.length = t.size := rfl
    have h2 : s.data.toList.length = s.size := rfl
    rw [hT, formL] at h1
    split at h1
    · rw [List.length_take] at h1; omega
    · simp at h1; omega
  have hpl : p.size ≤ s.size := by
    have h1 : p.data.toList.length = p.size := rfl
    have h2 : s.data.toList.length = s.size := rfl
    rw [hP, List.length_take, List.length_drop] at h1; omega
  have hA := Lib.hid (fun w => after_is t p (by omega) (by omega) w)
  have hE : Hid ((t.size : Int) + (pN p.size : Nat) = (e : Int)) := by
    show _ = _
    rw [← he]
    have h1 : t.data.toList.length = t.size := rfl
    have h2 : p.data.toList.length = p.size := rfl
    rw [hT, formL, ← List.drop_zero (l := s.data.toList), fit_tm, List.drop_zero] at h1
    rw [hP] at h2
    cases hC : isC s.data.toList 0
    · rw [hC] at h1 h2
      simp at h1 h2
      simp [Parts.long, spl, hD, hC, ← h1, ← h2, pN]
    · rw [hC] at h1 h2
      simp only [if_true] at h1 h2
      have h8 := isC_len hC
      have hpn : partN s.data.toList 8 ≤ s.data.toList.length - 9 := by
        unfold partN; split
        · exact runD_le _ _
        · omega
      rw [List.length_take] at h1
      rw [List.length_take, List.length_drop, Nat.min_eq_left hpn] at h2
      have h3 : timeF.length = 8 := rfl
      rw [h3] at h1
      simp only [Parts.long, spl, hD, hC, Parts.zAt, if_true, Bool.false_eq_true, if_false]
      rw [← h2]; omega
  clear hT hP ht hp he hD
  go_enter Tryz.func13, Tryz.ntmps13
  go_wp2_with (first
    | (go_at_call 18; (with_reducible refine (hF.out _).mono ?_); rintro x w1 ⟨rfl, hb1⟩; have H1 := Lib.hid ((CB.new w).later hb1); obtain ⟨c0, c1, c2, c3, c4, cf, cz⟩ := H1.out.facts; have HB1 : Hid (Below w.heap.size w w1) := (below_new1 w _).trans (hb1.mono (by simp)))
    | (go_at_call 19; (with_reducible refine (hC.out _).mono ?_); rintro x w2 ⟨rfl, hb2⟩; have H2 := Lib.hid ((H1.out.set0 ⟨#[]⟩).later hb2); obtain ⟨d0, d1, d2, d3, d4, df, dz⟩ := H2.out.facts; have HB2 : Hid (Below w.heap.size w w2) := (HB1.out.setCell (Nat.le_refl _) _).trans (hb2.mono (by simp; omega)))
    | (go_at_call 20; (with_reducible refine (hA.out _).mono ?_); rintro x w3 ⟨rfl, rfl⟩))
  refine bodyPost_ret (v := .agg #[.string ⟨#[]⟩, .string t, .string p, .string ⟨#[]⟩, .int .i64 ((t.size : Int) + (pN p.size : Nat))]) (res_split ((((((((H2.out.set1 t).set2 p).set4 _).set0 _).set1 _).set2 _).set3 _).set4 _) _ rfl) rfl ⟨ret_cut hE.out, ?_⟩
  exact set5 (((HB2.out.setCell (Nat.le_refl _) _).setCell (Nat.le_refl _) _).setCell (Nat.le_refl _) _) (Nat.le_refl _) _ _ _ _ _

theorem ixM (c : Int) (x : UInt8) (hc : c = (x.toNat : Int)) (v : Int) (hv : Lib.indexByte [84, 116, 32] x = v) (w : World) :
    Calls Tryz.prog 21 #[.string ⟨#[84, 116, 32]⟩, .int .u8 c] w fun e w' => e = .returned (.int .i64 v) ∧ w = w' := by
  have h := Tryz.strings_IndexByte ⟨#[84, 116, 32]⟩ c w
  subst hc hv
  have e : ((x.toNat : Int)).toNat.toUInt8 = x := by simp
  rw [e] at h
  exact h.mono fun _ _ ⟨h1, h2⟩ => ⟨h1, h2.symm⟩
theorem mid_has : ∀ x : UInt8, decide (x.toNat = 84 ∨ x.toNat = 116 ∨ x.toNat = 32) = ([84, 116, 32] : List UInt8).contains x := u8_all (by decide +kernel)
theorem str_get (u : ByteArray) (i : Nat) (h : i < u.size) : u.data.toList[i]? = some (u[i]'h) := List.getElem?_eq_getElem (l := u.data.toList) (i := i) h
theorem ext_ix (s : ByteArray) (h : 10 < s.size) (hx : 0 < (s.extract 10 s.size).size) : (s.extract 10 s.size)[0]'hx = s[10] := by
  have h1 : (s.extract 10 s.size).data.toList[0]? = s.data.toList[10]? := by rw [ext_end, List.getElem?_drop]
  generalize s.extract 10 s.size = u at h1 hx ⊢
  rw [str_get u 0 hx, str_get s 10 h] at h1
  exact Option.some.inj h1
theorem mid_ix (s : ByteArray) (h : 10 < s.size) : ∃ v : Int, (∀ hx : 0 < (s.extract 10 s.size).size, Lib.indexByte [84, 116, 32] ((s.extract 10 s.size)[0]'hx) = v) ∧ decide (0 ≤ v) = midB s.data.toList := by
  refine ⟨Lib.indexByte [84, 116, 32] s[10], fun hx => by rw [ext_ix s h hx], ?_⟩
  rw [index_mem, ← mid_has, midB, bt_lt (show 10 < s.data.toList.length from h), run_idx]

set_option maxHeartbeats 1000000 in
theorem split_day (s d : ByteArray) (hs : s.size ≤ 549755813888) (hD : isD s.data.toList 0 = true) (hM : (midB s.data.toList && isC s.data.toList 11) = false) (hd : d.data.toList = s.data.toList.take 10) (w : World) :
    Calls Tryz.prog 13 #[.string s] w fun x w' => x = .returned (.agg #[.string d, .string ⟨#[]⟩, .string ⟨#[]⟩, .string ⟨#[]⟩, .int .i64 10]) ∧ Below w.heap.size w w' := by
  have hs : s.size ≤ 1099511627776 := by omega
  have h10 := isD_len hD
  have h10s : 10 ≤ s.size := by have h : s.data.toList.length = s.size := rfl; omega
  have hd10 : d.size = 10 := by have h : d.data.toList.length = d.size := rfl; rw [hd, List.length_take] at h; omega
  have hF := Lib.hid (fun w => dateF_at s d hs (by rw [formL, if_pos]; exact hd; rw [← List.drop_zero (l := s.data.toList), fit_dt, hD]) w)
  obtain ⟨n1, n2⟩ := str_full (t := d) (by omega)
  clear h10 hd
  rcases Nat.eq_or_lt_of_le h10s with h | h
  · have m1 : (s.extract 10 s.size).toList = [] := by rw [ByteArray.toList_eq, ext_end, List.drop_eq_nil_of_le (by rw [size_list]; omega)]
    clear h hM hD
    go_enter Tryz.func13, Tryz.ntmps13
    go_wp2_with (first
      | (go_at_call 18; (with_reducible refine (hF.out _).mono ?_); rintro x w1 ⟨rfl, hb1⟩; have H1 := Lib.hid ((CB.new w).later hb1); obtain ⟨c0, c1, c2, c3, c4, cf, cz⟩ := H1.out.facts; have HB1 : Hid (Below w.heap.size w w1) := (below_new1 w _).trans (hb1.mono (by simp))))
    refine bodyPost_ret (v := .agg #[.string d, .string ⟨#[]⟩, .string ⟨#[]⟩, .string ⟨#[]⟩, .int .i64 10]) (res_split (((((((H1.out.set0 _).set4 _).set0 _).set1 _).set2 _).set3 _).set4 _) _ rfl) rfl ⟨rfl, ?_⟩
    exact set5 ((HB1.out.setCell (Nat.le_refl _) _).setCell (Nat.le_refl _) _) (Nat.le_refl _) _ _ _ _ _
  · obtain ⟨m1, m2⟩ := str_full (t := s.extract 10 s.size) (by rw [ByteArray.size_extract]; omega)
    obtain ⟨v, hv, hvm⟩ := mid_ix s h
    have HV := Lib.hid hv; clear hv
    cases hm : midB s.data.toList
    · rw [hm] at hvm
      have hv0 : v < 0 := by simpa using hvm
      clear hvm hm hM hD
      go_enter Tryz.func13, Tryz.ntmps13
      go_wp2_with (first
        | (go_at_call 18; (with_reducible refine (hF.out _).mono ?_); rintro x w1 ⟨rfl, hb1⟩; have H1 := Lib.hid ((CB.new w).later hb1); obtain ⟨c0, c1, c2, c3, c4, cf, cz⟩ := H1.out.facts; have HB1 : Hid (Below w.heap.size w w1) := (below_new1 w _).trans (hb1.mono (by simp)))
        | (go_at_call 21; (with_reducible refine (ixM _ _ rfl _ (HV.out _) _).mono ?_); rintro x w2 ⟨rfl, rfl⟩))
      refine bodyPost_ret (v := .agg #[.string d, .string ⟨#[]⟩, .string ⟨#[]⟩, .string ⟨#[]⟩, .int .i64 10]) (res_split (((((((H1.out.set0 _).set4 _).set0 _).set1 _).set2 _).set3 _).set4 _) _ rfl) rfl ⟨rfl, ?_⟩
      exact set5 ((HB1.out.setCell (Nat.le_refl _) _).setCell (Nat.le_refl _) _) (Nat.le_refl _) _ _ _ _ _
    · rw [hm] at hvm
      have hv0 : 0 ≤ v := by simpa using hvm
      have hC0 : isC s.data.toList 11 = false := by rw [hm] at hM; simpa using hM
      have hC := Lib.hid (fun w => clock_is0 ((s.extract 10 s.size).extract 1 (s.size - 10)) ⟨#[]⟩ ⟨#[]⟩ (by rw [ByteArray.size_extract, ByteArray.size_extract]; omega)
        (by rw [ext3 h10s, formL, if_neg]; rw [fit_tm, hC0]; simp) (by rw [ext3 h10s, isC_drop, hC0]; simp) w)
      clear hvm hm hM hD hC0
      go_enter Tryz.func13, Tryz.ntmps13
      go_wp2_with (first
        | (go_at_call 18; (with_reducible refine (hF.out _).mono ?_); rintro x w1 ⟨rfl, hb1⟩; have H1 := Lib.hid ((CB.new w).later hb1); obtain ⟨c0, c1, c2, c3, c4, cf, cz⟩ := H1.out.facts; have HB1 : Hid (Below w.heap.size w w1) := (below_new1 w _).trans (hb1.mono (by simp)))
        | (go_at_call 21; (with_reducible refine (ixM _ _ rfl _ (HV.out _) _).mono ?_); rintro x w2 ⟨rfl, rfl⟩)
        | (go_at_call 19; (with_reducible refine (hC.out _).mono ?_); rintro x w2 ⟨rfl, hb2⟩; have H2 := Lib.hid (((H1.out.set0 d).set4 10).later hb2); obtain ⟨d0, d1, d2, d3, d4, df, dz⟩ := H2.out.facts; have HB2 : Hid (Below w.heap.size w w2) := ((HB1.out.setCell (Nat.le_refl _) _).setCell (Nat.le_refl _) _).trans (hb2.mono (by simp; omega))))
      refine bodyPost_ret (v := .agg #[.string d, .string ⟨#[]⟩, .string ⟨#[]⟩, .string ⟨#[]⟩, .int .i64 10]) (res_split (((((((H2.out.set1 _).set2 _).set0 _).set1 _).set2 _).set3 _).set4 _) _ rfl) rfl ⟨rfl, ?_⟩
      exact set5 ((HB2.out.setCell (Nat.le_refl _) _).setCell (Nat.le_refl _) _) (Nat.le_refl _) _ _ _ _ _

end Go.Proofs.YtnoghelkcbjfiaaGreatDoor
