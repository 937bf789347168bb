/- Walks over package decimals: Read, parse; no statement of the seat is proved here. -/
import Derived.Test.YtncldnghhpdolaaGreatDoorDcC
namespace Go.Proofs.YtncldnghhpdolaaGreatDoor
open Go.RowKit

/-- The parts of a text, as strings. -/
structure WS (s wh pa sg po : ByteArray) : Prop where
  wh : wh.data.toList = wholeL s.data.toList
  pa : pa.data.toList = partL s.data.toList
  sg : sg.data.toList = signL s.data.toList
  po : po.data.toList = powerL s.data.toList
theorem WS.ex (s : ByteArray) : ∃ wh pa sg po, WS s wh pa sg po := by
  obtain ⟨a, ha⟩ := str_ex (wholeL s.data.toList)
  obtain ⟨b, hb⟩ := str_ex (partL s.data.toList)
  obtain ⟨c, hc⟩ := str_ex (signL s.data.toList)
  obtain ⟨d, hd⟩ := str_ex (powerL s.data.toList)
  exact ⟨a, b, c, d, ha, hb, hc, hd⟩
theorem drop_le (n : Nat) (l : List UInt8) : (l.drop n).length ≤ l.length := by rw [List.length_drop]; omega
theorem tw_le (p : UInt8 → Bool) (l : List UInt8) : (l.takeWhile p).length ≤ l.length := (List.takeWhile_sublist p).length_le
theorem dw_le (p : UInt8 → Bool) (l : List UInt8) : (l.dropWhile p).length ≤ l.length := (List.dropWhile_sublist p).length_le
theorem l1_le (l : List UInt8) : (l1 l).length ≤ l.length := drop_le _ _
theorem whole_le (l : List UInt8) : (wholeL l).length ≤ l.length := Nat.le_trans (tw_le _ _) (l1_le l)
theorem l2_le (l : List UInt8) : (l2 l).length ≤ l.length := Nat.le_trans (dw_le _ _) (l1_le l)
theorem l3_le (l : List UInt8) : (l3 l).length ≤ l.length := Nat.le_trans (drop_le _ _) (l2_le l)
theorem part_le (l : List UInt8) : (partL l).length ≤ l.length := by
  unfold partL; split
  · exact Nat.le_trans (tw_le _ _) (l3_le l)
  · simp
theorem l4_le (l : List UInt8) : (l4 l).length ≤ l.length := Nat.le_trans (drop_le _ _) (l3_le l)
theorem l5_le (l : List UInt8) : (l5 l).length ≤ l.length := Nat.le_trans (drop_le _ _) (l4_le l)
theorem l6_le (l : List UInt8) : (l6 l).length ≤ l.length := Nat.le_trans (drop_le _ _) (l5_le l)
theorem power_le (l : List UInt8) : (powerL l).length ≤ l.length := by
  unfold powerL; split
  · exact Nat.le_trans (tw_le _ _) (l6_le l)
  · simp
theorem sz_le {a s : ByteArray} {l : List UInt8} (h : a.data.toList = l) (hl : l.length ≤ s.data.toList.length) : a.size ≤ s.size := by
  rw [← size_list a, h]; exact hl
theorem okW_bad {l : List UInt8} (h : okW l = true) : badW (wholeL l) = false := by
  unfold okW at h; rw [Bool.and_eq_true] at h; simpa using h.1

/-- The value of a text's parts. -/
theorem split_yes {s wh pa sg po : ByteArray} (h : WS s wh pa sg po) (hs : s.size ≤ 549755813888) (hok : okW s.data.toList = true) (w : World) :
    Calls Tryz.prog 36 #[.string s] w fun x w' => x = .returned (.tuple #[.agg #[.bool (hdB isMin s.data.toList), .string wh, .string pa, .string sg, .string po, .bool (hdB isDot (l2 s.data.toList)), .bool (hdB isExp (l4 s.data.toList))], .bool true]) ∧ Below w.heap.size w w' :=
  split_ok s wh pa sg po hs h.wh h.pa h.sg h.po (okW_bad hok) true hok w
theorem split_no (s : ByteArray) (hs : s.size ≤ 549755813888) (hok : okW s.data.toList = false) (w : World) :
    Calls Tryz.prog 36 #[.string s] w fun x w' => ∃ (m : Bool) (wh pa sg po : ByteArray) (pt ra : Bool), x = .returned (.tuple #[.agg #[.bool m, .string wh, .string pa, .string sg, .string po, .bool pt, .bool ra], .bool false]) ∧ Below w.heap.size w w' := by
  obtain ⟨wh, pa, sg, po, h⟩ := WS.ex s
  cases hb : badW (wholeL s.data.toList)
  · exact (split_ok s wh pa sg po hs h.wh h.pa h.sg h.po hb false hok w).mono fun _ _ ⟨h1, h2⟩ => ⟨_, _, _, _, _, _, _, h1, h2⟩
  · exact (split_bad s wh hs h.wh hb w).mono fun _ _ ⟨h1, h2⟩ => ⟨_, _, _, _, _, _, _, h1, h2⟩

/-- The contracts of what Read and parse call behind split. -/
structure RC (s wh pa sg po ds : ByteArray) (k : Int) (b : Bool) (m : Bool) (e : Int) : Prop where
  num : ∀ w, Calls Tryz.prog 37 #[.agg #[.bool (hdB isMin s.data.toList), .string wh, .string pa, .string sg, .string po, .bool (hdB isDot (l2 s.data.toList)), .bool (hdB isExp (l4 s.data.toList))]] w fun x w' => x = .returned (.tuple #[.int .i64 k, .bool b]) ∧ Below w.heap.size w w'
  nor : ∀ w, Calls Tryz.prog 38 #[.bool (hdB isMin s.data.toList), .string (wh ++ pa), .int .i64 (k - pa.size)] w fun x w' => x = .returned (.agg #[.bool m, .string ds, .int .i64 e]) ∧ Below w.heap.size w w'
  b_ : inB (expW (sW s.data.toList)) = b
  d_ : b = true → dW (sW s.data.toList) = ⟨m, ds.data.toList, e⟩
  klo : -1000000000000 ≤ k
  khi : k ≤ 1000000000000
  whs : wh.size ≤ s.size
  pas : pa.size ≤ s.size
  dss : ds.size ≤ 1099511627776
theorem RC.ex {s wh pa sg po : ByteArray} (h : WS s wh pa sg po) (hs : s.size ≤ 549755813888) : ∃ ds k b m e, RC s wh pa sg po ds k b m e := by
  have hpo : po.size ≤ s.size := sz_le h.po (power_le _)
  have hpa : pa.size ≤ s.size := sz_le h.pa (part_le _)
  have hwh : wh.size ≤ s.size := sz_le h.wh (whole_le _)
  have hd : ∀ c ∈ po.data.toList, dgB c = true := by rw [h.po]; exact power_dg _
  obtain ⟨k, hk⟩ : ∃ k, numK po.data.toList (expS sg.data.toList po.data.toList) = k := ⟨_, rfl⟩
  obtain ⟨b, hb⟩ : ∃ b, inB (expS sg.data.toList po.data.toList) = b := ⟨_, rfl⟩
  have hkb := numK_le (sg := sg.data.toList) hd
  rw [hk] at hkb
  obtain ⟨d, hd2⟩ : ∃ d, normalD (hdB isMin s.data.toList) (wh ++ pa).data.toList (k - pa.size) = d := ⟨_, rfl⟩
  obtain ⟨ds, hds⟩ := str_ex d.digits
  have hds2 : d = ⟨d.minus, ds.data.toList, d.exp⟩ := by rw [hds]
  have hE : expW (sW s.data.toList) = expS sg.data.toList po.data.toList := by rw [h.sg, h.po]; rfl
  have hdl : ds.size ≤ 1099511627776 := by
    have h1 : ds.data.toList.length = ds.size := rfl
    rw [hds, ← hd2] at h1
    have h2 : (wh ++ pa).data.toList.length = wh.size + pa.size := by rw [app_list, List.length_append]; rfl
    have h3 := rstrip_len (lstrip (wh ++ pa).data.toList)
    have h4 := lstrip_len (wh ++ pa).data.toList
    unfold normalD at h1
    split at h1
    · simp [Dm.zero] at h1; omega
    · simp only at h1; omega
  refine ⟨ds, k, b, d.minus, d.exp, fun w => number_is _ _ _ wh pa sg po (by omega) hd k hk b hb w, fun w => normal_is _ (wh ++ pa) ds _ (by rw [ByteArray.size_append]; omega) (by omega) (by omega) d.minus d.exp (by rw [hd2]; exact hds2) w, by rw [hE]; exact hb, fun hbt => ?_, hkb.1, hkb.2, hwh, hpa, hdl⟩
  rw [← hds2, ← hd2, dW, hE, ← hk, numK_good hd (hb.trans hbt), app_list, h.wh, h.pa, show (pa.size : Int) = ((partL s.data.toList).length : Nat) by rw [← h.pa]; rfl]
  rfl

/-- seven cells, carried over -/
theorem keep3 {w w' : World} {a b c d e f g : Value} {T : TypeId} (hb : Below (w.alloc (.cells #[a, b, c, d, e, f, g] T)).heap.size (w.alloc (.cells #[a, b, c, d, e, f, g] T)) w') :
    w'.cell? ⟨w.heap.size, 0, none⟩ = some a ∧ w'.cell? ⟨w.heap.size, 1, none⟩ = some b ∧ w'.cell? ⟨w.heap.size, 2, none⟩ = some c := by
  have h := blk_later (heap_new1 w (.cells #[a, b, c, d, e, f, g] T)) hb (by simp)
  exact ⟨blk_cell h 0, blk_cell h 1, blk_cell h 2⟩

set_option maxRecDepth 100000 in
set_option maxHeartbeats 2000000 in
theorem iread_is (s r : ByteArray) (c : Int) (hs : s.size ≤ 549755813888) (hr : readD s.data.toList = (r.data.toList, c)) (w : World) (hT : TAB w) :
    Calls Tryz.prog 15 #[.string s] w fun x w' => x = .returned (.tuple #[.string r, .int .i64 c]) ∧ Below w.heap.size w w' := by
  cases hok : okW s.data.toList
  · have hx : r.data.toList = [] ∧ c = 3 := by
      rw [readD, hok] at hr; injection hr with h1 h2; exact ⟨h1.symm, h2.symm⟩
    obtain ⟨hx, rfl⟩ := hx
    obtain rfl := str_nil hx
    have HS := Lib.hid (fun w => split_no s hs hok w)
    clear hr hx hok
    go_enter Tryz.func15, Tryz.ntmps15
    go_wp2_with (go_at_call 36; (with_reducible refine (HS.out _).mono ?_); rintro x w1 ⟨m, wh, pa, sg, po, pt, ra, rfl, hb1⟩; have hz1 := hb1.size)
    go_ret2
    exact ⟨rfl, hb1.trans ((below_new1 w1 _).mono hz1)⟩
  · obtain ⟨wh, pa, sg, po, hW⟩ := WS.ex s
    obtain ⟨ds, k, b, m, e, hR⟩ := RC.ex hW hs
    have HS := Lib.hid (fun w => split_yes hW hs hok w)
    have q1 := hR.klo
    have q2 := hR.khi
    have q3 := hR.whs
    have q4 := hR.pas
    have q5 := hR.dss
    have HR := Lib.hid hR
    have hb := hR.b_
    have hd := hR.d_
    obtain ⟨mi, hmi⟩ : ∃ mi, hdB isMin s.data.toList = mi := ⟨_, rfl⟩
    obtain ⟨pt, hpt⟩ : ∃ mi, hdB isDot (l2 s.data.toList) = mi := ⟨_, rfl⟩
    obtain ⟨ra, hra⟩ : ∃ mi, hdB isExp (l4 s.data.toList) = mi := ⟨_, rfl⟩
    have HN := Lib.hid hR.num
    have HO := Lib.hid hR.nor
    rw [hmi, hpt, hra] at HS HN
    rw [hmi] at HO
    have HT := Lib.hid hT
    cases b
    · have hx : r.data.toList = [] ∧ c = 7 := by
        rw [readD, hok, goodL, hb] at hr; injection hr with h1 h2; exact ⟨h1.symm, h2.symm⟩
      obtain ⟨hx, rfl⟩ := hx
      obtain rfl := str_nil hx
      clear hr hx hok hb hd hmi hpt hra hR hT
      go_enter Tryz.func15, Tryz.ntmps15
      go_wp2_with (first
        | (go_at_call 36; (with_reducible refine (HS.out _).mono ?_); rintro x w1 ⟨rfl, hb1⟩; have hz1 := hb1.size)
        | (go_at_call 37; (with_reducible refine (HN.out _).mono ?_); rintro x w2 ⟨rfl, hb2⟩))
      go_ret2
      exact ⟨rfl, (hb1.trans ((below_new1 w1 _).mono hz1)).trans (hb2.mono (by simp; omega))⟩
    · have hde := hd rfl
      obtain ⟨ie, hie⟩ : ∃ ie, inB e = ie := ⟨_, rfl⟩
      have HI := Lib.hid (fun w => within_is e ie hie w)
      cases ie
      · have hx : r.data.toList = [] ∧ c = 7 := by
          rw [readD, hok, goodL, hb, hde, hie] at hr; injection hr with h1 h2; exact ⟨h1.symm, h2.symm⟩
        obtain ⟨hx, rfl⟩ := hx
        obtain rfl := str_nil hx
        clear hr hx hok hb hd hmi hpt hra hR hT hie hde
        go_enter Tryz.func15, Tryz.ntmps15
        go_wp2_with (first
          | (go_at_call 36; (with_reducible refine (HS.out _).mono ?_); rintro x w1 ⟨rfl, hb1⟩; have hz1 := hb1.size)
          | (go_at_call 37; (with_reducible refine (HN.out _).mono ?_); rintro x w2 ⟨rfl, hb2⟩; obtain ⟨k0, k1, k2⟩ := keep3 hb2; have hz2 : w1.heap.size < w2.heap.size := by have := hb2.size; simp at this; omega)
          | (go_at_call 38; (with_reducible refine (HO.out _).mono ?_); rintro x w3 ⟨rfl, hb3⟩; have hz3 := hb3.size)
          | (go_at_call 39; (with_reducible refine (HI.out _).mono ?_); rintro x w4 ⟨rfl, rfl⟩))
        go_ret2
        exact ⟨rfl, (((hb1.trans ((below_new1 w1 _).mono hz1)).trans (hb2.mono (by simp; omega))).trans (hb3.mono (by omega))).alloc (by omega) _⟩
      · have hx : Norm ⟨m, ds.data.toList, e⟩ := by
          rw [← hde]; exact norm_dW (by rw [goodL, hb, hde, hie]; rfl)
        have hg : goodL s.data.toList = true := by rw [goodL, hb, hde, hie]; rfl
        rw [readD, hok, hg, hde] at hr
        injection hr with h1 h2
        have HX := Lib.hid (fun w hT => text_is m ds r e hx q5 h1 w hT)
        obtain rfl : c = 0 := h2.symm
        clear h1 h2 hx hg hok hb hd hmi hpt hra hR hT hie hde
        go_enter Tryz.func15, Tryz.ntmps15
        go_wp2_with (first
          | (go_at_call 36; (with_reducible refine (HS.out _).mono ?_); rintro x w1 ⟨rfl, hb1⟩; have hz1 := hb1.size)
          | (go_at_call 37; (with_reducible refine (HN.out _).mono ?_); rintro x w2 ⟨rfl, hb2⟩; obtain ⟨k0, k1, k2⟩ := keep3 hb2; have hz2 : w1.heap.size < w2.heap.size := by have := hb2.size; simp at this; omega)
          | (go_at_call 38; (with_reducible refine (HO.out _).mono ?_); rintro x w3 ⟨rfl, hb3⟩; have hz3 := hb3.size; have HB4 : Hid (Below w.heap.size w (w3.alloc (.cells #[.bool m, .string ds, .int .i64 e] 49))) := (((hb1.trans ((below_new1 w1 _).mono hz1)).trans (hb2.mono (by simp; omega))).trans (hb3.mono (by omega))).alloc (by omega) _)
          | (go_at_call 39; (with_reducible refine (HI.out _).mono ?_); rintro x w4 ⟨rfl, rfl⟩)
          | (go_at_call 40; (with_reducible refine (HX.out _ (HT.out.later HB4.out)).mono ?_); rintro x w5 ⟨rfl, hb5⟩))
        go_ret2
        exact ⟨rfl, HB4.out.trans (hb5.mono HB4.out.size)⟩

end Go.Proofs.YtncldnghhpdolaaGreatDoor
