/- Walks over package decimals: split, whole; no statement of the seat is proved here. -/
import Derived.Test.YtncldnghhpdolaaGreatDoorDcB
namespace Go.Proofs.YtncldnghhpdolaaGreatDoor
open Go.RowKit

theorem taker_is (s : ByteArray) (w : World) :
    Calls Tryz.prog 65 #[.string s] w fun e w' => e = .returned (.tuple #[.func (.func 94) #[] #[.pointer (some ⟨w.heap.size, 0, none⟩)], .func (.func 96) #[] #[.pointer (some ⟨w.heap.size, 0, none⟩)]]) ∧ w' = w.alloc (.cells #[.string s] 9) := by
  have hmf : ∀ (fn : Fn) (first cap : Array Value) (w : World), (Instr.makeFunc fn first cap).run Tryz.prog w = .ok (.func fn first cap) w := fun _ _ _ _ => rfl
  go_enter Tryz.func65, Tryz.ntmps65
  go_wp2
  go_ret2
  exact ⟨rfl, rfl⟩
theorem taker_sw (s : ByteArray) (w : World) :
    Calls Tryz.prog 65 #[.string s] (w.alloc (.cells #[.bool false, .string ⟨#[]⟩, .string ⟨#[]⟩, .string ⟨#[]⟩, .string ⟨#[]⟩, .bool false, .bool false] 43)) fun e w' => e = .returned (.tuple #[.func (.func 94) #[] #[.pointer (some ⟨w.heap.size + 1, 0, none⟩)], .func (.func 96) #[] #[.pointer (some ⟨w.heap.size + 1, 0, none⟩)]]) ∧ SW w w' false ⟨#[]⟩ ⟨#[]⟩ ⟨#[]⟩ ⟨#[]⟩ false false s := by
  refine (taker_is s _).mono ?_
  rintro e w' ⟨rfl, rfl⟩
  rw [size_new1]
  exact ⟨rfl, SW.new w s⟩
theorem SW.one {w0 w : World} {m : Bool} {wh pa sg po : ByteArray} {pt ra : Bool} {s : ByteArray} (h : SW w0 w m wh pa sg po pt ra s) (set : ByteArray) (p : UInt8 → Bool) (hp : ∀ c, decide (0 ≤ Lib.indexByte set.data.toList c) = p c) (hs : s.size ≤ 1099511627776) (t r : ByteArray) (ht : t.data.toList = s.data.toList.take (one p s.data.toList)) (hr : r.data.toList = s.data.toList.drop (one p s.data.toList)) :
    Calls Tryz.prog 94 #[.string set, .int .i64 1, .pointer (some ⟨w0.heap.size + 1, 0, none⟩)] w fun e w' => e = .returned (.string t) ∧ SW w0 w' m wh pa sg po pt ra r :=
  h.take set p hp 1 (by omega) hs (tkN_one p _) t r ht hr
theorem SW.run {w0 w : World} {m : Bool} {wh pa sg po : ByteArray} {pt ra : Bool} {s : ByteArray} (h : SW w0 w m wh pa sg po pt ra s) (k : Nat) (hk : k ≤ 1099511627776) (hs : s.size ≤ k) (t r : ByteArray) (ht : t.data.toList = s.data.toList.takeWhile dgB) (hr : r.data.toList = s.data.toList.dropWhile dgB) :
    Calls Tryz.prog 94 #[.string ⟨#[48, 49, 50, 51, 52, 53, 54, 55, 56, 57]⟩, .int .i64 (k : Int), .pointer (some ⟨w0.heap.size + 1, 0, none⟩)] w fun e w' => e = .returned (.string t) ∧ SW w0 w' m wh pa sg po pt ra r :=
  h.take ⟨#[48, 49, 50, 51, 52, 53, 54, 55, 56, 57]⟩ dgB set_num k hk (by omega) (tkN_all dgB (by rw [size_list]; exact hs)) t r (by rw [take_tw]; exact ht) (by rw [drop_tw]; exact hr)

/-- The pieces of a text, as strings. -/
structure PS (s mi r1 wh r2 : ByteArray) : Prop where
  e0 : mi.data.toList = s.data.toList.take (one isMin s.data.toList)
  e1 : r1.data.toList = s.data.toList.drop (one isMin s.data.toList)
  e2 : wh.data.toList = r1.data.toList.takeWhile dgB
  e3 : r2.data.toList = r1.data.toList.dropWhile dgB
  s0 : s.size ≤ 549755813888
  s1 : r1.size ≤ s.size
  s2 : r2.size ≤ s.size
theorem PS.ex (s wh : ByteArray) (hs : s.size ≤ 549755813888) (h : wh.data.toList = wholeL s.data.toList) : ∃ mi r1 r2, PS s mi r1 wh r2 := by
  obtain ⟨mi, hmi⟩ := str_ex (s.data.toList.take (one isMin s.data.toList))
  obtain ⟨r1, hr1⟩ := str_ex (s.data.toList.drop (one isMin s.data.toList))
  obtain ⟨r2, hr2⟩ := str_ex (r1.data.toList.dropWhile dgB)
  have h1 : r1.size ≤ s.size := by rw [← size_list, hr1, List.length_drop, size_list]; omega
  refine ⟨mi, r1, r2, hmi, hr1, by rw [h, hr1]; rfl, hr2, hs, h1, ?_⟩
  rw [← size_list, hr2]
  have := (List.dropWhile_sublist dgB (l := r1.data.toList)).length_le
  rw [size_list] at this; omega

theorem SW.all {w0 w : World} {m : Bool} {wh pa sg po : ByteArray} {pt ra : Bool} {s : ByteArray} (h : SW w0 w m wh pa sg po pt ra s) :
    SW w0 (((((((w.setCell ⟨w0.heap.size, 0, none⟩ (.bool m)).setCell ⟨w0.heap.size, 1, none⟩ (.string wh)).setCell ⟨w0.heap.size, 2, none⟩ (.string pa)).setCell ⟨w0.heap.size, 3, none⟩ (.string sg)).setCell ⟨w0.heap.size, 4, none⟩ (.string po)).setCell ⟨w0.heap.size, 5, none⟩ (.bool pt)).setCell ⟨w0.heap.size, 6, none⟩ (.bool ra)) m wh pa sg po pt ra s :=
  ((((((h.set 0 _ rfl).set 1 _ rfl).set 2 _ rfl).set 3 _ rfl).set 4 _ rfl).set 5 _ rfl).set 6 _ rfl

theorem hd_get {l : List UInt8} {v : UInt8} (h : hdB (· == v) l = true) (hl : 0 < l.length) : (l[0]'hl).toNat = v.toNat := by
  cases l with
  | nil => simp at hl
  | cons c t => simp [hdB] at h; simp [h]
set_option maxHeartbeats 2000000 in
theorem split_bad (s wh : ByteArray) (hs : s.size ≤ 549755813888) (hwh : wh.data.toList = wholeL s.data.toList) (hb : badW (wholeL s.data.toList) = true) (w : World) :
    Calls Tryz.prog 36 #[.string s] w fun x w' => x = .returned (.tuple #[.agg #[.bool (hdB isMin s.data.toList), .string wh, .string ⟨#[]⟩, .string ⟨#[]⟩, .string ⟨#[]⟩, .bool false, .bool false], .bool false]) ∧ Below w.heap.size w w' := by
  obtain ⟨mi, r1, r2, hP⟩ := PS.ex s wh hs hwh
  obtain ⟨m, hm⟩ : ∃ m, hdB isMin s.data.toList = m := ⟨_, rfl⟩
  have F0 := one_str isMin s.data.toList mi hP.e0
  rw [hm] at F0 ⊢
  rw [← hwh] at hb
  have HP := Lib.hid hP; clear hP
  clear hwh hm
  have hsz : wh.data.toList.length = wh.size := rfl
  have ew : wh.toList = wh.data.toList := ByteArray.toList_eq wh
  by_cases h0 : wh.data.toList = []
  · have F1 : wh.toList.isEmpty = true ∧ wh.toList = [] := by rw [ew, h0]; exact ⟨rfl, rfl⟩
    obtain ⟨F1, F2⟩ := F1
    clear ew h0 hb hsz
    go_enter Tryz.func36, Tryz.ntmps36
    go_wp2_with (first
      | (go_at_call 65; (with_reducible refine (taker_sw s w).mono ?_); rintro x w1 ⟨rfl, h1⟩; have H1 := Lib.hid h1; clear h1; obtain ⟨a0, a1, a2, a3, a4, a5, a6, af, az⟩ := H1.out.facts)
      | (go_at_call 94; (with_reducible refine (H1.out.one ⟨#[45]⟩ isMin set_min (by have := HP.out.s0; omega) mi r1 HP.out.e0 HP.out.e1).mono ?_); rintro x w2 ⟨rfl, h2⟩; obtain ⟨c0, c1, c2, c3, c4, c5, c6, cf, cz⟩ := h2.facts; have H2 := Lib.hid (h2.set (m' := m) 0 (.bool m) rfl); clear h2)
      | (go_at_call 94; (with_reducible refine (H2.out.run s.size (by have := HP.out.s0; omega) HP.out.s1 wh r2 HP.out.e2 HP.out.e3).mono ?_); rintro x w3 ⟨rfl, h3⟩; have H3 := Lib.hid h3; clear h3; obtain ⟨b0, b1, b2, b3, b4, b5, b6, bf, bz⟩ := H3.out.facts))
    have H4 := (H3.out.set (wh' := wh) 1 (.string wh) rfl).all
    exact bodyPost_ret (v := .tuple #[.agg #[.bool m, .string wh, .string ⟨#[]⟩, .string ⟨#[]⟩, .string ⟨#[]⟩, .bool false, .bool false], .bool false]) (res_split H4 false _ rfl rfl) rfl ⟨rfl, H4.below⟩
  · have h1 : 1 < wh.size ∧ ∃ q : 0 < wh.size, (wh[0]'q).toNat = 48 := by
      rw [badW, Bool.or_eq_true, Bool.and_eq_true, decide_eq_true_iff] at hb
      rcases hb with hb | ⟨hb1, hb2⟩
      · exact absurd (List.isEmpty_iff.1 hb) h0
      · refine ⟨hb1, by omega, ?_⟩
        exact hd_get hb2 (by omega)
    obtain ⟨g1, q, g2⟩ := h1
    obtain ⟨F1, F2⟩ := full_of h0
    have g3 : (((wh[0]'q).toNat : Int) == 48) = true := by simp [g2]
    clear ew h0 hb hsz g2
    go_enter Tryz.func36, Tryz.ntmps36
    go_wp2_with (first
      | (go_at_call 65; (with_reducible refine (taker_sw s w).mono ?_); rintro x w1 ⟨rfl, h1⟩; have H1 := Lib.hid h1; clear h1; obtain ⟨a0, a1, a2, a3, a4, a5, a6, af, az⟩ := H1.out.facts)
      | (go_at_call 94; (with_reducible refine (H1.out.one ⟨#[45]⟩ isMin set_min (by have := HP.out.s0; omega) mi r1 HP.out.e0 HP.out.e1).mono ?_); rintro x w2 ⟨rfl, h2⟩; obtain ⟨c0, c1, c2, c3, c4, c5, c6, cf, cz⟩ := h2.facts; have H2 := Lib.hid (h2.set (m' := m) 0 (.bool m) rfl); clear h2)
      | (go_at_call 94; (with_reducible refine (H2.out.run s.size (by have := HP.out.s0; omega) HP.out.s1 wh r2 HP.out.e2 HP.out.e3).mono ?_); rintro x w3 ⟨rfl, h3⟩; have H3 := Lib.hid h3; clear h3; obtain ⟨b0, b1, b2, b3, b4, b5, b6, bf, bz⟩ := H3.out.facts))
    have H4 := (H3.out.set (wh' := wh) 1 (.string wh) rfl).all
    exact bodyPost_ret (v := .tuple #[.agg #[.bool m, .string wh, .string ⟨#[]⟩, .string ⟨#[]⟩, .string ⟨#[]⟩, .bool false, .bool false], .bool false]) (res_split H4 false _ rfl rfl) rfl ⟨rfl, H4.below⟩

end Go.Proofs.YtncldnghhpdolaaGreatDoor
