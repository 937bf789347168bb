/- What the calls of the law DatesTimes answer; no statement of the seat is proved here. -/
import Derived.Test.YtgchhogdbigafaaDoorDtQ
import Derived.Handy
namespace Go.Proofs.YtgchhogdbigafaaDoor
open Go.RowKit

theorem val_str {a b : ByteArray} (h : a.data.toList = b.data.toList) : Value.string a = .string b := by rw [str_of h]
theorem val_bool {a b : Bool} (h : a = b) : Value.bool a = .bool b := by rw [h]
theorem num_sz {a : ByteArray} {n d : Nat} (h : a.data.toList = numL n d) : a.size = d := sz_of h (numL_len d n)
/-- The block of the law's five numbers. -/
def XB (w : World) (n : Nat) (x0 x1 x2 x3 x4 : Int) : Prop := w.heap[n]? = some (.cells #[.int .u8 x0, .int .u8 x1, .int .u8 x2, .int .u8 x3, .int .u8 x4] 22 (0, 0))
theorem XB.facts {w : World} {n : Nat} {x0 x1 x2 x3 x4 : Int} (h : XB w n x0 x1 x2 x3 x4) : w.cell? ⟨n, 0, none⟩ = some (.int .u8 x0) ∧ w.cell? ⟨n, 1, none⟩ = some (.int .u8 x1) ∧ w.cell? ⟨n, 2, none⟩ = some (.int .u8 x2) ∧ w.cell? ⟨n, 3, none⟩ = some (.int .u8 x3) ∧ w.cell? ⟨n, 4, none⟩ = some (.int .u8 x4) :=
  ⟨blk_cell h 0, blk_cell h 1, blk_cell h 2, blk_cell h 3, blk_cell h 4⟩
theorem XB.later {w w' : World} {n : Nat} {x0 x1 x2 x3 x4 : Int} (h : XB w n x0 x1 x2 x3 x4) (hb : Below w.heap.size w w') : XB w' n x0 x1 x2 x3 x4 := blk_later h hb (blk_lt h)
theorem rep_is (k : Nat) (hk : k ≤ 8) (u : ByteArray) (hu : u.data.toList = List.replicate k 48) (w : World) :
    Calls Tryd.prog 6 #[.string ⟨#[48]⟩, .int .i64 (k : Int)] w fun e w' => e = .returned (.string u) ∧ Below w.heap.size w w' := by
  have h := Tryd.strings_Repeat ⟨#[48]⟩ k w (by omega) (by show 1 * k ≤ _; omega)
  have e : (⟨(Lib.repeatL (⟨#[48]⟩ : ByteArray).data.toList k).toArray⟩ : ByteArray) = u := by
    refine (str_is ?_).symm
    rw [hu]
    have : k = 0 ∨ k = 1 ∨ k = 2 ∨ k = 3 ∨ k = 4 ∨ k = 5 ∨ k = 6 ∨ k = 7 ∨ k = 8 := by omega
    rcases this with rfl | rfl | rfl | rfl | rfl | rfl | rfl | rfl | rfl <;> rfl
  rw [e] at h
  exact h

variable {h m s : Nat} {q cut : List UInt8}
theorem day_app (c : UInt8) (u : ByteArray) : ((⟨#[50, 48, 48, 49, 45, 48, 50, 45, 48, 51]⟩ : ByteArray) ++ ⟨#[c]⟩ ++ u).data.toList = dayX ++ (c :: u.data.toList) := by
  rw [app_list, app_list]; simp [dayX]
theorem tx_f1 (x : TimeX h m s q cut) (ho : okX h m s = false) {TO : ByteArray} (hTO : TO.data.toList = toldL h m s q) : decide (readD TO.data.toList = ([], 9)) = true := by
  have := x.told
  rw [ho] at this
  exact decide_eq_true (by rw [hTO]; exact this)
theorem tx_f2 (x : TimeX h m s q cut) (ho : okX h m s = false) {TI : ByteArray} (hTI : TI.data.toList = timL h m s) : decide (readD TI.data.toList = ([], 9)) = true :=
  decide_eq_true (by rw [hTI]; exact x.bare ho)
theorem tx_f3 (x : TimeX h m s q cut) (ho : okX h m s = false) {TO : ByteArray} (hTO : TO.data.toList = toldL h m s q) (c : UInt8) (hc : c.toNat = 84 ∨ c.toNat = 116 ∨ c.toNat = 32) : decide (readD ((⟨#[50, 48, 48, 49, 45, 48, 50, 45, 48, 51]⟩ : ByteArray) ++ ⟨#[c]⟩ ++ TO).data.toList = ([], 9)) = true := by
  have := x.full hc (r := []) (by decide)
  rw [ho, List.append_nil] at this
  exact decide_eq_true (by rw [day_app, hTO]; exact this)
theorem tx_f4 (x : TimeX h m s q cut) {TO r : ByteArray} (hTO : TO.data.toList = toldL h m s q) (c : UInt8) (hc : c.toNat = 84 ∨ c.toNat = 116 ∨ c.toNat = 32) (hr : zoneN r.data.toList 0 = r.data.toList.length) (ho : (okX h m s && (decide (r.data.toList.length < 2) || zonN (twN r.data.toList 1) (twN r.data.toList 4))) = false) : decide (readD ((⟨#[50, 48, 48, 49, 45, 48, 50, 45, 48, 51]⟩ : ByteArray) ++ ⟨#[c]⟩ ++ TO ++ r).data.toList = ([], 9)) = true := by
  have := x.full hc hr
  rw [ho] at this
  exact decide_eq_true (by rw [app_list, day_app, hTO, List.append_assoc, List.cons_append]; exact this)
theorem tx_i1 (x : TimeX h m s q cut) (ho : okX h m s = true) {TO WA : ByteArray} (hTO : TO.data.toList = toldL h m s q) (hWA : WA.data.toList = wantL h m s cut) : decide (readD TO.data.toList = (WA.data.toList, 0)) = true := by
  have := x.told
  rw [ho] at this
  exact decide_eq_true (by rw [hTO, hWA]; exact this)
theorem tx_i3 (x : TimeX h m s q cut) (ho : okX h m s = true) {TO WA : ByteArray} (hTO : TO.data.toList = toldL h m s q) (hWA : WA.data.toList = wantL h m s cut) (c : UInt8) (hc : c.toNat = 84 ∨ c.toNat = 116 ∨ c.toNat = 32) :
    decide (readD ((⟨#[50, 48, 48, 49, 45, 48, 50, 45, 48, 51]⟩ : ByteArray) ++ ⟨#[c]⟩ ++ TO).data.toList = (((⟨#[50, 48, 48, 49, 45, 48, 50, 45, 48, 51]⟩ : ByteArray) ++ ⟨#[84]⟩ ++ WA).data.toList, 0)) = true := by
  have := x.full hc (r := []) (by decide)
  rw [ho, List.append_nil] at this
  exact decide_eq_true (by rw [day_app, day_app, hTO, hWA]; simpa [upZ] using this)
theorem tx_i4 (x : TimeX h m s q cut) {TO WA r r' : ByteArray} (hTO : TO.data.toList = toldL h m s q) (hWA : WA.data.toList = wantL h m s cut) (c : UInt8) (hc : c.toNat = 84 ∨ c.toNat = 116 ∨ c.toNat = 32) (hr : zoneN r.data.toList 0 = r.data.toList.length) (hu : upZ r.data.toList = r'.data.toList)
    (ho : (okX h m s && (decide (r.data.toList.length < 2) || zonN (twN r.data.toList 1) (twN r.data.toList 4))) = true) :
    decide (readD ((⟨#[50, 48, 48, 49, 45, 48, 50, 45, 48, 51]⟩ : ByteArray) ++ ⟨#[c]⟩ ++ TO ++ r).data.toList = (((⟨#[50, 48, 48, 49, 45, 48, 50, 45, 48, 51]⟩ : ByteArray) ++ ⟨#[84]⟩ ++ WA ++ r').data.toList, 0)) = true := by
  have := x.full hc hr
  rw [ho, if_pos rfl, hu] at this
  exact decide_eq_true (by rw [app_list _ r, app_list _ r', day_app, day_app, hTO, hWA, List.append_assoc, List.cons_append, this]; simp)
theorem tx_over (x : TimeX h m s q cut) {TO r : ByteArray} (hTO : TO.data.toList = toldL h m s q) (hr : zoneN r.data.toList 0 = r.data.toList.length) (h0 : r.data.toList ≠ []) : decide (readD (TO ++ r).data.toList = ([], 3)) = true :=
  decide_eq_true (by rw [app_list, hTO]; exact x.over hr h0)
theorem sgn_app (c : UInt8) {ZO : ByteArray} {a b : Nat} (hZ : ZO.data.toList = zonL a b) : ((⟨#[c]⟩ : ByteArray) ++ ZO).data.toList = c :: zonL a b := by rw [app_list, hZ]; simp

theorem sz_a (c : UInt8) {TO : ByteArray} (h : TO.size ≤ 30) : (⟨#[50, 48, 48, 49, 45, 48, 50, 45, 48, 51]⟩ ++ ⟨#[c]⟩ ++ TO).size ≤ 549755813888 := by
  rw [app_size, app_size]
  have e1 : (⟨#[50, 48, 48, 49, 45, 48, 50, 45, 48, 51]⟩ : ByteArray).size = 10 := rfl
  have e2 : (⟨#[c]⟩ : ByteArray).size = 1 := rfl
  rw [e1, e2]; omega
theorem sz_b (c : UInt8) {TO r : ByteArray} (h : TO.size ≤ 30) (hr : r.size ≤ 30) : (⟨#[50, 48, 48, 49, 45, 48, 50, 45, 48, 51]⟩ ++ ⟨#[c]⟩ ++ TO ++ r).size ≤ 549755813888 := by
  rw [app_size, app_size, app_size]
  have e1 : (⟨#[50, 48, 48, 49, 45, 48, 50, 45, 48, 51]⟩ : ByteArray).size = 10 := rfl
  have e2 : (⟨#[c]⟩ : ByteArray).size = 1 := rfl
  rw [e1, e2]; omega
theorem cf3 (x : TimeX h m s q cut) (ho : okX h m s = false) {TO : ByteArray} (hTO : TO.data.toList = toldL h m s q) (hs : TO.size ≤ 23) (c : UInt8) (hc : c.toNat = 84 ∨ c.toNat = 116 ∨ c.toNat = 32) (w : World) :
    Calls Tryd.prog 7 #[.string (⟨#[50, 48, 48, 49, 45, 48, 50, 45, 48, 51]⟩ ++ ⟨#[c]⟩ ++ TO), .int .i64 9] w fun x w' => x = .returned (.bool true) ∧ Below w.heap.size w w' :=
  fails_v _ 9 (sz_a c (by omega)) true (tx_f3 x ho hTO c hc) w
theorem cf4 (x : TimeX h m s q cut) {TO r : ByteArray} (hTO : TO.data.toList = toldL h m s q) (hs : TO.size ≤ 23) (hrs : r.size ≤ 30) (c : UInt8) (hc : c.toNat = 84 ∨ c.toNat = 116 ∨ c.toNat = 32) (hr : zoneN r.data.toList 0 = r.data.toList.length) (ho : (okX h m s && (decide (r.data.toList.length < 2) || zonN (twN r.data.toList 1) (twN r.data.toList 4))) = false) (w : World) :
    Calls Tryd.prog 7 #[.string (⟨#[50, 48, 48, 49, 45, 48, 50, 45, 48, 51]⟩ ++ ⟨#[c]⟩ ++ TO ++ r), .int .i64 9] w fun x w' => x = .returned (.bool true) ∧ Below w.heap.size w w' :=
  fails_v _ 9 (sz_b c (by omega) hrs) true (tx_f4 x hTO c hc hr ho) w
theorem z90 : zoneN (⟨#[90]⟩ : ByteArray).data.toList 0 = (⟨#[90]⟩ : ByteArray).data.toList.length := by decide
theorem cf490 (x : TimeX h m s q cut) (ho : okX h m s = false) {TO : ByteArray} (hTO : TO.data.toList = toldL h m s q) (hs : TO.size ≤ 23) (c : UInt8) (hc : c.toNat = 84 ∨ c.toNat = 116 ∨ c.toNat = 32) (w : World) :
    Calls Tryd.prog 7 #[.string (⟨#[50, 48, 48, 49, 45, 48, 50, 45, 48, 51]⟩ ++ ⟨#[c]⟩ ++ TO ++ ⟨#[90]⟩), .int .i64 9] w fun x w' => x = .returned (.bool true) ∧ Below w.heap.size w w' :=
  cf4 x hTO hs (by decide) c hc z90 (by rw [ho]; rfl) w

theorem ci1 (x : TimeX h m s q cut) (ho : okX h m s = true) {TO WA : ByteArray} (hTO : TO.data.toList = toldL h m s q) (hs : TO.size ≤ 23) (hWA : WA.data.toList = wantL h m s cut) (w : World) :
    Calls Tryd.prog 8 #[.string TO, .string WA] w fun x w' => x = .returned (.bool true) ∧ Below w.heap.size w w' :=
  is_v _ _ (by omega) true (tx_i1 x ho hTO hWA) w
theorem ci3 (x : TimeX h m s q cut) (ho : okX h m s = true) {TO WA : ByteArray} (hTO : TO.data.toList = toldL h m s q) (hs : TO.size ≤ 23) (hWA : WA.data.toList = wantL h m s cut) (c : UInt8) (hc : c.toNat = 84 ∨ c.toNat = 116 ∨ c.toNat = 32) (w : World) :
    Calls Tryd.prog 8 #[.string (⟨#[50, 48, 48, 49, 45, 48, 50, 45, 48, 51]⟩ ++ ⟨#[c]⟩ ++ TO), .string (⟨#[50, 48, 48, 49, 45, 48, 50, 45, 48, 51]⟩ ++ ⟨#[84]⟩ ++ WA)] w fun x w' => x = .returned (.bool true) ∧ Below w.heap.size w w' :=
  is_v _ _ (sz_a c (by omega)) true (tx_i3 x ho hTO hWA c hc) w
theorem ci4 (x : TimeX h m s q cut) {TO WA r r' : ByteArray} (hTO : TO.data.toList = toldL h m s q) (hs : TO.size ≤ 23) (hrs : r.size ≤ 30) (hWA : WA.data.toList = wantL h m s cut) (c : UInt8) (hc : c.toNat = 84 ∨ c.toNat = 116 ∨ c.toNat = 32) (hr : zoneN r.data.toList 0 = r.data.toList.length) (hu : upZ r.data.toList = r'.data.toList)
    (ho : (okX h m s && (decide (r.data.toList.length < 2) || zonN (twN r.data.toList 1) (twN r.data.toList 4))) = true) (w : World) :
    Calls Tryd.prog 8 #[.string (⟨#[50, 48, 48, 49, 45, 48, 50, 45, 48, 51]⟩ ++ ⟨#[c]⟩ ++ TO ++ r), .string (⟨#[50, 48, 48, 49, 45, 48, 50, 45, 48, 51]⟩ ++ ⟨#[84]⟩ ++ WA ++ r')] w fun x w' => x = .returned (.bool true) ∧ Below w.heap.size w w' :=
  is_v _ _ (sz_b c (by omega) hrs) true (tx_i4 x hTO hWA c hc hr hu ho) w
theorem z122 : zoneN (⟨#[122]⟩ : ByteArray).data.toList 0 = (⟨#[122]⟩ : ByteArray).data.toList.length := by decide
theorem ci4z (x : TimeX h m s q cut) (ho : okX h m s = true) {TO WA : ByteArray} (hTO : TO.data.toList = toldL h m s q) (hs : TO.size ≤ 23) (hWA : WA.data.toList = wantL h m s cut) (c : UInt8) (hc : c.toNat = 84 ∨ c.toNat = 116 ∨ c.toNat = 32) (w : World) :
    Calls Tryd.prog 8 #[.string (⟨#[50, 48, 48, 49, 45, 48, 50, 45, 48, 51]⟩ ++ ⟨#[c]⟩ ++ TO ++ ⟨#[122]⟩), .string (⟨#[50, 48, 48, 49, 45, 48, 50, 45, 48, 51]⟩ ++ ⟨#[84]⟩ ++ WA ++ ⟨#[90]⟩)] w fun x w' => x = .returned (.bool true) ∧ Below w.heap.size w w' :=
  ci4 x hTO hs (by decide) hWA c hc z122 (by decide) (by rw [ho]; rfl) w
theorem co2 (x : TimeX h m s q cut) (ho : okX h m s = true) {WA : ByteArray} (hs : WA.size ≤ 15) (hWA : WA.data.toList = wantL h m s cut) (w : World) :
    Calls Tryd.prog 9 #[.string WA] w fun x w' => x = .returned (.int .u8 2) ∧ Below w.heap.size w w' :=
  iof_at WA (by omega) 2 (by rw [hWA]; exact x.of2 ho) w
theorem co3 (x : TimeX h m s q cut) (ho : okX h m s = true) {WA : ByteArray} (hs : WA.size ≤ 15) (hWA : WA.data.toList = wantL h m s cut) (w : World) :
    Calls Tryd.prog 9 #[.string (⟨#[50, 48, 48, 49, 45, 48, 50, 45, 48, 51]⟩ ++ ⟨#[84]⟩ ++ WA)] w fun x w' => x = .returned (.int .u8 3) ∧ Below w.heap.size w w' :=
  iof_at _ (sz_a 84 (by omega)) 3 (by rw [day_app, hWA]; exact (x.of34 ho).1) w
theorem co4 (x : TimeX h m s q cut) (ho : okX h m s = true) {WA : ByteArray} (hs : WA.size ≤ 15) (hWA : WA.data.toList = wantL h m s cut) (w : World) :
    Calls Tryd.prog 9 #[.string (⟨#[50, 48, 48, 49, 45, 48, 50, 45, 48, 51]⟩ ++ ⟨#[84]⟩ ++ WA ++ ⟨#[90]⟩)] w fun x w' => x = .returned (.int .u8 4) ∧ Below w.heap.size w w' :=
  iof_at _ (sz_b 84 (by omega) (by decide)) 4 (by rw [app_list, day_app, hWA, List.append_assoc, List.cons_append]; exact (x.of34 ho).2) w
theorem sgn_zone (g : UInt8) (hg : g.toNat = 43 ∨ g.toNat = 45) {ZO : ByteArray} {a b : Nat} (hZ : ZO.data.toList = zonL a b) : zoneN ((⟨#[g]⟩ : ByteArray) ++ ZO).data.toList 0 = ((⟨#[g]⟩ : ByteArray) ++ ZO).data.toList.length := by
  rw [sgn_app g hZ]; exact zonL_is g a b hg
theorem sgn_size (g : UInt8) {ZO : ByteArray} (hs : ZO.size = 5) : ((⟨#[g]⟩ : ByteArray) ++ ZO).size ≤ 30 := by
  rw [app_size, hs]; show 1 + 5 ≤ 30; omega
theorem sgn_six (g : UInt8) {ZO : ByteArray} (hs : ZO.size = 5) : ((⟨#[g]⟩ : ByteArray) ++ ZO).size ≤ 6 := by
  rw [app_size, hs]; show 1 + 5 ≤ 6; omega
theorem sgn_ok (g : UInt8) {ZO : ByteArray} {a b : Nat} (ha : a < 100) (hb : b < 100) (hZ : ZO.data.toList = zonL a b) {ok far : Bool} (hok : ok = true) (hfar : zonN a b = far) :
    (ok && (decide (((⟨#[g]⟩ : ByteArray) ++ ZO).data.toList.length < 2) || zonN (twN ((⟨#[g]⟩ : ByteArray) ++ ZO).data.toList 1) (twN ((⟨#[g]⟩ : ByteArray) ++ ZO).data.toList 4))) = far := by
  obtain ⟨e1, e2⟩ := zonL_twN g a b ha hb
  rw [sgn_app g hZ, e1, e2, hok, hfar]; simp [zonL_len]
theorem cz (x : TimeX h m s q cut) (ho : okX h m s = true) {TO WA ZO : ByteArray} {a b : Nat} (ha : a < 100) (hb : b < 100) (hfar : zonN a b = true) (hTO : TO.data.toList = toldL h m s q) (hs : TO.size ≤ 23) (hWA : WA.data.toList = wantL h m s cut) (hZ : ZO.data.toList = zonL a b) (hZs : ZO.size = 5) (c : UInt8) (hc : c.toNat = 84 ∨ c.toNat = 116 ∨ c.toNat = 32) (g : UInt8) (hg : g.toNat = 43 ∨ g.toNat = 45) (w : World) :
    Calls Tryd.prog 8 #[.string (⟨#[50, 48, 48, 49, 45, 48, 50, 45, 48, 51]⟩ ++ ⟨#[c]⟩ ++ TO ++ (⟨#[g]⟩ ++ ZO)), .string (⟨#[50, 48, 48, 49, 45, 48, 50, 45, 48, 51]⟩ ++ ⟨#[84]⟩ ++ WA ++ (⟨#[g]⟩ ++ ZO))] w fun x w' => x = .returned (.bool true) ∧ Below w.heap.size w w' :=
  ci4 x hTO hs (sgn_size g hZs) hWA c hc (sgn_zone g hg hZ) (by rw [sgn_app g hZ, upZ, if_neg (by intro e; have := congrArg List.length e; simp [zonL_len] at this)]) (sgn_ok g ha hb hZ ho hfar) w
theorem czf (x : TimeX h m s q cut) (ho : okX h m s = true) {TO ZO : ByteArray} {a b : Nat} (ha : a < 100) (hb : b < 100) (hfar : zonN a b = false) (hTO : TO.data.toList = toldL h m s q) (hs : TO.size ≤ 23) (hZ : ZO.data.toList = zonL a b) (hZs : ZO.size = 5) (c : UInt8) (hc : c.toNat = 84 ∨ c.toNat = 116 ∨ c.toNat = 32) (g : UInt8) (hg : g.toNat = 43 ∨ g.toNat = 45) (w : World) :
    Calls Tryd.prog 7 #[.string (⟨#[50, 48, 48, 49, 45, 48, 50, 45, 48, 51]⟩ ++ ⟨#[c]⟩ ++ TO ++ (⟨#[g]⟩ ++ ZO)), .int .i64 9] w fun x w' => x = .returned (.bool true) ∧ Below w.heap.size w w' :=
  cf4 x hTO hs (sgn_size g hZs) c hc (sgn_zone g hg hZ) (sgn_ok g ha hb hZ ho hfar) w
theorem czo (x : TimeX h m s q cut) {TO ZO : ByteArray} {a b : Nat} (hTO : TO.data.toList = toldL h m s q) (hs : TO.size ≤ 23) (hZ : ZO.data.toList = zonL a b) (hZs : ZO.size = 5) (g : UInt8) (hg : g.toNat = 43 ∨ g.toNat = 45) (w : World) :
    Calls Tryd.prog 7 #[.string (TO ++ (⟨#[g]⟩ ++ ZO)), .int .i64 3] w fun x w' => x = .returned (.bool true) ∧ Below w.heap.size w w' :=
  fails_v _ 3 (by have := sgn_size g hZs; rw [app_size]; omega) true (tx_over x hTO (sgn_zone g hg hZ) (by rw [sgn_app g hZ]; simp)) w

end Go.Proofs.YtgchhogdbigafaaDoor
