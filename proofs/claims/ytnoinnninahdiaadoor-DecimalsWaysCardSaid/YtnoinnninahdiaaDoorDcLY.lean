/- The walk of the law DecimalsWays; no statement of the seat is proved here. -/
import Derived.Test.YtnoinnninahdiaaDoorDcLV
import Derived.Test.YtnoinnninahdiaaDoorDcX
import Derived.Test.YtnoinnninahdiaaDoorAp1
import Derived.Test.YtnoinnninahdiaaDoorShelfR
import Derived.Laws.OwnMore
import Derived.Maps.AppendAt
namespace Go.Proofs.YtnoinnninahdiaaDoor
open Go.RowKit

theorem rep_list (k : Nat) : Lib.repeatL [48] k = List.replicate k 48 := by
  induction k with
  | zero => rfl
  | succ k ih => rw [Lib.repeatL, ih, List.replicate_succ]; rfl
theorem rep_is (k : Nat) (hk : k ≤ 1000) (z : ByteArray) (hz : z.data.toList = List.replicate k 48) (v : Int) (hv : v = (k : Int)) (w : World) :
    Calls Tryd.prog 20 #[.string ⟨#[48]⟩, .int .i64 v] w fun e w' => e = .returned (.string z) ∧ Below w.heap.size w w' := by
  subst hv
  refine (Tryd.strings_Repeat ⟨#[48]⟩ k w (by omega) (by show 1 * k ≤ _; omega)).mono ?_
  rintro e w' ⟨rfl, hb⟩
  exact ⟨ret_str (by rw [hz]; exact rep_list k), hb⟩

/-- What the law's helper reads of a way, and of what stands about it. -/
structure WC (x want : ByteArray) : Prop where
  r0 : ∀ w, TAB w → Calls Tryd.prog 15 #[.string x, .int .i64 0] w fun e w' => e = .returned (.string want) ∧ Below w.heap.size w w'
  r1 : ∀ w, TAB w → Calls Tryd.prog 15 #[.string (x ++ ⟨#[46]⟩), .int .i64 3] w fun e w' => e = .returned (.string ⟨#[]⟩) ∧ Below w.heap.size w w'
  r2 : ∀ w, TAB w → Calls Tryd.prog 15 #[.string (x ++ ⟨#[32]⟩), .int .i64 3] w fun e w' => e = .returned (.string ⟨#[]⟩) ∧ Below w.heap.size w w'
  r3 : ∀ w, TAB w → Calls Tryd.prog 15 #[.string (⟨#[48]⟩ ++ x), .int .i64 3] w fun e w' => e = .returned (.string ⟨#[]⟩) ∧ Below w.heap.size w w'
  r4 : ∀ w, TAB w → Calls Tryd.prog 15 #[.string (⟨#[43]⟩ ++ x), .int .i64 3] w fun e w' => e = .returned (.string ⟨#[]⟩) ∧ Below w.heap.size w w'
  sz : x.size ≤ 3000
theorem rd_list (x : ByteArray) (l : List UInt8) (h : x.data.toList = l) (hs : x.size ≤ 5000) (hr : readD l = ([], 3)) (w : World) (hT : TAB w) :
    Calls Tryd.prog 15 #[.string x, .int .i64 3] w fun e w' => e = .returned (.string ⟨#[]⟩) ∧ Below w.heap.size w w' :=
  rd_ok x ⟨#[]⟩ 3 (by omega) (by rw [h, hr]) w hT
theorem app1_size (x : ByteArray) (c : UInt8) : (x ++ ⟨#[c]⟩ : ByteArray).size = x.size + 1 := by rw [ByteArray.size_append]; rfl
theorem app1_list (x : ByteArray) (c : UInt8) : (x ++ ⟨#[c]⟩ : ByteArray).data.toList = x.data.toList ++ [c] := by rw [app_list]
theorem pre1_size (x : ByteArray) (c : UInt8) : (⟨#[c]⟩ ++ x : ByteArray).size = x.size + 1 := by rw [ByteArray.size_append, Nat.add_comm]; rfl
theorem pre1_list (x : ByteArray) (c : UInt8) : (⟨#[c]⟩ ++ x : ByteArray).data.toList = c :: x.data.toList := by rw [app_list]; rfl
theorem WC.of {x want : ByteArray} {n e : Int} (h : Way n e x.data.toList) (hn : -1099511627776 ≤ n ∧ n ≤ 1099511627776) (he : -900000 ≤ e ∧ e ≤ 900000) (hw : want.data.toList = (numD n e).text) (hx : x.size ≤ 3000) : WC x want := by
  refine ⟨fun w hT => ?_, fun w hT => ?_, fun w hT => ?_, fun w hT => ?_, fun w hT => ?_, hx⟩
  · exact rd_ok x want 0 (by omega) (by rw [hw]; exact h.read hn he) w hT
  · exact rd_list _ _ (app1_list x 46) (by rw [app1_size]; omega) (h.more (by decide)) w hT
  · exact rd_list _ _ (app1_list x 32) (by rw [app1_size]; omega) (h.more (by decide)) w hT
  · exact rd_list _ _ (pre1_list x 48) (by rw [pre1_size]; omega) h.nought w hT
  · exact rd_list _ _ (pre1_list x 43) (by rw [pre1_size]; omega) h.plus w hT

/-- A row of strings of the call's own, all of them ways. -/
structure RW (w0 w : World) (g : Nat) (xs : List ByteArray) (want : ByteArray) : Prop where
  cell : ∀ (k : Nat) (x : ByteArray), xs[k]? = some x → w.cell? ⟨g, k, none⟩ = some (.string x)
  lt : g < w.heap.size
  all : ∀ (k : Nat) (x : ByteArray), xs[k]? = some x → WC x want
  below : Below w0.heap.size w0 w
theorem RW.later {w0 w w' : World} {g : Nat} {xs : List ByteArray} {want : ByteArray} (h : RW w0 w g xs want) (hb : Below w.heap.size w w') : RW w0 w' g xs want :=
  ⟨fun k x hx => (hb.cell (p := ⟨g, k, none⟩) h.lt).trans (h.cell k x hx), Nat.lt_of_lt_of_le h.lt hb.size, h.all, h.below.trans (hb.mono h.below.size)⟩

theorem RW.two {w0 w : World} {x y want : ByteArray} (hb : Below w0.heap.size w0 w) (hx : WC x want) (hy : WC y want) : RW w0 (w.alloc (.cells #[.string x, .string y] 9)) w.heap.size [x, y] want := by
  have h := heap_new1 w (.cells #[.string x, .string y] 9)
  refine ⟨fun k z hz => ?_, by simp, fun k z hz => ?_, hb.alloc hb.size _⟩
  · rw [blk_cell h]
    match k, hz with
    | 0, hz => cases hz; rfl
    | 1, hz => cases hz; rfl
  · match k, hz with
    | 0, hz => cases hz; exact hx
    | 1, hz => cases hz; exact hy
theorem told_want {n e : Int} (hn : -1099511627776 ≤ n ∧ n ≤ 1099511627776) (he : -900000 ≤ e ∧ e ≤ 900000) {want : ByteArray} (hw : want.data.toList = (numD n e).text) :
    ∃ ds f, Told want.data.toList (decide (n < 0)) ds f true ∧ (n = 0 → ds = ⟨#[48]⟩) ∧ (n ≠ 0 → ds.data.toList ≠ [48] ∧ e ≤ f) ∧ 0 < ds.size := by
  have hN := numD_norm hn (by omega : -900000000 ≤ e ∧ e ≤ 900000000)
  obtain ⟨ds, hds⟩ := str_ex (numD n e).digits
  have hp : parseD want.data.toList = some (numD n e) := by rw [hw]; exact text_parse hN
  have hsz : 0 < ds.size := by
    have := List.length_pos_iff.2 hN.ne
    rw [← hds, size_list] at this; exact this
  by_cases h0 : n = 0
  · subst h0
    have hz : numD 0 e = .zero := by show normalD _ (Lib.decDigits 0) e = _; exact nrm_zero _ _
    refine ⟨ds, (numD 0 e).exp, ?_, fun _ => str_is (by rw [hds, hz]; rfl), fun h => absurd rfl h, hsz⟩
    rw [Told, if_pos rfl, hp, hds, hz]; rfl
  · obtain ⟨z, d, p1, p2, p3, p4, p5, p6⟩ := nrm_pos (n := n.natAbs) (by omega) (decide (n < 0)) e
    have hD : numD n e = ⟨decide (n < 0), d, e + z⟩ := p6
    have hdd : ds.data.toList = d := by rw [hds, hD]
    refine ⟨ds, e + z, ?_, fun h => absurd h h0, fun _ => ⟨fun q => ?_, by omega⟩, hsz⟩
    · rw [Told, if_pos rfl, hp, hD, hdd]
    · rw [hdd] at q; rw [q] at p5; exact p5 rfl
theorem cat5 (a b c d e : ByteArray) : (a ++ b ++ c ++ d ++ e).data.toList = a.data.toList ++ (b.data.toList ++ (c.data.toList ++ (d.data.toList ++ e.data.toList))) := by
  rw [app_list, app_list, app_list, app_list]; simp
theorem cat4 (a b c d : ByteArray) : (a ++ b ++ c ++ d).data.toList = a.data.toList ++ (b.data.toList ++ (c.data.toList ++ d.data.toList)) := by
  rw [app_list, app_list, app_list]; simp
theorem sz5 (a b c d e : ByteArray) : (a ++ b ++ c ++ d ++ e).size = a.size + b.size + c.size + d.size + e.size := by
  rw [ByteArray.size_append, ByteArray.size_append, ByteArray.size_append, ByteArray.size_append]
theorem sz4 (a b c d : ByteArray) : (a ++ b ++ c ++ d).size = a.size + b.size + c.size + d.size := by
  rw [ByteArray.size_append, ByteArray.size_append, ByteArray.size_append]
/-- The four texts, by their parts. -/
theorem wc0 {n e : Int} {k : Nat} {D Z I want : ByteArray} (hD : D.data.toList = Lib.itoa n) (hZ : Z.data.toList = List.replicate k 48) (hI : I.data.toList = Lib.itoa e) (hn : -1099511627776 ≤ n ∧ n ≤ 1099511627776) (he : -1000 ≤ e ∧ e ≤ 1000) (hw : want.data.toList = (numD n e).text)
    (zD : D.size ≤ 21) (zZ : Z.size ≤ 1000) (zI : I.size ≤ 21) : WC (D ++ ⟨#[46]⟩ ++ Z ++ ⟨#[48, 101]⟩ ++ I) want := by
  have hl := cat5 D ⟨#[46]⟩ Z ⟨#[48, 101]⟩ I
  have hz := sz5 D ⟨#[46]⟩ Z ⟨#[48, 101]⟩ I
  have z1 : (⟨#[46]⟩ : ByteArray).size = 1 := rfl
  have z2 : (⟨#[48, 101]⟩ : ByteArray).size = 2 := rfl
  rw [z1, z2] at hz
  generalize D ++ ⟨#[46]⟩ ++ Z ++ ⟨#[48, 101]⟩ ++ I = x at hl hz ⊢
  refine WC.of (n := n) (e := e) ?_ hn (by omega) hw (by omega)
  rw [hl, hD, hZ, hI]; exact way0 n e k he
theorem wc1 {n e : Int} {k : Nat} {D G Z M want : ByteArray} (hD : D.data.toList = Lib.itoa n) (hG : G.data.toList = if e < 0 then [45] else [43]) (hZ : Z.data.toList = List.replicate k 48) (hM : M.data.toList = Lib.decDigits e.natAbs) (hn : -1099511627776 ≤ n ∧ n ≤ 1099511627776) (he : -1000 ≤ e ∧ e ≤ 1000) (hw : want.data.toList = (numD n e).text)
    (zD : D.size ≤ 21) (zG : G.size = 1) (zZ : Z.size ≤ 1000) (zM : M.size ≤ 21) : WC (D ++ ⟨#[69]⟩ ++ G ++ Z ++ M) want := by
  have hl := cat5 D ⟨#[69]⟩ G Z M
  have hz := sz5 D ⟨#[69]⟩ G Z M
  have z1 : (⟨#[69]⟩ : ByteArray).size = 1 := rfl
  rw [z1, zG] at hz
  generalize D ++ ⟨#[69]⟩ ++ G ++ Z ++ M = x at hl hz ⊢
  refine WC.of (n := n) (e := e) ?_ hn (by omega) hw (by omega)
  rw [hl, hD, hG, hZ, hM]; exact way1 n e k he
theorem wc2 {n e : Int} {k : Nat} {D Z I want : ByteArray} (h0 : n ≠ 0) (hk : k ≤ 1000) (hD : D.data.toList = Lib.itoa n) (hZ : Z.data.toList = List.replicate k 48) (hI : I.data.toList = Lib.itoa (e - k)) (hn : -1099511627776 ≤ n ∧ n ≤ 1099511627776) (he : -1000 ≤ e ∧ e ≤ 1000) (hw : want.data.toList = (numD n e).text)
    (zD : D.size ≤ 21) (zZ : Z.size ≤ 1000) (zI : I.size ≤ 21) : WC (D ++ Z ++ ⟨#[101]⟩ ++ I) want ∧ WC (D ++ Z ++ ⟨#[46, 48, 101]⟩ ++ I) want := by
  constructor
  · have hl := cat4 D Z ⟨#[101]⟩ I
    have hz := sz4 D Z ⟨#[101]⟩ I
    have z1 : (⟨#[101]⟩ : ByteArray).size = 1 := rfl
    rw [z1] at hz
    generalize D ++ Z ++ ⟨#[101]⟩ ++ I = x at hl hz ⊢
    refine WC.of (n := n) (e := e) ?_ hn (by omega) hw (by omega)
    rw [hl, hD, hZ, hI]; exact way2 n e k h0 he hk
  · have hl := cat4 D Z ⟨#[46, 48, 101]⟩ I
    have hz := sz4 D Z ⟨#[46, 48, 101]⟩ I
    have z1 : (⟨#[46, 48, 101]⟩ : ByteArray).size = 3 := rfl
    rw [z1] at hz
    generalize D ++ Z ++ ⟨#[46, 48, 101]⟩ ++ I = x at hl hz ⊢
    refine WC.of (n := n) (e := e) ?_ hn (by omega) hw (by omega)
    rw [hl, hD, hZ, hI]; exact way3 n e k h0 he hk
theorem rwant {n e : Int} {D I want : ByteArray} (hD : D.data.toList = Lib.itoa n) (hI : I.data.toList = Lib.itoa e) (hn : -1099511627776 ≤ n ∧ n ≤ 1099511627776) (he : -1000 ≤ e ∧ e ≤ 1000) (hw : want.data.toList = (numD n e).text) (zD : D.size ≤ 21) (zI : I.size ≤ 21) (w : World) (hT : TAB w) :
    Calls Tryd.prog 15 #[.string (D ++ ⟨#[101]⟩ ++ I), .int .i64 0] w fun x w' => x = .returned (.string want) ∧ Below w.heap.size w w' := by
  have hl : (D ++ ⟨#[101]⟩ ++ I : ByteArray).data.toList = D.data.toList ++ 101 :: I.data.toList := by rw [app_list, app_list]; simp
  have hz : (D ++ ⟨#[101]⟩ ++ I : ByteArray).size = D.size + 1 + I.size := by rw [ByteArray.size_append, ByteArray.size_append]; rfl
  generalize D ++ ⟨#[101]⟩ ++ I = x at hl hz ⊢
  have hs : smallL n 0 = Lib.itoa n := by
    unfold smallL smallP
    rw [if_pos rfl, itoa_sign]
    by_cases h : n < 0
    · rw [if_pos h, decide_eq_true h]; rfl
    · rw [if_neg h, decide_eq_false h]; rfl
  have hr : readD x.data.toList = (want.data.toList, 0) := by
    rw [hl, hD, hI, hw, ← hs, small_read_exp n e 0 hn (by omega) (by omega)]
    show ((numD n (e - (0 : Nat))).text, 0) = _
    rw [show e - ((0 : Nat) : Int) = e by omega]
  exact rd_ok x want 0 (by omega) hr w hT

theorem str_info : (Tryd.prog.info? 9).map (fun i => (i.zero, i.size, i.bytes)) = some (some (.string ⟨#[]⟩), 1, 16) := by kernel_rfl
theorem RW.four {w0 w' : World} {v : Value} {x y z u want : ByteArray} (ho : w'.ownsRow w0.heap.size 9 1 v 4 ([.string x, .string y] ++ [.string z, .string u])) (hx : WC x want) (hy : WC y want) (hz : WC z want) (hu : WC u want) (hb : Below w0.heap.size w0 w') :
    ∃ g c, v = .slice (some ⟨g, 0, none⟩) 4 c ∧ RW w0 w' g [x, y, z, u] want := by
  rcases ho.2 with ⟨_, h0⟩ | ⟨g, cap, cur, rfl, hg, hh, h1, h2, h3, h4⟩
  · omega
  · have hl : ∀ k, k < 4 → w'.cell? ⟨g, k, none⟩ = ([.string x, .string y] ++ [.string z, .string u] : List Value)[k]? := fun k hk => by
      rw [blk_cell hh, ← h4, List.getElem?_take, if_pos (by omega), Array.getElem?_toList]
    refine ⟨g, cap, rfl, fun k q hq => ?_, blk_lt hh, fun k q hq => ?_, hb⟩
    · have hk : k < 4 := (List.getElem?_eq_some_iff.1 hq).1
      rw [hl k hk]
      match k, hq with
      | 0, hq => cases hq; rfl
      | 1, hq => cases hq; rfl
      | 2, hq => cases hq; rfl
      | 3, hq => cases hq; rfl
    · match k, hq with
      | 0, hq => cases hq; exact hx
      | 1, hq => cases hq; exact hy
      | 2, hq => cases hq; exact hz
      | 3, hq => cases hq; exact hu
set_option maxRecDepth 100000 in
set_option maxHeartbeats 8000000 in
theorem wayslaw_walk (n p mn : Int) (hn0 : -2147483648 ≤ n) (hn1 : n ≤ 2147483647) (hp : -32768 ≤ p) (hp' : p ≤ 32767) (hm0 : 0 ≤ mn) (hm1 : mn ≤ 255) (w : World) (hT : TAB w) :
    Calls Tryd.prog 7 #[.int .i32 n, .int .i16 p, .int .u8 mn] w fun e w' => e = .returned (.bool true) ∧ Below w.heap.size w w' := by
  obtain ⟨k, hk⟩ : ∃ k, mn % 40 = k := ⟨_, rfl⟩
  obtain ⟨K, hK⟩ : ∃ K : Nat, k = (K : Int) := ⟨k.toNat, by omega⟩
  have hK40 : K ≤ 1000 := by omega
  have hkb : 0 ≤ k ∧ k ≤ 39 := by omega
  obtain ⟨hkb0, hkb1⟩ := hkb
  have tk : mn.tmod 40 = k := by rw [Int.tmod_eq_emod_of_nonneg hm0]; exact hk
  obtain ⟨e, he⟩ : ∃ q, p.tmod 1001 = q := ⟨_, rfl⟩
  have hqb : -1000 ≤ e ∧ e ≤ 1000 := by
    have h1 := Int.tmod_lt_of_pos p (show (0 : Int) < 1001 by omega)
    have h2 := Int.lt_tmod_of_pos p (show (0 : Int) < 1001 by omega)
    omega
  obtain ⟨hq0, hq1⟩ := hqb
  have B0 : -1099511627776 ≤ n ∧ n ≤ 1099511627776 := by omega
  obtain ⟨D, hD⟩ := str_ex (Lib.itoa n)
  have zD : D.size ≤ 21 := by rw [← size_list, hD]; exact Lib.itoa_length_le _ (by omega) (by omega)
  obtain ⟨Z, hZ⟩ := str_ex (List.replicate K 48)
  have zZ : Z.size ≤ 1000 := by rw [← size_list, hZ, List.length_replicate]; omega
  obtain ⟨I, hI⟩ := str_ex (Lib.itoa e)
  have zI : I.size ≤ 21 := by rw [← size_list, hI]; exact Lib.itoa_length_le _ (by omega) (by omega)
  obtain ⟨J, hJ⟩ := str_ex (Lib.itoa (e - K))
  have zJ : J.size ≤ 21 := by rw [← size_list, hJ]; exact Lib.itoa_length_le _ (by omega) (by omega)
  obtain ⟨M, hM⟩ := str_ex (Lib.decDigits e.natAbs)
  have zM : M.size ≤ 21 := by rw [← size_list, hM, ← Lib.itoa_nonneg]; exact Lib.itoa_length_le _ (by omega) (by omega)
  obtain ⟨want, hw, hwz⟩ := txt_ex (n := n) (e := e) B0 (by omega)
  obtain ⟨ds, f, hTd, hz0, hz1, hdsz⟩ := told_want B0 (by omega) hw
  have F1 := Lib.hid (fun w hT => fmt_is n (by omega) (by omega) D hD w hT)
  have F2 := Lib.hid (fun w => rep_is K hK40 Z hZ k hK w)
  have F3 := Lib.hid (fun w0 w hT hb => itoa_is e (by omega) (by omega) I hI w0 w hT hb)
  have F4 : Hid (∀ w0 w, TAB w0 → Below w0.heap.size w0 w → Calls Tryd.prog 17 #[.int .i64 (e - k)] w fun x w' => x = .returned (.string J) ∧ Below w.heap.size w w') := fun w0 w hT hb => itoa_is (e - k) (by omega) (by omega) J (by rw [hJ, hK]) w0 w hT hb
  have F5 := Lib.hid (fun w hT => rwant hD hI B0 (by omega) hw zD zI w hT)
  have F6 := Lib.hid (fun w hT => parts_is want ds (decide (n < 0)) f true (by omega) hTd w hT)
  have W0 := Lib.hid (wc0 hD hZ hI B0 (by omega) hw zD zZ zI)
  have W2 := Lib.hid (fun h0 => wc2 h0 hK40 hD hZ hJ B0 (by omega) hw zD zZ zJ)
  have HT := Lib.hid hT
  have HB : Hid (Below w.heap.size w w) := Below.refl _ _
  have HZ0 := Lib.hid hz0
  have HZ1 := Lib.hid hz1
  have HM := Lib.hid hM
  have hWsz : want.size ≤ 1000 := hwz
  have W1 : ∀ G : ByteArray, G.data.toList = (if e < 0 then [45] else [43]) → G.size = 1 → WC (D ++ ⟨#[69]⟩ ++ G ++ Z ++ M) want := fun G hG zG => wc1 hD hG hZ hM B0 (by omega) hw zD zG zZ zM
  have HW1 := Lib.hid W1
  clear hk hK hD hZ hI hJ hM hw hTd hz0 hz1 hT B0 W1 hwz hK40
  have F7 : Hid (∀ w0 w, TAB w0 → Below w0.heap.size w0 w → Calls Tryd.prog 17 #[.int .i64 (max e (-e))] w fun x w' => x = .returned (.string M) ∧ Below w.heap.size w w') := fun w0 w hT hb => itoa_is (max e (-e)) (by omega) (by omega) M (by rw [HM.out, show max e (-e) = (e.natAbs : Int) by omega, Lib.itoa_nonneg]) w0 w hT hb
  go_enter Tryd.func7, Tryd.ntmps7
  go_upto_if 38 with (first
      | (go_at_call 19; (with_reducible refine (F1.out _ (HT.out.later HB.out)).mono ?_); rintro x w' ⟨rfl, hb'⟩; replace HB := Lib.hid (HB.out.trans (hb'.mono HB.out.size)); clear hb')
      | (go_at_call 20; (with_reducible refine (F2.out _).mono ?_); rintro x w' ⟨rfl, hb'⟩; replace HB := Lib.hid (HB.out.trans (hb'.mono HB.out.size)); clear hb')
      | (go_at_call 17; (first | (with_reducible refine (F3.out w _ HT.out HB.out).mono ?_) | (with_reducible refine (F7.out w _ HT.out HB.out).mono ?_)); rintro x w' ⟨rfl, hb'⟩; replace HB := Lib.hid (HB.out.trans (hb'.mono HB.out.size)); clear hb')
      | (go_at_call 15; (with_reducible refine (F5.out _ (HT.out.later HB.out)).mono ?_); rintro x w' ⟨rfl, hb'⟩; replace HB := Lib.hid (HB.out.trans (hb'.mono HB.out.size)); clear hb'))
  go_cut [12] from 39 to 39 (fun s12 w' => ∃ G : ByteArray, s12 = .string G ∧ Hid (WC (D ++ ⟨#[69]⟩ ++ G ++ Z ++ M) want) ∧ G.size = 1 ∧ Hid (Below w.heap.size w w'))
  case first =>
    by_cases hneg : e < 0
    · have W1 := Lib.hid (HW1.out ⟨#[45]⟩ (by rw [if_pos hneg]) rfl)
      go_wp2
      go_meet
      case rel => exact ⟨_, rfl, W1, rfl, HB⟩
    · have W1 := Lib.hid (HW1.out ⟨#[43]⟩ (by rw [if_neg hneg]) rfl)
      go_wp2
      go_meet
      case rel => exact ⟨_, rfl, W1, rfl, HB⟩
  case rest =>
    obtain ⟨G, rfl, W1, zG, HB⟩ := hcut
    have hzG : G.size ≤ 1 := by omega
    clear zG
    go_upto_if 62 with (first
        | (go_at_call 19; (with_reducible refine (F1.out _ (HT.out.later HB.out)).mono ?_); rintro x w' ⟨rfl, hb'⟩; replace HB := Lib.hid (HB.out.trans (hb'.mono HB.out.size)); clear hb')
        | (go_at_call 20; (with_reducible refine (F2.out _).mono ?_); rintro x w' ⟨rfl, hb'⟩; replace HB := Lib.hid (HB.out.trans (hb'.mono HB.out.size)); clear hb')
        | (go_at_call 17; (first | (with_reducible refine (F3.out w _ HT.out HB.out).mono ?_) | (with_reducible refine (F7.out w _ HT.out HB.out).mono ?_)); rintro x w' ⟨rfl, hb'⟩; replace HB := Lib.hid (HB.out.trans (hb'.mono HB.out.size)); clear hb')
        | (go_at_call 15; (with_reducible refine (F5.out _ (HT.out.later HB.out)).mono ?_); rintro x w' ⟨rfl, hb'⟩; replace HB := Lib.hid (HB.out.trans (hb'.mono HB.out.size)); clear hb'))
    obtain ⟨wq, hwq⟩ : ∃ wq, wq = w' := ⟨w', rfl⟩
    subst hwq
    have H0 := Lib.hid (RW.two HB.out W0.out W1.out)
    have HO := Lib.hid (World.ownsRow_lit (base := w.heap.size) (e := 9) (size := 1) wq #[.string (D ++ ⟨#[46]⟩ ++ Z ++ ⟨#[48, 101]⟩ ++ I), .string (D ++ ⟨#[69]⟩ ++ G ++ Z ++ M)] 2 HB.out.size (by simp only [maxLen]; omega) rfl)
    generalize D ++ ⟨#[46]⟩ ++ Z ++ ⟨#[48, 101]⟩ ++ I = x0 at *
    generalize D ++ ⟨#[69]⟩ ++ G ++ Z ++ M = x1 at *
    generalize hnb : (n != 0) = nb at *
    have HNB := Lib.hid hnb
    clear hnb
    obtain ⟨i0, hi, hz0, hz1, hz2⟩ := info_parts str_info
    go_cut [14] from 63 to 83 (fun s14 w2 => ∃ g c m xs, s14 = .slice (some ⟨g, 0, none⟩) m c ∧ 0 < m ∧ m ≤ 4 ∧ Hid (xs.length = m) ∧ Hid (RW w w2 g xs want))
    case first =>
      have hnb' := HNB.out
      cases nb
      · clear hnb'
        go_wp2
        go_meet
        case rel => exact ⟨wq.heap.size, 2, 2, [x0, x1], rfl, by omega, by omega, rfl, H0⟩
      · have h0 : n ≠ 0 := by simpa using hnb'
        clear hnb'
        obtain ⟨p2, p3⟩ := W2.out h0
        have P2 := Lib.hid p2
        have P3 := Lib.hid p3
        clear h0 p2 p3
        go_wp2_with (first
          | (go_at_call 17; (with_reducible refine (F4.out w _ HT.out H0.out.below).mono ?_); rintro x w' ⟨rfl, hb'⟩; replace HO := Lib.hid (own_keep HO.out hb' (Nat.le_refl _)); replace H0 := Lib.hid (H0.out.later hb'); clear hb')
          | (at_builtin; refine wpList_append_own_at _ rfl (.tmp 63) (.tmp 82) 26 rfl w.heap.size 9 i0 (.string ⟨#[]⟩) 1 16 Tryd.underlying26 hi hz0 hz1 hz2 rfl (by decide) (.slice (some ⟨wq.heap.size, 0, none⟩) 2 2) 2 [.string x0, .string x1] rfl (own_keep HO.out (below_new1 _ _) (Nat.le_refl _)) ⟨w'.heap.size, 0, none⟩ 2 2 [.string (D ++ Z ++ ⟨#[101]⟩ ++ J), .string (D ++ Z ++ ⟨#[46, 48, 101]⟩ ++ J)] rfl rfl ?c1 ?c2 ?c3 ?c4 ?c5 ?_))
        case c1 => exact news_at (heap_new1 _ _)
        case c2 => intro u hu; simp at hu; rcases hu with rfl | rfl <;> rfl
        case c3 => simp only [maxLen]; omega
        case c4 => omega
        case c5 => have := H0.out.below.size; simp; omega
        intro v5 w5 ho5 hg5 _ hbk5
        have hb5 : Below w.heap.size w w5 := below_grown hg5 (own_ge HO.out) (H0.out.below.alloc H0.out.below.size _) (by have := H0.out.below.size; simp; omega)
        obtain ⟨g5, c5, rfl, hR5⟩ := RW.four ho5 (H0.out.all 0 x0 rfl) (H0.out.all 1 x1 rfl) P2.out P3.out hb5
        have HR5 := Lib.hid hR5
        clear hR5 hb5 ho5 hg5 hbk5
        go_wp2
        go_meet
        case rel => exact ⟨g5, c5, 4, [_, _, _, _], rfl, by omega, by omega, rfl, HR5⟩
    case rest =>
      obtain ⟨g, c, m, xs, rfl, hm0', hm4, hxl, HR⟩ := hcut
      clear H0 HO HNB hi hz0 hz1 hz2 W0 W1 W2 HW1 F1 F2 F3 F4 F5 F7
      go_wp2
      go_loopw [15] (fun i wr => ∃ j : Nat, j ≤ m ∧ i = .int .i64 j ∧ Hid (RW w wr g xs want)) (fun i _ => m - (intOf i).toNat)
      case atStart => exact ⟨0, by omega, rfl, HR⟩
      case round =>
        obtain ⟨j, hj, rfl, HR⟩ := hrel
        by_cases hlt : j < m
        · obtain ⟨x, hx⟩ : ∃ x, Hid (xs[j]? = some x) := ⟨xs[j]'(by rw [hxl.out]; exact hlt), List.getElem?_eq_getElem _⟩
          have hW := HR.out.all j x hx.out
          have q0 := Lib.hid hW.r0
          have q1 := Lib.hid hW.r1
          have q2 := Lib.hid hW.r2
          have q3 := Lib.hid hW.r3
          have q4 := Lib.hid hW.r4
          have hxz := hW.sz
          have c0 := HR.out.cell j x hx.out
          clear hW
          go_wp2_with (go_at_call 15; (first
            | (with_reducible refine (q0.out _ (HT.out.later HR.out.below)).mono ?_)
            | (with_reducible refine (q1.out _ (HT.out.later HR.out.below)).mono ?_)
            | (with_reducible refine (q2.out _ (HT.out.later HR.out.below)).mono ?_)
            | (with_reducible refine (q3.out _ (HT.out.later HR.out.below)).mono ?_)
            | (with_reducible refine (q4.out _ (HT.out.later HR.out.below)).mono ?_)); rintro y w' ⟨rfl, hb'⟩; replace HR := Lib.hid (HR.out.later hb'); clear hb' c0; have c0 := HR.out.cell j x hx.out)
          go_roundw
          case rel => exact ⟨j + 1, by omega, by go_num, HR⟩
          case measure => simp [intOf]; omega
        · by_cases h0 : n = 0
          · have hds := HZ0.out h0
            have g3 : ds.toList = [48] := by rw [hds, ByteArray.toList_eq]
            have g2 : (ds.toList == [48]) = true := by rw [g3]; rfl
            obtain ⟨g4, g5⟩ := str_full (t := ds.extract 0 1) (by rw [ByteArray.size_extract]; omega)
            subst h0
            clear hds g3
            go_wp2_with (first
              | (go_at_call 11; (with_reducible refine (F6.out _ (HT.out.later HR.out.below)).mono ?_); rintro y w' ⟨rfl, hb'⟩; replace HR := Lib.hid (HR.out.later hb'); clear hb')
              | (go_at_call 8; (with_reducible refine (lives_any _ (HT.out.later HR.out.below)).mono ?_); rintro y w' ⟨rfl, hb'⟩; replace HR := Lib.hid (HR.out.later hb'); clear hb'))
            all_goals (
              go_ret
              exact ⟨rfl, HR.out.below⟩)
          · obtain ⟨d0, d1⟩ := HZ1.out h0
            have g1 : (n == 0) = false := by simp [h0]
            have g2 : (ds.toList == [48]) = false := by rw [ByteArray.toList_eq]; simpa using d0
            have g3 : ¬ ds.toList = [48] := by rw [ByteArray.toList_eq]; exact d0
            obtain ⟨g4, g5⟩ := str_full (t := ds.extract 0 1) (by rw [ByteArray.size_extract]; omega)
            clear d0 h0
            go_wp2_with (first
              | (go_at_call 11; (with_reducible refine (F6.out _ (HT.out.later HR.out.below)).mono ?_); rintro y w' ⟨rfl, hb'⟩; replace HR := Lib.hid (HR.out.later hb'); clear hb')
              | (go_at_call 8; (with_reducible refine (lives_any _ (HT.out.later HR.out.below)).mono ?_); rintro y w' ⟨rfl, hb'⟩; replace HR := Lib.hid (HR.out.later hb'); clear hb'))
            all_goals (
              go_ret
              exact ⟨rfl, HR.out.below⟩)

end Go.Proofs.YtnoinnninahdiaaDoor
