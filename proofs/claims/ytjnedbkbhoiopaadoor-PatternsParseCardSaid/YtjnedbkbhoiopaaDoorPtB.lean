/- The walk over patterns.word; no statement of the seat is proved here. -/
import Derived.Test.YtjnedbkbhoiopaaDoorPtA
import Derived.Test.YtjnedbkbhoiopaaDoorApp
import Derived.Test.YtjnedbkbhoiopaaDoorAp1
namespace Go.Proofs.YtjnedbkbhoiopaaDoor
open Go.RowKit

/-- A fault's cells. -/
def FB (w : World) (F : Nat) (a b : Int) : Prop := w.heap[F]? = some (.cells #[.int .i64 a, .int .i64 b] 27 (0, 0))
theorem FB.cells {w : World} {F : Nat} {a b : Int} (h : FB w F a b) : w.cell? ⟨F, 0, none⟩ = some (.int .i64 a) ∧ w.cell? ⟨F, 1, none⟩ = some (.int .i64 b) ∧ w.frozen? ⟨F, 0, none⟩ = false ∧ w.frozen? ⟨F, 1, none⟩ = false ∧ F < w.heap.size :=
  ⟨blk_cell h 0, blk_cell h 1, blk_frozen h 0, blk_frozen h 1, blk_lt h⟩
theorem FB.keep {w w' : World} {F : Nat} {a b : Int} (h : FB w F a b) {B : Nat} (hb : Below B w w') (hB : w.heap.size ≤ B) : FB w' F a b := blk_later h hb (Nat.lt_of_lt_of_le (blk_lt h) hB)
theorem FB.new (w : World) (a b : Int) : FB (w.alloc (.cells #[.int .i64 a, .int .i64 b] 27)) w.heap.size a b := heap_new1 w _

theorem byte_info : (Tryd.prog.info? 5).map (fun i => (i.zero, i.size, i.bytes)) = some (some (.int .u8 0), 1, 1) := by kernel_rfl

theorem setCell_same {w : World} {b k : Nat} {cs : Array Value} {T : TypeId} {fz : Nat × Nat} {v : Value} (h : w.heap[b]? = some (.cells cs T fz)) (hk : cs[k]? = some v) : w.setCell ⟨b, k, none⟩ v = w := by
  have hkl : k < cs.size := (Array.getElem?_eq_some_iff.1 hk).1
  have hs : cs.setIfInBounds k v = cs := by
    apply Array.ext_getElem?
    intro i
    rw [Array.getElem?_setIfInBounds]
    split
    · rename_i e
      rw [← e, hk]
    · rfl
  have hh : (w.setCell ⟨b, k, none⟩ v).heap = w.heap := by
    apply Array.ext'
    apply List.ext_getElem?
    intro i
    have hx : (w.setCell ⟨b, k, none⟩ v).heap[i]? = w.heap[i]? := by
      by_cases e : b = i
      · subst e
        simp [World.setCell, Array.getElem?_modify, h, hs]
      · simp [World.setCell, Array.getElem?_modify, e]
    simpa using hx
  show { w with heap := (w.setCell ⟨b, k, none⟩ v).heap } = w
  rw [hh]


def hexS : List UInt8 := [48, 49, 50, 51, 52, 53, 54, 55, 56, 57, 97, 98, 99, 100, 101, 102]
theorem hex_has : ∀ a : UInt8, (decide (0 ≤ Lib.indexByte hexS (lowC a)) && decide (48 ≤ a.toNat)) = hexd a := u8_all (by decide +kernel)
theorem ixH (a : UInt8) (v : Int) (hv : Lib.indexByte hexS (lowC a) = v) (w : World) :
    Calls Tryd.prog 52 #[.string ⟨#[48, 49, 50, 51, 52, 53, 54, 55, 56, 57, 97, 98, 99, 100, 101, 102]⟩, .int .u8 ((lowC a).toNat : Int)] w fun e w' => e = .returned (.int .i64 v) ∧ w = w' :=
  ixS ⟨#[48, 49, 50, 51, 52, 53, 54, 55, 56, 57, 97, 98, 99, 100, 101, 102]⟩ _ (lowC a) rfl v hv w
theorem hexv_is : ∀ c : UInt8, hexd c = false ∨ (hexD c = (hexv c : Int) ∧ hexv c < 16) := u8_all (by decide +kernel)
theorem dgs_two (a b : UInt8) (ha : hexd a = true) (hb : hexd b = true) : dgs [a, b] 2 0 0 = (((UInt8.ofNat (hexv a * 16 + hexv b)).toNat : Int), -1) := by
  obtain ⟨a1, a2⟩ := (hexv_is a).resolve_left (by rw [ha]; decide)
  obtain ⟨b1, b2⟩ := (hexv_is b).resolve_left (by rw [hb]; decide)
  have e0 : hx [a, b] 0 = hexD a := rfl
  have e1 : hx [a, b] 1 = hexD b := rfl
  rw [dgs, e0, if_neg (by omega), dgs, e1, if_neg (by omega), dgs, a1, b1]
  have : (UInt8.ofNat (hexv a * 16 + hexv b)).toNat = hexv a * 16 + hexv b := by
    rw [UInt8.toNat_ofNat']; exact Nat.mod_eq_of_lt (by omega)
  rw [this]
  congr 1
  omega
theorem ext_two (s : ByteArray) (j : Nat) (a b : UInt8) (t : List UInt8) (h : s.data.toList.drop j = a :: b :: t) : (s.extract j (j + 3 - 1)).data.toList = [a, b] := by
  rw [ByteArray.data_extract, Array.toList_extract, List.extract_eq_take_drop, show j + 3 - 1 - j = 2 by omega, h]; rfl
/-- What word answers. -/
def wordV (at_ : Nat) (o : ByteArray) (n : Nat) : Option Nat → Value
  | none => .tuple #[.string o, .int .i64 ((at_ + n : Nat) : Int), .agg #[.int .i64 0, .int .i64 0]]
  | some j => .tuple #[.string ⟨#[]⟩, .int .i64 0, .agg #[.int .i64 3, .int .i64 ((at_ + j : Nat) : Int)]]

set_option maxRecDepth 100000 in
set_option maxHeartbeats 8000000 in
theorem word_is (s : ByteArray) (i : Nat) (hi : i ≤ s.size) (hs : s.size ≤ 1000000) (o : List UInt8) (n : Nat) (b : Option Nat) (hR : wordL (s.data.toList.drop i) = (o, n, b)) (w : World) :
    Calls Tryd.prog 33 #[.string s, .int .i64 (i : Int)] w fun e w' => e = .returned (wordV i ⟨o.toArray⟩ n b) ∧ Below w.heap.size w w' := by
  have HR := Lib.hid hR; clear hR
  obtain ⟨i0, hi0, hz0, hz1, hz2⟩ := info_parts byte_info
  have Hi := Lib.hid hi0; have Hz0 := Lib.hid hz0; have Hz1 := Lib.hid hz1; have Hz2 := Lib.hid hz2
  clear hi0 hz0 hz1 hz2
  go_enter Tryd.func33, Tryd.ntmps33
  go_wp2
  go_loopg [1, 7] (s.size - i) (fun g s1 s7 wr => ∃ (k : Nat) (q : List UInt8) (A : Option Addr) (c : Nat), s1 = .int .i64 ((i + k : Nat) : Int) ∧ s7 = .slice A q.length c ∧ i + k ≤ s.size ∧ q.length ≤ k ∧ Hid (g = s.size - (i + k)) ∧
    Hid (wr.ownsRow (w.heap.size + 1) 5 1 (.slice A q.length c) q.length (byteVals q)) ∧ Hid (wApp q k (wordL (s.data.toList.drop (i + k))) = (o, n, b)) ∧ Hid (FB wr w.heap.size 0 0) ∧ Hid (Below w.heap.size w wr))
  case atStart => exact ⟨0, [], none, 0, rfl, rfl, by omega, by simp, by show _ = _; omega, World.ownsRow_nil _ _ _ _, by
    show _ = _
    rw [Nat.add_zero, wApp_zero, HR.out], FB.new w 0 0, below_new1 w _⟩
  case round =>
    obtain ⟨k, q, A, c, rfl, rfl, hk, hq, hg, HO, HW, HF, HB⟩ := hrel
    obtain ⟨f0, f1, g0, g1, hFlt⟩ := HF.out.cells
    by_cases hlt : i + k < s.size
    · have hd : s.data.toList.drop (i + k) = s[i + k] :: s.data.toList.drop (i + k + 1) := List.drop_eq_getElem_cons (l := s.data.toList) (i := i + k) hlt
      by_cases h37 : s[i + k] = 37
      · have b37 : ((s[i + k].toNat : Int) == 37) = true := by rw [h37]; rfl
        have b38 : ((s[i + k].toNat : Int) != 37) = false := by rw [h37]; rfl
        by_cases p1 : i + k + 1 < s.size
        · have hd1 : s.data.toList.drop (i + k + 1) = s[i + k + 1] :: s.data.toList.drop (i + k + 2) := List.drop_eq_getElem_cons (l := s.data.toList) (i := i + k + 1) p1
          obtain ⟨v1, hv1⟩ : ∃ v, Lib.indexByte hexS (lowC s[i + k + 1]) = v := ⟨_, rfl⟩
          have hx1 := hex_has s[i + k + 1]
          rw [hv1] at hx1
          have I1 := Lib.hid (fun w => ixH s[i + k + 1] v1 hv1 w)
          have lb1 : bits .or .u8 (s[i + k + 1].toNat : Int) 32 = ((lowC s[i + k + 1]).toNat : Int) := low_bits _
          clear hv1
          by_cases ha : hexd s[i + k + 1] = true
          · rw [ha, Bool.and_eq_true, decide_eq_true_iff, decide_eq_true_iff] at hx1
            obtain ⟨x1, y1⟩ := hx1
            by_cases p2 : i + k + 1 + 1 < s.size
            · have hd2 : s.data.toList.drop (i + k + 2) = s[i + k + 1 + 1] :: s.data.toList.drop (i + k + 3) := List.drop_eq_getElem_cons (l := s.data.toList) (i := i + k + 2) p2
              obtain ⟨v2, hv2⟩ : ∃ v, Lib.indexByte hexS (lowC s[i + k + 1 + 1]) = v := ⟨_, rfl⟩
              have hx2 := hex_has s[i + k + 1 + 1]
              rw [hv2] at hx2
              have I2 := Lib.hid (fun w => ixH s[i + k + 1 + 1] v2 hv2 w)
              have lb2 : bits .or .u8 (s[i + k + 1 + 1].toNat : Int) 32 = ((lowC s[i + k + 1 + 1]).toNat : Int) := low_bits _
              clear hv2
              by_cases hb : hexd s[i + k + 1 + 1] = true
              · have hR1 : Hid (wApp (q ++ [UInt8.ofNat (hexv s[i + k + 1] * 16 + hexv s[i + k + 1 + 1])]) (k + 3) (wordL (s.data.toList.drop (i + k + 3))) = (o, n, b)) := by
                  show _ = _
                  rw [← HW.out, hd, h37, hd1, hd2, wordL_hex ha hb, wApp_app]
                have hdd := dgs_two s[i + k + 1] s[i + k + 1 + 1] ha hb
                have hex := ext_two s (i + k + 1) s[i + k + 1] s[i + k + 1 + 1] _ (by rw [hd1, hd2])
                rw [show i + k + 1 + 3 - 1 = i + k + 3 by omega] at hex
                have hsz : (s.extract (i + k + 1) (i + k + 3)).size = 2 := by
                  have e : (s.extract (i + k + 1) (i + k + 3)).data.toList.length = (s.extract (i + k + 1) (i + k + 3)).size := rfl
                  rw [← e, hex]; rfl
                rw [← hex] at hdd
                rw [hb, Bool.and_eq_true, decide_eq_true_iff, decide_eq_true_iff] at hx2
                obtain ⟨x2, y2⟩ := hx2
                obtain ⟨x, hxx⟩ : ∃ x : UInt8, x = UInt8.ofNat (hexv s[i + k + 1] * 16 + hexv s[i + k + 1 + 1]) := ⟨_, rfl⟩
                rw [← hxx] at hdd hR1
                have PU := Lib.hid (fun w => pu8 (s.extract (i + k + 1) (i + k + 3)) (by omega) (by omega) (x.toNat : Int) (by rw [hsz]; exact hdd) w)
                have xl := x.toNat_lt
                clear hxx hdd hex hd hd1 hd2 ha hb h37
                go_wp2
                refine wp_loop_rounds 4 ?_
                rw [rounds_succ]
                go_wp2_with (go_at_call 52; (first | (with_reducible refine (I1.out _).mono ?_) | (with_reducible refine (I2.out _).mono ?_)); rintro x w' ⟨rfl, rfl⟩)
                rw [rounds_succ]
                go_wp2_with (go_at_call 52; (first | (with_reducible refine (I1.out _).mono ?_) | (with_reducible refine (I2.out _).mono ?_)); rintro x w' ⟨rfl, rfl⟩)
                rw [rounds_succ]
                go_wp2_with (first
                  | (go_at_call 53; (with_reducible refine (PU.out _).mono ?_); rintro e w' ⟨rfl, hb'⟩; replace HO := Lib.hid (own_keep HO.out hb' (Nat.le_refl _)); replace HF := Lib.hid (HF.out.keep hb' (Nat.le_refl _)); replace HB := Lib.hid (HB.out.trans (hb'.mono HB.out.size)); clear hb' f0 f1 g0 g1 hFlt; obtain ⟨f0, f1, g0, g1, hFlt⟩ := HF.out.cells)
                  | (at_builtin; refine wpList_app1 _ rfl _ _ 72 rfl (w.heap.size + 1) 5 i0 _ 1 1 Tryd.underlying72 Hi.out Hz0.out Hz1.out Hz2.out rfl (by decide) A q.length c (byteVals q) rfl HO.out [.int .u8 (x.toNat : Int)] _ rfl rfl (fun u hu => by simp at hu; subst hu; rfl) (by omega) (by decide) (by omega) ?_; intro A' c' w1 hown1 hc1 hb1))
                go_roundg (s.size - (i + (k + 3)))
                case measure => have := hg.out; omega
                case rel =>
                  refine ⟨k + 3, q ++ [x], A', c', by go_num, by rw [List.length_append]; rfl, by omega, by rw [List.length_append]; show q.length + 1 ≤ _; omega, rfl, ?_, hR1, blk_later HF.out hb1 (by omega), HB.out.trans (hb1.mono (by omega))⟩
                  show World.ownsRow _ _ _ _ _ _ _
                  rw [List.length_append]
                  simpa [byteVals] using hown1
              · have hxf : v2 < 0 ∨ (0 ≤ v2 ∧ s[i + k + 1 + 1].toNat < 48) := by
                  have hbf : hexd s[i + k + 1 + 1] = false := by simpa using hb
                  rw [hbf, Bool.and_eq_false_iff, decide_eq_false_iff_not, decide_eq_false_iff_not] at hx2; omega
                have hR1 : Hid (([], 0, some (k + 2)) = (o, n, b)) := by
                  show _ = _
                  rw [← HW.out, hd, h37]
                  rw [hd1, wordL_bad2 ha (by rw [hd2]; rintro _ ⟨⟩; simpa using hb)]; rfl
                have mn : min ((i : Int) + (k : Int) + 1 + 1) (s.size : Int) = (i : Int) + (k : Int) + 2 := by omega
                clear hd
                rcases hxf with g | ⟨g, g'⟩
                all_goals clear hb ha h37 hx2 hd1 hd2
                all_goals (
                  go_wp2
                  refine wp_loop_rounds 4 ?_
                  rw [rounds_succ]
                  go_wp2_with (first
                    | (go_at_call 52; (first | (with_reducible refine (I1.out _).mono ?_) | (with_reducible refine (I2.out _).mono ?_)); rintro x w' ⟨rfl, rfl⟩)
                    | (go_at_call 26; (with_reducible refine (wrong_any _ _).mono ?_); rintro x w' ⟨rfl, hb'⟩; replace HF := Lib.hid (HF.out.keep hb' (Nat.le_refl _)); replace HB := Lib.hid (HB.out.trans (hb'.mono HB.out.size)); clear hb' f0 f1 g0 g1 hFlt; obtain ⟨f0, f1, g0, g1, hFlt⟩ := HF.out.cells))
                  rw [rounds_succ]
                  go_wp2_with (first
                    | (go_at_call 52; (first | (with_reducible refine (I1.out _).mono ?_) | (with_reducible refine (I2.out _).mono ?_)); rintro x w' ⟨rfl, rfl⟩)
                    | (go_at_call 26; (with_reducible refine (wrong_any _ _).mono ?_); rintro x w' ⟨rfl, hb'⟩; replace HF := Lib.hid (HF.out.keep hb' (Nat.le_refl _)); replace HB := Lib.hid (HB.out.trans (hb'.mono HB.out.size)); clear hb' f0 f1 g0 g1 hFlt; obtain ⟨f0, f1, g0, g1, hFlt⟩ := HF.out.cells))
                  exact bodyPost_ret (v := .tuple #[.string ⟨#[]⟩, .int .i64 0, .agg #[.int .i64 3, .int .i64 ((i : Int) + (k : Int) + 2)]]) (by simp [results, Tryd.results33, go_sem, f0, f1]) rfl ⟨by cases hR1.out; simp [wordV]; try omega, (HB.out.setCell (Nat.le_refl _) _).setCell (Nat.le_refl _) _⟩)
            · -- ends behind one
              have hR1 : Hid (([], 0, some (k + 2)) = (o, n, b)) := by
                show _ = _
                rw [← HW.out, hd, h37]
                rw [hd1, List.drop_eq_nil_of_le (show s.data.toList.length ≤ i + k + 2 by show s.size ≤ _; omega), wordL_bad2 ha (by rintro _ ⟨⟩)]; rfl
              have mn : min ((i : Int) + (k : Int) + 1 + 1) (s.size : Int) = (i : Int) + (k : Int) + 2 := by omega
              clear hd
              go_wp2
              refine wp_loop_rounds 4 ?_
              rw [rounds_succ]
              go_wp2_with (first
                | (go_at_call 52; (first | (with_reducible refine (I1.out _).mono ?_)); rintro x w' ⟨rfl, rfl⟩)
                | (go_at_call 26; (with_reducible refine (wrong_any _ _).mono ?_); rintro x w' ⟨rfl, hb'⟩; replace HF := Lib.hid (HF.out.keep hb' (Nat.le_refl _)); replace HB := Lib.hid (HB.out.trans (hb'.mono HB.out.size)); clear hb' f0 f1 g0 g1 hFlt; obtain ⟨f0, f1, g0, g1, hFlt⟩ := HF.out.cells))
              rw [rounds_succ]
              go_wp2_with (first
                | (go_at_call 52; (first | (with_reducible refine (I1.out _).mono ?_)); rintro x w' ⟨rfl, rfl⟩)
                | (go_at_call 26; (with_reducible refine (wrong_any _ _).mono ?_); rintro x w' ⟨rfl, hb'⟩; replace HF := Lib.hid (HF.out.keep hb' (Nat.le_refl _)); replace HB := Lib.hid (HB.out.trans (hb'.mono HB.out.size)); clear hb' f0 f1 g0 g1 hFlt; obtain ⟨f0, f1, g0, g1, hFlt⟩ := HF.out.cells))
              exact bodyPost_ret (v := .tuple #[.string ⟨#[]⟩, .int .i64 0, .agg #[.int .i64 3, .int .i64 ((i : Int) + (k : Int) + 2)]]) (by simp [results, Tryd.results33, go_sem, f0, f1]) rfl ⟨by cases hR1.out; simp [wordV]; try omega, (HB.out.setCell (Nat.le_refl _) _).setCell (Nat.le_refl _) _⟩
          · have hxf : v1 < 0 ∨ (0 ≤ v1 ∧ s[i + k + 1].toNat < 48) := by
              have haf : hexd s[i + k + 1] = false := by simpa using ha
              rw [haf, Bool.and_eq_false_iff, decide_eq_false_iff_not, decide_eq_false_iff_not] at hx1; omega
            have hR1 : Hid (([], 0, some (k + 1)) = (o, n, b)) := by
              show _ = _
              rw [← HW.out, hd, h37]
              rw [wordL_bad1 (by rw [hd1]; rintro _ ⟨⟩; simpa using ha)]; rfl
            have mn : min ((i : Int) + (k : Int) + 1) (s.size : Int) = (i : Int) + (k : Int) + 1 := by omega
            clear hd
            rcases hxf with g | ⟨g, g'⟩
            all_goals clear ha h37 hx1 hd1
            all_goals (
              go_wp2
              refine wp_loop_rounds 4 ?_
              rw [rounds_succ]
              go_wp2_with (first
                | (go_at_call 52; (first | (with_reducible refine (I1.out _).mono ?_)); rintro x w' ⟨rfl, rfl⟩)
                | (go_at_call 26; (with_reducible refine (wrong_any _ _).mono ?_); rintro x w' ⟨rfl, hb'⟩; replace HF := Lib.hid (HF.out.keep hb' (Nat.le_refl _)); replace HB := Lib.hid (HB.out.trans (hb'.mono HB.out.size)); clear hb' f0 f1 g0 g1 hFlt; obtain ⟨f0, f1, g0, g1, hFlt⟩ := HF.out.cells))
              exact bodyPost_ret (v := .tuple #[.string ⟨#[]⟩, .int .i64 0, .agg #[.int .i64 3, .int .i64 ((i : Int) + (k : Int) + 1)]]) (by simp [results, Tryd.results33, go_sem, f0, f1]) rfl ⟨by cases hR1.out; simp [wordV]; try omega, (HB.out.setCell (Nat.le_refl _) _).setCell (Nat.le_refl _) _⟩)
        · -- ends at once
          have hR1 : Hid (([], 0, some (k + 1)) = (o, n, b)) := by
            show _ = _
            rw [← HW.out, hd, h37]
            rw [List.drop_eq_nil_of_le (show s.data.toList.length ≤ i + k + 1 by show s.size ≤ _; omega)]; rfl
          have mn : min ((i : Int) + (k : Int) + 1) (s.size : Int) = (i : Int) + (k : Int) + 1 := by omega
          clear hd
          go_wp2
          refine wp_loop_rounds 4 ?_
          rw [rounds_succ]
          go_wp2_with (first
            | (go_at_call 26; (with_reducible refine (wrong_any _ _).mono ?_); rintro x w' ⟨rfl, hb'⟩; replace HF := Lib.hid (HF.out.keep hb' (Nat.le_refl _)); replace HB := Lib.hid (HB.out.trans (hb'.mono HB.out.size)); clear hb' f0 f1 g0 g1 hFlt; obtain ⟨f0, f1, g0, g1, hFlt⟩ := HF.out.cells))
          exact bodyPost_ret (v := .tuple #[.string ⟨#[]⟩, .int .i64 0, .agg #[.int .i64 3, .int .i64 ((i : Int) + (k : Int) + 1)]]) (by simp [results, Tryd.results33, go_sem, f0, f1]) rfl ⟨by cases hR1.out; simp [wordV]; try omega, (HB.out.setCell (Nat.le_refl _) _).setCell (Nat.le_refl _) _⟩
      · have b37 : ((s[i + k].toNat : Int) == 37) = false := by
          simp only [beq_eq_false_iff_ne, ne_eq]
          intro e; exact h37 (UInt8.toNat_inj.1 (by simpa using (by omega : s[i + k].toNat = 37)))
        have HD := Lib.hid hd; clear hd
        obtain ⟨sp, hsp⟩ : ∃ sp, spec s[i + k] = sp := ⟨_, rfl⟩
        have SP := Lib.hid (fun w => special_any s[i + k] sp hsp w)
        have HS := Lib.hid hsp
        clear hsp
        cases sp
        · clear h37
          have hR1 : Hid (wApp (q ++ [s[i + k]]) (k + 1) (wordL (s.data.toList.drop (i + k + 1))) = (o, n, b)) := by
            show _ = _
            rw [← HW.out, HD.out, wordL_plain HS.out, wApp_app]
          go_wp2_with (first
            | (go_at_call 35; (with_reducible refine (SP.out _).mono ?_); rintro x w' ⟨rfl, rfl⟩)
            | (at_builtin; refine wpList_app1 _ rfl _ _ 72 rfl (w.heap.size + 1) 5 i0 _ 1 1 Tryd.underlying72 Hi.out Hz0.out Hz1.out Hz2.out rfl (by decide) A q.length c (byteVals q) rfl HO.out [.int .u8 (s[i + k].toNat : Int)] _ rfl rfl (fun u hu => by simp at hu; subst hu; rfl) (by omega) (by decide) (by omega) ?_; intro A' c' w1 hown1 hc1 hb1))
          go_roundg (s.size - (i + (k + 1)))
          case measure => have := hg.out; omega
          case rel =>
            refine ⟨k + 1, q ++ [s[i + k]], A', c', by go_num, by rw [List.length_append]; rfl, by omega, by rw [List.length_append]; show q.length + 1 ≤ _; omega, rfl, ?_, hR1, blk_later HF.out hb1 (by omega), HB.out.trans (hb1.mono (by omega))⟩
            show World.ownsRow _ _ _ _ _ _ _
            rw [List.length_append]
            simpa [byteVals] using hown1
        · have hR1 : Hid ((q, k, none) = (o, n, b)) := by
            show _ = _
            rw [← HW.out, HD.out, wordL_stop HS.out h37]; simp [wApp]
          clear h37
          obtain ⟨_, hBS⟩ := own_bs HO.out
          have hBS' : BS wr.drew wr.drew.heap.size A q := hBS
          have CV := Lib.hid (conv_bs wr.drew 72 9 5 Tryd.underlying72 Tryd.underlying5 Tryd.underlying9 hBS' c)
          go_wp2_with (first
            | (go_at_call 35; (with_reducible refine (SP.out _).mono ?_); rintro x w' ⟨rfl, rfl⟩))
          have cv := CV.out
          go_region
          rw [setCell_same HF.out rfl, setCell_same HF.out rfl]
          go_wp2
          exact bodyPost_ret (v := .tuple #[.string ⟨q.toArray⟩, .int .i64 ((i : Int) + (k : Int)), .agg #[.int .i64 0, .int .i64 0]]) (by simp [results, Tryd.results33, go_sem, f0, f1]) rfl ⟨by cases hR1.out; simp [wordV], HB.out.drew⟩
    · have hkm : i + k = s.size := by omega
      have hR1 : Hid ((q, k, none) = (o, n, b)) := by
        show _ = _
        rw [← HW.out, List.drop_eq_nil_of_le (by show s.size ≤ i + k; omega), wordL_nil]; simp [wApp]
      clear hkm
      obtain ⟨_, hBS⟩ := own_bs HO.out
      have hBS' : BS wr.drew wr.drew.heap.size A q := hBS
      have CV := Lib.hid (conv_bs wr.drew 72 9 5 Tryd.underlying72 Tryd.underlying5 Tryd.underlying9 hBS' c)
      go_wp2
      have cv := CV.out
      go_region
      rw [setCell_same HF.out rfl, setCell_same HF.out rfl]
      go_wp2
      exact bodyPost_ret (v := .tuple #[.string ⟨q.toArray⟩, .int .i64 ((i : Int) + (k : Int)), .agg #[.int .i64 0, .int .i64 0]]) (by simp [results, Tryd.results33, go_sem, f0, f1]) rfl ⟨by cases hR1.out; simp [wordV], HB.out.drew⟩

end Go.Proofs.YtjnedbkbhoiopaaDoor
