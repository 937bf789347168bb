/- Walks over package tkeys: bare, Bare; no statement of the seat is proved here. -/
import Derived.Test.YtflfedfghnnaeaaDoorTqW
import Derived.Test.YtflfedfghnnaeaaDoorShelf
namespace Go.Proofs.YtflfedfghnnaeaaDoor
open Go.RowKit

theorem ret_boo {a b : Bool} (h : a = b) : Ending.returned (.bool a) = .returned (.bool b) := by rw [h]
/-- Bytes of a bare word. -/
def bareB (c : Nat) : Bool := (decide (97 ≤ c) && decide (c ≤ 122)) || (decide (65 ≤ c) && decide (c ≤ 90)) || (decide (48 ≤ c) && decide (c ≤ 57)) || decide (c = 95) || decide (c = 45)
set_option maxHeartbeats 2000000 in
theorem bare_is (c : Nat) (hc : c < 256) (w : World) : Calls Tryd.prog 23 #[.int .u8 (c : Int)] w fun e w' => e = .returned (.bool (bareB c)) ∧ w = w' := by
  have fin : ∀ x : Bool, bareB c = x → ∀ w : World, (Calls Tryd.prog 23 #[.int .u8 (c : Int)] w fun e w' => e = .returned (.bool x) ∧ w = w') → Calls Tryd.prog 23 #[.int .u8 (c : Int)] w fun e w' => e = .returned (.bool (bareB c)) ∧ w = w' := by
    intro x h w hw; rw [h]; exact hw
  by_cases h1 : 97 ≤ c
  · by_cases h2 : c ≤ 122
    · refine fin true (by simp [bareB]; omega) w ?_
      clear fin
      go_enter Tryd.func23, Tryd.ntmps23
      go_wp2
      go_ret
      first | exact ⟨rfl, rfl⟩ | exact ⟨ret_boo (by simp; omega), rfl⟩
    · refine fin false (by simp [bareB]; omega) w ?_
      clear fin
      have b1 : ((c : Int) == 95) = false := by simp; omega
      have b2 : ((c : Int) == 45) = false := by simp; omega
      go_enter Tryd.func23, Tryd.ntmps23
      go_wp2
      go_ret
      first | exact ⟨rfl, rfl⟩ | exact ⟨ret_boo (by simp; omega), rfl⟩
  · by_cases h3 : 65 ≤ c
    · by_cases h4 : c ≤ 90
      · refine fin true (by simp [bareB]; omega) w ?_
        clear fin
        go_enter Tryd.func23, Tryd.ntmps23
        go_wp2
        go_ret
        first | exact ⟨rfl, rfl⟩ | exact ⟨ret_boo (by simp; omega), rfl⟩
      · have b2 : ((c : Int) == 45) = false := by simp; omega
        by_cases h5 : c = 95
        · have b1 : ((c : Int) == 95) = true := by simp; omega
          refine fin true (by simp [bareB]; omega) w ?_
          clear fin h5
          go_enter Tryd.func23, Tryd.ntmps23
          go_wp2
          go_ret
          first | exact ⟨rfl, rfl⟩ | exact ⟨ret_boo (by simp; omega), rfl⟩
        · have b1 : ((c : Int) == 95) = false := by simp; omega
          refine fin false (by simp [bareB]; omega) w ?_
          clear fin h5
          go_enter Tryd.func23, Tryd.ntmps23
          go_wp2
          go_ret
          first | exact ⟨rfl, rfl⟩ | exact ⟨ret_boo (by simp; omega), rfl⟩
    · have b1 : ((c : Int) == 95) = false := by simp; omega
      by_cases h6 : 48 ≤ c
      · have b2 : ((c : Int) == 45) = false := by simp; omega
        by_cases h7 : c ≤ 57
        · refine fin true (by simp [bareB]; omega) w ?_
          clear fin
          go_enter Tryd.func23, Tryd.ntmps23
          go_wp2
          go_ret
          first | exact ⟨rfl, rfl⟩ | exact ⟨ret_boo (by simp; omega), rfl⟩
        · refine fin false (by simp [bareB]; omega) w ?_
          clear fin
          go_enter Tryd.func23, Tryd.ntmps23
          go_wp2
          go_ret
          first | exact ⟨rfl, rfl⟩ | exact ⟨ret_boo (by simp; omega), rfl⟩
      · by_cases h8 : c = 45
        · have b2 : ((c : Int) == 45) = true := by simp; omega
          refine fin true (by simp [bareB]; omega) w ?_
          clear fin h8
          go_enter Tryd.func23, Tryd.ntmps23
          go_wp2
          go_ret
          first | exact ⟨rfl, rfl⟩ | exact ⟨ret_boo (by simp; omega), rfl⟩
        · have b2 : ((c : Int) == 45) = false := by simp; omega
          refine fin false (by simp [bareB]; omega) w ?_
          clear fin h8
          go_enter Tryd.func23, Tryd.ntmps23
          go_wp2
          go_ret
          first | exact ⟨rfl, rfl⟩ | exact ⟨ret_boo (by simp; omega), rfl⟩

/-- A rune that may not stand in a bare word. -/
def wildR (r : Nat) : Bool := decide (128 ≤ r) || !bareB r
set_option maxRecDepth 100000 in
theorem bare1_is (r : Nat) (hr : r ≤ 1114111) (w : World) : Calls Tryd.prog 22 #[.int .i32 (r : Int)] w fun e w' => e = .returned (.bool (wildR r)) ∧ w = w' := by
  by_cases h : 128 ≤ r
  · have hw : Hid (wildR r = true) := by show _ = _; simp [wildR, h]
    clear hr
    go_enter Tryd.func22, Tryd.ntmps22
    go_wp2
    go_ret
    exact ⟨by rw [hw.out]; rfl, rfl⟩
  · have hw : Hid (wildR r = !bareB r) := by show _ = _; simp [wildR, h]
    obtain ⟨x, hx⟩ : ∃ x, bareB r = x := ⟨_, rfl⟩
    have hb := fun w => bare_is r (by omega) w
    rw [hx] at hb hw
    have HB := Lib.hid hb
    have hr' : r < 128 := by omega
    clear hx hb hr
    have b128 : decide ((128 : Int) ≤ (r : Int)) = false := by simp; omega
    cases x
    all_goals (
      go_enter Tryd.func22, Tryd.ntmps22
      go_wp2_with (go_at_call 23; (with_reducible refine (HB.out _).mono ?_); rintro e w' ⟨rfl, rfl⟩)
      go_ret
      exact ⟨by rw [hw.out]; rfl, rfl⟩)

/-- Is a word bare? -/
def bareW (s : ByteArray) : Bool := !s.toList.isEmpty && decide (Lib.idxFunc wildR true s < 0)
set_option maxRecDepth 100000 in
theorem bareW_is (s : ByteArray) (w : World) : Calls Tryd.prog 10 #[.string s] w fun e w' => e = .returned (.bool (bareW s)) ∧ Below w.heap.size w w' := by
  have hp : PredGrows Tryd.prog 22 #[] wildR w := fun W x hx _ => (bare1_is x hx W).mono fun e w' ⟨h1, h2⟩ => ⟨h1, h2 ▸ Below.refl _ _⟩
  have IX := Lib.hid (Tryd.strings_IndexFunc_grows 22 #[] (fun _ _ => by kernel_rfl) wildR s w hp)
  clear hp
  obtain ⟨v, hv⟩ : ∃ v, Lib.idxFunc wildR true s = v := ⟨_, rfl⟩
  rw [hv] at IX
  have hw : Hid (bareW s = (!s.toList.isEmpty && decide (v < 0))) := by show _ = _; rw [bareW, hv]
  clear hv
  cases he : s.toList.isEmpty
  · go_enter Tryd.func10, Tryd.ntmps10
    go_wp2_with (go_at_call 21; (with_reducible refine Calls.mono IX.out ?_); rintro e w' ⟨rfl, hb⟩)
    go_ret
    exact ⟨by rw [hw.out, he]; rfl, hb⟩
  · go_enter Tryd.func10, Tryd.ntmps10
    go_wp2
    go_ret
    exact ⟨by rw [hw.out, he]; rfl, Below.refl _ _⟩

/-- A word of a key, as it is written; a key. -/
def keyW (s : ByteArray) : ByteArray := if bareW s then s else ⟨(writeQ s.data.toList).toArray⟩
def keyL (ws : List ByteArray) : List UInt8 := Lib.join ((ws.map keyW).map (·.data.toList)) [46]
theorem keyW_size (s : ByteArray) (h : s.size ≤ 1000000) : (keyW s).size ≤ 6000002 := by
  unfold keyW
  split
  · omega
  · have : (writeQ s.data.toList).length ≤ 6 * s.data.toList.length + 2 := by
      have hl : ∀ l : List UInt8, (l.flatMap wrB).length ≤ 6 * l.length := by
        intro l
        induction l with
        | nil => simp
        | cons c l ih => have := wrB_len c; simp at ih ⊢; omega
      have := hl s.data.toList
      simp [writeQ] at this ⊢; omega
    have hs : s.data.toList.length = s.size := by simp
    show (writeQ s.data.toList).toArray.size ≤ _
    simp at this ⊢; omega
/-- Strings in memory, at a plain address. -/
def StrM (w : World) (A : Option Addr) (ws : List ByteArray) : Prop := ws = [] ∨ ∃ b o, A = some ⟨b, o, none⟩ ∧ b < w.heap.size ∧ ∀ j, j < ws.length → w.cell? ⟨b, o + j, none⟩ = some (.string (ws.getD j ByteArray.empty))
theorem StrM.keep {w w' : World} {A : Option Addr} {ws : List ByteArray} (h : StrM w A ws) {B : Nat} (hb : Below B w w') (hB : w.heap.size ≤ B) : StrM w' A ws := by
  rcases h with h | ⟨b, o, e, hl, hc⟩
  · exact .inl h
  · exact .inr ⟨b, o, e, by have := hb.size; omega, fun j hj => (hb.cell (by show b < B; omega)).trans (hc j hj)⟩
theorem StrM.made (w : World) (s : ByteArray) : StrM (w.alloc (.cells #[.string s] 9)) (some ⟨w.heap.size, 0, none⟩) [s] :=
  .inr ⟨w.heap.size, 0, rfl, by simp, fun j hj => by
    obtain rfl : j = 0 := by simpa using hj
    exact blk_cell (heap_new1 w _) 0⟩

/-- A row of strings of the call's own. -/
def SRow (w : World) (g : Nat) (xs : List ByteArray) : Prop := ∃ cur : Array Value, w.heap[g]? = some (.cells cur 9 (0, 0)) ∧ ∀ j, j < xs.length → cur[j]? = some (.string (xs.getD j ByteArray.empty))
theorem SRow.keep {w w' : World} {g : Nat} {xs : List ByteArray} (h : SRow w g xs) {B : Nat} (hb : Below B w w') (hB : w.heap.size ≤ B) : SRow w' g xs := by
  obtain ⟨cur, h1, h2⟩ := h
  exact ⟨cur, blk_later h1 hb (Nat.lt_of_lt_of_le (blk_lt h1) hB), h2⟩
theorem SRow.cell {w : World} {g : Nat} {xs : List ByteArray} (h : SRow w g xs) {j : Nat} (hj : j < xs.length) : w.cell? ⟨g, j, none⟩ = some (.string (xs.getD j ByteArray.empty)) ∧ w.frozen? ⟨g, j, none⟩ = false ∧ g < w.heap.size := by
  obtain ⟨cur, h1, h2⟩ := h
  exact ⟨(blk_cell h1 j).trans (h2 j hj), blk_frozen h1 j, blk_lt h1⟩
theorem getD_set (xs : List ByteArray) (k j : Nat) (s : ByteArray) (hj : j < xs.length) : (xs.set k s).getD j ByteArray.empty = if k = j then s else xs.getD j ByteArray.empty := by
  rw [List.getD_eq_getElem?_getD, List.getD_eq_getElem?_getD, List.getElem?_set]
  by_cases h : k = j
  · subst h; simp [hj]
  · simp [h]
theorem SRow.set {w : World} {g : Nat} {xs : List ByteArray} (h : SRow w g xs) (k : Nat) (s : ByteArray) : SRow (w.setCell ⟨g, k, none⟩ (.string s)) g (xs.set k s) := by
  obtain ⟨cur, h1, h2⟩ := h
  refine ⟨cur.setIfInBounds k (.string s), by simp [World.setCell, Array.getElem?_modify, h1], fun j hj => ?_⟩
  rw [List.length_set] at hj
  have hc := (Array.getElem?_eq_some_iff.1 (h2 j hj)).1
  rw [getD_set xs k j s hj, Array.getElem?_setIfInBounds]
  by_cases hk : k = j
  · subst hk; rw [if_pos rfl, if_pos hc, if_pos rfl]
  · rw [if_neg hk, if_neg hk]; exact h2 j hj
theorem SRow.of_own {w : World} {base : Nat} {v : Value} {n : Nat} {xs : List ByteArray} (h : w.ownsRow base 9 1 v n (xs.map Value.string)) (hn : 0 < n) : ∃ g c, v = .slice (some ⟨g, 0, none⟩) n c ∧ base ≤ g ∧ n ≤ c ∧ xs.length = n ∧ SRow w g xs := by
  obtain ⟨hl, h⟩ := h
  rcases h with ⟨_, h⟩ | ⟨g, cap, cur, hv, hb, hg, hc, _, hs, ht⟩
  · omega
  · have hxl : xs.length = n := by simpa using hl
    refine ⟨g, cap, hv, hb, hc, hxl, cur, hg, fun j hj => ?_⟩
    have e : (xs.map Value.string)[j]? = some (.string (xs.getD j ByteArray.empty)) := by simp [hj]
    rw [← ht] at e
    rw [List.getElem?_take, if_pos (by omega)] at e
    simpa using e
/-- Words of which the first k are written as they stand in a key. -/
def mixW (ws : List ByteArray) (k : Nat) : List ByteArray := (ws.take k).map keyW ++ ws.drop k
theorem mix_len (ws : List ByteArray) (k : Nat) : (mixW ws k).length = ws.length := by simp [mixW]; omega
theorem mix_at {ws : List ByteArray} {k : Nat} (h : k < ws.length) : (mixW ws k).getD k ByteArray.empty = ws[k] := by
  rw [mixW, List.getD_eq_getElem?_getD, List.getElem?_append_right (by simp; omega)]
  simp [Nat.min_eq_left (Nat.le_of_lt h), h]
theorem mix_next {ws : List ByteArray} {k : Nat} (h : k < ws.length) : (mixW ws k).set k (keyW ws[k]) = mixW ws (k + 1) := by
  unfold mixW
  rw [List.set_append_right _ _ (by simp; omega), List.take_succ_eq_append_getElem h, List.drop_eq_getElem_cons h, List.length_map, List.length_take, Nat.min_eq_left (Nat.le_of_lt h), Nat.sub_self, List.set_cons_zero, List.map_append]
  simp only [List.map_cons, List.map_nil, List.append_assoc, List.cons_append, List.nil_append]
theorem mix_same {ws : List ByteArray} {k : Nat} (h : k < ws.length) (hk : keyW ws[k] = ws[k]) : mixW ws k = mixW ws (k + 1) := by
  rw [← mix_next h, hk]
  apply List.ext_getElem?
  intro j
  rw [List.getElem?_set]
  by_cases hj : k = j
  · subst hj
    rw [if_pos rfl, if_pos (by rw [mix_len]; exact h)]
    have := mix_at h
    rw [List.getD_eq_getElem?_getD] at this
    have hl : k < (mixW ws k).length := by rw [mix_len]; exact h
    rw [List.getElem?_eq_getElem hl] at this ⊢
    simp at this ⊢; exact this
  · rw [if_neg hj]
theorem mix_zero (ws : List ByteArray) : mixW ws 0 = ws := by simp [mixW]
theorem mix_all (ws : List ByteArray) : mixW ws ws.length = ws.map keyW := by simp [mixW]
theorem join_le (xs : List (List UInt8)) (m : Nat) (h : ∀ x ∈ xs, x.length ≤ m) : (Lib.join xs [46]).length ≤ xs.length * (m + 1) := by
  cases xs with
  | nil => simp [Lib.join_nil]
  | cons x r =>
    rw [Lib.join_cons]
    have hr : ∀ r : List (List UInt8), (∀ x ∈ r, x.length ≤ m) → (Lib.joinTail [46] r).length ≤ r.length * (m + 1) := by
      intro r hr
      induction r with
      | nil => simp [Lib.joinTail]
      | cons y r ih =>
        have h1 := ih fun x hx => hr x (List.mem_cons_of_mem _ hx)
        have h2 := hr y (List.mem_cons_self ..)
        have e : Lib.joinTail [46] (y :: r) = ([46] ++ y) ++ Lib.joinTail [46] r := rfl
        rw [e, List.length_append, List.length_cons, Nat.add_mul]; simp; omega
    have h1 := hr r fun x hx => h x (List.mem_cons_of_mem _ hx)
    have h2 := h x (List.mem_cons_self ..)
    rw [List.length_append, List.length_cons, Nat.add_mul]; omega

set_option maxRecDepth 100000 in
set_option maxHeartbeats 8000000 in
theorem twrite_is (ws : List ByteArray) (hs : ∀ s ∈ ws, s.size ≤ 1000000) (hn : ws.length ≤ 1000) (n c : Nat) (hnl : n = ws.length) (h0 : 0 < n) (b o : Nat) (w : World) (hM : ∀ j, j < ws.length → w.cell? ⟨b, o + j, none⟩ = some (.string (ws.getD j ByteArray.empty))) (hG : Glob w) :
    Calls Tryd.prog 5 #[.slice (some ⟨b, o, none⟩) n c] w fun e w' => e = .returned (.string ⟨(keyL ws).toArray⟩) ∧ Below w.heap.size w w' := by
  have CL := Lib.hid (Tryd.slices_Clone_string b o n c ws w (by omega) (by omega) hM)
  have HG := Lib.hid hG; have HS := Lib.hid hs; have HN := Lib.hid hnl
  have hn1 : n ≤ 1000 := by omega
  clear hG hM hs hn hnl
  go_enter Tryd.func5, Tryd.ntmps5
  go_wp2_with (go_at_call 14; (with_reducible refine Calls.mono CL.out ?_))
  rintro e w1 ⟨v', rfl, hown, _, hb1⟩
  rw [show (ws.take n).map Value.string = ws.map Value.string by rw [List.take_of_length_le (by have := HN.out; omega)]] at hown
  obtain ⟨g, c', rfl, hgb, hc', _, hrow⟩ := SRow.of_own hown h0
  have HR := Lib.hid hrow; have HB := Lib.hid hb1
  clear hown hrow hb1
  dsimp only
  go_wp2
  go_loopg [10] n (fun q s10 wr => ∃ k : Nat, s10 = .int .i64 (k : Int) ∧ k ≤ n ∧ Hid (q = n - k) ∧ Hid (SRow wr g (mixW ws k)) ∧ Hid (Below w.heap.size w wr))
  case atStart => exact ⟨0, rfl, by omega, by show _ = _; omega, by show SRow _ _ _; rw [mix_zero]; exact HR.out, HB.out⟩
  case round =>
    obtain ⟨k, rfl, hk, hq, HX, HY⟩ := hrel
    by_cases hlt : k < n
    · have hkl : k < ws.length := by have := HN.out; omega
      obtain ⟨e0, e1, e2⟩ := HX.out.cell (j := k) (by rw [mix_len]; exact hkl)
      rw [mix_at hkl] at e0
      have hss := HS.out ws[k] (List.getElem_mem hkl)
      have hnx := mix_next hkl
      have hsm := mix_same hkl
      obtain ⟨s, hsk⟩ : ∃ s, ws[k] = s := ⟨_, rfl⟩
      rw [hsk] at e0 hss hnx hsm
      have HGr := Lib.hid (HG.out.keep HY.out (Nat.le_refl _))
      cases hbw : bareW s
      · have hkw : keyW s = ⟨(writeQ s.data.toList).toArray⟩ := by rw [keyW, hbw]; rfl
        obtain ⟨z, hz⟩ : ∃ z, (⟨(writeQ s.data.toList).toArray⟩ : ByteArray) = z := ⟨_, rfl⟩
        rw [hkw, hz] at hnx
        have hbc := fun w => bareW_is s w
        rw [hbw] at hbc
        have HBW := Lib.hid hbc
        have htw := fun (W : World) (hb : Below wr.heap.size wr W) => qwrite_any s (by omega) W (HGr.out.keep hb (Nat.le_refl _))
        rw [hz] at htw
        have HTW := Lib.hid htw
        have HNX := Lib.hid hnx
        clear hbw hkw hz hbc htw hnx hsm hsk hkl
        go_wp2_with (first
          | (go_at_call 10; (with_reducible refine (HBW.out _).mono ?_); rintro e w2 ⟨rfl, hb2⟩; have HB2 := Lib.hid hb2; clear hb2)
          | (go_at_call 13; (with_reducible refine (HTW.out _ HB2.out).mono ?_); rintro e w3 ⟨rfl, hb3⟩; have HB3 := Lib.hid (HB2.out.trans (hb3.mono HB2.out.size)); have HR3 := Lib.hid (HX.out.keep HB3.out (Nat.le_refl _)); obtain ⟨cur, r1, r2⟩ := HR3.out; have i1 := blk_frozen r1 k; have i0 := (HR3.out.cell (j := k) (by rw [mix_len]; have := HN.out; omega)).1; have i2 := blk_lt r1; clear hb3 r1 r2))
        go_roundg (n - (k + 1))
        case measure => have := hq.out; omega
        case rel => exact ⟨k + 1, by go_num, by omega, rfl, by rw [← HNX.out]; exact HR3.out.set k z, (HY.out.trans (HB3.out.mono HY.out.size)).setCell hgb _⟩
      · have hkw : keyW s = s := by rw [keyW, hbw]; rfl
        have HSM := Lib.hid (hsm hkw)
        have hbc := fun w => bareW_is s w
        rw [hbw] at hbc
        have HBW := Lib.hid hbc
        clear hbw hkw hbc hnx hsm hsk hkl
        go_wp2_with (go_at_call 10; (with_reducible refine (HBW.out _).mono ?_); rintro e w2 ⟨rfl, hb2⟩; have HB2 := Lib.hid hb2; clear hb2)
        go_roundg (n - (k + 1))
        case measure => have := hq.out; omega
        case rel => exact ⟨k + 1, by go_num, by omega, rfl, by rw [← HSM.out]; exact HX.out.keep HB2.out (Nat.le_refl _), HY.out.trans (HB2.out.mono HY.out.size)⟩
    · have hkn : k = ws.length := by have := HN.out; omega
      have hxs := HX.out
      rw [hkn, mix_all] at hxs
      have hml : (ws.map keyW).length = n := by rw [List.length_map, HN.out]
      have hgl : g < wr.heap.size := by obtain ⟨cur, h1, _⟩ := hxs; exact blk_lt h1
      have hj := Tryd.strings_Join g 0 c' (ws.map keyW) ⟨#[46]⟩ wr (fun j x hx => by
        have hjl := (List.getElem?_eq_some_iff.1 hx).1
        rw [Nat.zero_add, (hxs.cell hjl).1, List.getD_eq_getElem?_getD, hx]; rfl) hgl (by omega) (by omega) (by
        refine Nat.le_trans (join_le _ 6000002 ?_) ?_
        · intro x hx
          simp only [List.mem_map] at hx
          obtain ⟨y, ⟨z, hz, rfl⟩, rfl⟩ := hx
          exact keyW_size z (HS.out z hz)
        · simp only [List.length_map]; rw [← HN.out]; omega)
      rw [hml, show Lib.join ((ws.map keyW).map (·.data.toList)) (⟨#[46]⟩ : ByteArray).data.toList = keyL ws from rfl] at hj
      have HJ := Lib.hid hj
      clear hkn hxs hml hj
      go_wp2_with (go_at_call 15; (with_reducible refine Calls.mono HJ.out ?_); rintro e w2 ⟨rfl, hb2⟩)
      go_ret
      exact ⟨rfl, HY.out.trans (hb2.mono HY.out.size)⟩

end Go.Proofs.YtflfedfghnnaeaaDoor
