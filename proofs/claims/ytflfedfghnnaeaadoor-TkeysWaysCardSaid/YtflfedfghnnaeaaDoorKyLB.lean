/- The walk over the law TkeysBack; no statement of the seat is proved here. -/
import Derived.Test.YtflfedfghnnaeaaDoorKyA2
namespace Go.Proofs.YtflfedfghnnaeaaDoor
open Go.RowKit

set_option maxHeartbeats 1000000 in
theorem twrite_nil (w : World) : Calls Tryd.prog 5 #[.slice none 0 0] w fun e w' => e = .returned (.string ⟨#[]⟩) ∧ w = w' := by
  have CL := Lib.hid (Tryd.slices_Clone_string_nil 0 0 w)
  have CJ := Lib.hid (Tryd.strings_Join_none none 0 ⟨#[46]⟩ w)
  go_enter Tryd.func5, Tryd.ntmps5
  go_wp2_with (go_at_call 14; (with_reducible refine CL.out.mono ?_); rintro e w1 ⟨rfl, rfl⟩)
  refine wp_loop_rounds 1 ?_
  rw [rounds_succ]
  go_wp2_with (go_at_call 15; (with_reducible refine CJ.out.mono ?_); rintro e w2 ⟨rfl, rfl⟩)
  go_ret
  exact ⟨rfl, rfl⟩

theorem keyW_len (s : ByteArray) : (keyW s).data.toList.length ≤ 6 * s.size + 2 := by
  unfold keyW
  split
  · have : s.data.toList.length = s.size := rfl
    omega
  · have hl : ∀ l : List UInt8, (l.flatMap wrB).length ≤ 6 * l.length := by
      intro l
      induction l with
      | nil => simp
      | cons c l ih => have := wrB_len c; simp at ih ⊢; omega
    have h1 := hl s.data.toList
    have h2 : s.data.toList.length = s.size := rfl
    have h3 := writeQ_len s.data.toList
    show (writeQ s.data.toList).toArray.toList.length ≤ _
    rw [List.toList_toArray]; omega
theorem keyL_len (xs : List ByteArray) (h : ∀ s ∈ xs, s.size ≤ 60) (hn : xs.length ≤ 20) : (keyL xs).length ≤ 7260 := by
  have h1 := join_le ((xs.map keyW).map (·.data.toList)) 362 (fun x hx => by
    simp only [List.mem_map] at hx
    obtain ⟨y, ⟨z, hz, rfl⟩, rfl⟩ := hx
    have := keyW_len z
    have := h z hz
    omega)
  simp only [List.length_map] at h1
  unfold keyL
  omega
/-- What is written is read. -/
theorem key_read (xs : List ByteArray) (hne : xs ≠ []) (l x r : List UInt8) (hl : l = x ++ (keyL xs ++ r)) (hr : Foll r) (hb : bt l (blT l (x.length + (keyL xs).length)) ≠ 46) :
    ∃ es, KeyR l xs.length x.length (es, ((x.length + (keyL xs).length : Nat) : Int), 0, 0) ∧ SameW es xs ∧ ∀ j (h : j < es.length) (h' : j < xs.length), es[j].2.1 ≤ es[j].2.2 ∧ es[j].2.2 ≤ l.length ∧ (l.drop es[j].2.1).take (es[j].2.2 - es[j].2.1) = (keyW xs[j]).data.toList := by
  obtain ⟨_, _, hK⟩ := keyTxt_key xs hne
  obtain ⟨es, h1, h2, h3, h4, _⟩ := hK l x.length r (by rw [hl, List.drop_left]) hr
  have hlen : es.length = xs.length := by have := congrArg List.length h1; simpa using this
  have h4 := h4 hb
  rw [List.length_map] at h4
  refine ⟨es, h4, ⟨hlen, fun j hj hj' => ?_⟩, fun j hj hj' => ⟨(h3 _ (List.getElem_mem hj)).1, (h3 _ (List.getElem_mem hj)).2, ?_⟩⟩
  · have := congrArg (fun l => l[j]?) h1
    simp [hj, hj', pairW] at this
    rw [this]
  · have := congrArg (fun l => l[j]?) h2
    simpa [hj, hj', pairW] using this
/-- A dot more, and no word. -/
theorem key_bad (xs : List ByteArray) (hne : xs ≠ []) (l x b r : List UInt8) (hl : l = x ++ (keyL xs ++ (46 :: (b ++ r)))) (hb : ∀ c ∈ b, blB c.toNat = true) (hr : Foll r) (hrb : ∀ c, r.head? = some c → blB c.toNat = false) :
    KeyR l (1 + xs.length) x.length ([], 0, 3, ((x.length + (keyL xs).length + 1 + b.length : Nat) : Int)) := by
  obtain ⟨_, _, hK⟩ := keyTxt_key xs hne
  have h0 : l.drop x.length = keyL xs ++ (46 :: (b ++ r)) := by rw [hl, List.drop_left]
  obtain ⟨es, _, _, _, _, h5⟩ := hK l x.length _ h0 (Foll.cons (by decide))
  have d1 := drop_on h0
  have k1 : blT l (x.length + (keyL xs).length) = x.length + (keyL xs).length := blT_app (b := []) (r := 46 :: (b ++ r)) d1 (by simp) (fun c hc => by rw [List.head?_cons] at hc; injection hc with hc; subst hc; decide)
  have k2 : bt l (x.length + (keyL xs).length) = 46 := bt_drop d1
  have d2 : l.drop (x.length + (keyL xs).length + 1) = b ++ r := (drop_cons d1).2.2
  have k3 := blT_app d2 hb hrb
  have d3 := drop_on d2
  rw [k1] at h5
  have h6 := h5 k2 1 [] 0 3 _ (KeyR.bad (i := blT l (x.length + (keyL xs).length + 1)) ⟨by
    have h7 := (drop_cons d1).1
    have := congrArg List.length d2
    rw [List.length_drop, List.length_append] at this
    rw [k3]; omega, by rw [k3, d3]; exact hr⟩)
  rw [if_neg (by decide), List.length_map, k3] at h6
  exact h6
/-- The first words, as they are written, with dots between. -/
def jnL (xs : List ByteArray) (k : Nat) : List UInt8 := Lib.join (((xs.take k).map keyW).map (·.data.toList)) [46]
theorem joinTail_snoc (y : List UInt8) : ∀ r : List (List UInt8), Lib.joinTail [46] (r ++ [y]) = Lib.joinTail [46] r ++ (46 :: y) := by
  intro r
  induction r with
  | nil => simp [Lib.joinTail]
  | cons x r ih =>
    have e1 : Lib.joinTail [46] (x :: r ++ [y]) = ([46] ++ x) ++ Lib.joinTail [46] (r ++ [y]) := rfl
    have e2 : Lib.joinTail [46] (x :: r) = ([46] ++ x) ++ Lib.joinTail [46] r := rfl
    rw [e1, e2, ih, List.append_assoc, List.append_assoc, List.append_assoc]
theorem jnL_next (xs : List ByteArray) (k : Nat) (h : k < xs.length) : jnL xs (k + 1) = (if k = 0 then [] else jnL xs k ++ [46]) ++ (keyW xs[k]).data.toList := by
  unfold jnL
  rw [List.take_succ_eq_append_getElem h, List.map_append, List.map_append]
  simp only [List.map_cons, List.map_nil]
  cases k with
  | zero => simp [Lib.join_cons, Lib.joinTail]
  | succ k =>
    rw [if_neg (by omega)]
    cases xs with
    | nil => cases h
    | cons z xs =>
      rw [List.take_succ_cons, List.map_cons, List.map_cons, List.cons_append, Lib.join_cons, Lib.join_cons, joinTail_snoc]
      simp only [List.append_assoc, List.cons_append, List.nil_append]
theorem jnL_all (xs : List ByteArray) : jnL xs xs.length = keyL xs := by unfold jnL keyL; rw [List.take_length]

theorem app_list (a b : ByteArray) : (a ++ b).data.toList = a.data.toList ++ b.data.toList := by simp [ByteArray.data_append]
theorem all_list (x S y : ByteArray) : (x ++ S ++ ⟨#[32, 61, 32]⟩ ++ y : ByteArray).data.toList = x.data.toList ++ (S.data.toList ++ (32 :: 61 :: 32 :: y.data.toList)) := by
  rw [app_list, app_list, app_list]
  simp only [List.append_assoc]
  rfl
theorem cut_list (x S y T : ByteArray) (m : Nat) (hm : m = x.size + S.size) : ((x ++ S ++ ⟨#[32, 61, 32]⟩ ++ y : ByteArray).extract 0 m ++ T).data.toList = x.data.toList ++ (S.data.toList ++ T.data.toList) := by
  rw [app_list, ext_is, all_list, List.drop_zero, Nat.sub_zero, hm, ← List.append_assoc, show x.size + S.size = (x.data.toList ++ S.data.toList).length by rw [List.length_append]; rfl, List.take_left, List.append_assoc]
theorem size_of {B : ByteArray} {l : List UInt8} {n : Nat} (h : B.data.toList = l) (hl : l.length ≤ n) : B.size ≤ n := by rw [← h] at hl; exact hl
theorem foll_tail (r : List UInt8) : Foll (32 :: 61 :: 32 :: r) := Foll.cons (by decide)
theorem bt_tail {l r : List UInt8} {i : Nat} (h : l.drop i = 32 :: 61 :: 32 :: r) : bt l (blT l i) ≠ 46 := by
  have h1 : blT l i = i + 1 := blT_app (b := [32]) (r := 61 :: 32 :: r) h (by simp [blB]) (fun c hc => by rw [List.head?_cons] at hc; injection hc with hc; subst hc; decide)
  rw [h1, bt_drop (drop_cons h).2.2]
  decide

/-- What the law reads, and what it comes to. -/
theorem back_good (xs : List ByteArray) (hne : xs ≠ []) (x S y : ByteArray) (hS : S.data.toList = keyL xs) : ∃ es, KeyR (x ++ S ++ ⟨#[32, 61, 32]⟩ ++ y : ByteArray).data.toList xs.length x.size (es, (x.size : Int) + (S.size : Int), 0, 0) ∧ SameW es xs ∧
    ∀ j (h : j < es.length) (h' : j < xs.length), es[j].2.1 ≤ es[j].2.2 ∧ es[j].2.2 ≤ (x ++ S ++ ⟨#[32, 61, 32]⟩ ++ y : ByteArray).size ∧ ((x ++ S ++ ⟨#[32, 61, 32]⟩ ++ y : ByteArray).extract es[j].2.1 es[j].2.2).data.toList = (keyW xs[j]).data.toList := by
  have hl := all_list x S y
  rw [hS] at hl
  have hSL : (keyL xs).length = S.size := by rw [← hS]; rfl
  obtain ⟨es, hkr, hsw, hsp⟩ := key_read xs hne _ x.data.toList _ hl (foll_tail _) (bt_tail (r := y.data.toList) (by rw [hl, ← List.append_assoc, ← List.length_append, List.drop_left]))
  rw [hSL] at hkr
  refine ⟨es, ?_, hsw, fun j h h' => ?_⟩
  · have e : ((x.data.toList.length + S.size : Nat) : Int) = (x.size : Int) + (S.size : Int) := by
      have : x.data.toList.length = x.size := rfl
      omega
    rw [e] at hkr
    exact hkr
  · obtain ⟨h1, h2, h3⟩ := hsp j h h'
    exact ⟨h1, h2, by rw [ext_is]; exact h3⟩
theorem back_bad1 (xs : List ByteArray) (hne : xs ≠ []) (x S y : ByteArray) (hS : S.data.toList = keyL xs) : KeyR ((x ++ S ++ ⟨#[32, 61, 32]⟩ ++ y : ByteArray).extract 0 (x.size + S.size) ++ ⟨#[46]⟩).data.toList (1 + xs.length) x.size ([], 0, 3, (x.size : Int) + (S.size : Int) + 1) := by
  have hl := cut_list x S y ⟨#[46]⟩ _ rfl
  rw [hS] at hl
  have hSL : (keyL xs).length = S.size := by rw [← hS]; rfl
  have hk := key_bad xs hne _ x.data.toList [] [] hl (by simp) Foll.nil (by simp)
  rw [hSL] at hk
  have e : ((x.data.toList.length + S.size + 1 + ([] : List UInt8).length : Nat) : Int) = (x.size : Int) + (S.size : Int) + 1 := by
    have : x.data.toList.length = x.size := rfl
    simp only [List.length_nil]; omega
  rw [e] at hk
  exact hk
theorem back_bad2 (xs : List ByteArray) (hne : xs ≠ []) (x S y : ByteArray) (hS : S.data.toList = keyL xs) : KeyR ((x ++ S ++ ⟨#[32, 61, 32]⟩ ++ y : ByteArray).extract 0 (x.size + S.size) ++ ⟨#[46, 32, 61]⟩).data.toList (1 + xs.length) x.size ([], 0, 3, (x.size : Int) + (S.size : Int) + 2) := by
  have hl := cut_list x S y ⟨#[46, 32, 61]⟩ _ rfl
  rw [hS] at hl
  have hSL : (keyL xs).length = S.size := by rw [← hS]; rfl
  have hk := key_bad xs hne _ x.data.toList [32] [61] hl (by simp [blB]) (Foll.cons (by decide)) (by simp [blB])
  rw [hSL] at hk
  have e : ((x.data.toList.length + S.size + 1 + ([32] : List UInt8).length : Nat) : Int) = (x.size : Int) + (S.size : Int) + 2 := by
    have : x.data.toList.length = x.size := rfl
    simp only [List.length_cons, List.length_nil]; omega
  rw [e] at hk
  exact hk
theorem all_size (x S y : ByteArray) : (x ++ S ++ ⟨#[32, 61, 32]⟩ ++ y : ByteArray).size = x.size + S.size + 3 + y.size := by simp only [ByteArray.size_append]; rfl
theorem cut_size (x S y T : ByteArray) : ((x ++ S ++ ⟨#[32, 61, 32]⟩ ++ y : ByteArray).extract 0 (x.size + S.size) ++ T).size = x.size + S.size + T.size := by
  have := all_size x S y
  rw [ByteArray.size_append, ByteArray.size_extract]; omega

set_option maxRecDepth 100000 in
set_option maxHeartbeats 8000000 in
theorem back_walk (a : Option Addr) (len cap : Nat) (x y : ByteArray) (w : World) (hA : StrsArg w a len cap) (hG : Glob w) :
    Calls Tryd.prog 3 #[.slice a len cap, .agg #[.string x, .string y]] w fun e w' => e = .returned (.bool true) ∧ Below w.heap.size w w' := by
  obtain ⟨hcap, hA⟩ := hA
  have hbx := heap_new1 w (.cells #[.string x, .string y] 23)
  have x0 : (w.alloc (.cells #[.string x, .string y] 23)).cell? ⟨w.heap.size, 0, none⟩ = some (.string x) := blk_cell hbx 0
  have x1 : (w.alloc (.cells #[.string x, .string y] 23)).cell? ⟨w.heap.size, 1, none⟩ = some (.string y) := blk_cell hbx 1
  have HX := Lib.hid hbx; clear hbx
  have HB0 := Lib.hid (below_new1 w (.cells #[.string x, .string y] 23))
  have HG0 := Lib.hid (hG.keep HB0.out (Nat.le_refl _)); clear hG
  obtain ⟨w1, hw1⟩ : ∃ w1, w1 = w.alloc (.cells #[.string x, .string y] 23) := ⟨_, rfl⟩
  have HL := Lib.hid (lives_any w1 (by rw [hw1]; exact HG0.out))
  rw [hw1] at HL
  clear hw1
  have fin : ∀ w2 : World, Below w.heap.size w (w.alloc (.cells #[.string x, .string y] 23)) → Below (w.alloc (.cells #[.string x, .string y] 23)).heap.size (w.alloc (.cells #[.string x, .string y] 23)) w2 → Below w.heap.size w w2 := fun w2 h h' => h.trans (h'.mono h.size)
  have FIN := Lib.hid fin; clear fin
  by_cases h1 : 20 < len
  · go_enter Tryd.func3, Tryd.ntmps3
    go_wp2_with (first
      | (go_at_call 5; (with_reducible refine (twrite_nil _).mono ?_); rintro e w2 ⟨rfl, rfl⟩)
      | (go_at_call 6; (with_reducible refine HL.out.mono ?_); rintro e w3 ⟨rfl, hb3⟩))
    go_ret
    exact ⟨rfl, FIN.out _ HB0.out hb3⟩
  by_cases h2 : len = 0
  · subst h2
    go_enter Tryd.func3, Tryd.ntmps3
    go_wp2_with (first
      | (go_at_call 5; (with_reducible refine (twrite_nil _).mono ?_); rintro e w2 ⟨rfl, rfl⟩)
      | (go_at_call 6; (with_reducible refine HL.out.mono ?_); rintro e w3 ⟨rfl, hb3⟩))
    go_ret
    exact ⟨rfl, FIN.out _ HB0.out hb3⟩
  by_cases h3 : 200 < x.size
  · go_enter Tryd.func3, Tryd.ntmps3
    go_wp2_with (first
      | (go_at_call 5; (with_reducible refine (twrite_nil _).mono ?_); rintro e w2 ⟨rfl, rfl⟩)
      | (go_at_call 6; (with_reducible refine HL.out.mono ?_); rintro e w3 ⟨rfl, hb3⟩))
    go_ret
    exact ⟨rfl, FIN.out _ HB0.out hb3⟩
  by_cases h4 : 200 < y.size
  · go_enter Tryd.func3, Tryd.ntmps3
    go_wp2_with (first
      | (go_at_call 5; (with_reducible refine (twrite_nil _).mono ?_); rintro e w2 ⟨rfl, rfl⟩)
      | (go_at_call 6; (with_reducible refine HL.out.mono ?_); rintro e w3 ⟨rfl, hb3⟩))
    go_ret
    exact ⟨rfl, FIN.out _ HB0.out hb3⟩
  rcases hA with rfl | ⟨b, o, xs, rfl, hxl, hM⟩
  · exact absurd rfl h2
  have HM := Lib.hid (hM.keep HB0.out (Nat.le_refl _)); clear hM
  have HXL := Lib.hid hxl; clear hxl
  have z1 : ((len : Int) == 0) = false := by simp; omega
  have d1 : decide ((20 : Int) < (len : Int)) = false := by simp; omega
  have d3 : decide ((200 : Int) < (x.size : Int)) = false := by simp; omega
  have d4 : decide ((200 : Int) < (y.size : Int)) = false := by simp; omega
  have n1 : len ≤ 20 := by omega
  have n0 : 0 < len := by omega
  have n3 : x.size ≤ 200 := by omega
  have n4 : y.size ≤ 200 := by omega
  clear h1 h2 h3 h4
  go_enter Tryd.func3, Tryd.ntmps3
  go_wp2
  obtain ⟨w1, hw1⟩ : ∃ w1, w1 = w.alloc (.cells #[.string x, .string y] 23) := ⟨_, rfl⟩
  rw [← hw1] at x0 x1 HX HB0 HG0 HL FIN HM ⊢
  clear hw1
  go_loopg [5] len (fun q s5 wr => ∃ k : Nat, s5 = .int .i64 (k : Int) ∧ k ≤ len ∧ Hid (q = len - k) ∧ Hid (∀ j (h : j < xs.length), j < k → xs[j].size ≤ 60) ∧ w1 = wr)
  case atStart => exact ⟨0, rfl, by omega, by show _ = _; omega, fun j h hj => absurd hj (by omega), rfl⟩
  case round =>
    obtain ⟨k, rfl, hk, hq, hz, rfl⟩ := hrel
    by_cases hlt : k < len
    · have hkl : k < xs.length := by have := HXL.out; omega
      have e1 := HM.out.2 k hkl
      have hki : (k : Int) < (len : Int) := by omega
      by_cases h60 : 60 < xs[k].size
      · have d5 : decide ((60 : Int) < (xs[k].size : Int)) = true := by simp; omega
        go_wp2_with (go_at_call 6; (with_reducible refine HL.out.mono ?_); rintro e w3 ⟨rfl, hb3⟩)
        go_ret
        exact ⟨rfl, FIN.out _ HB0.out hb3⟩
      · have d5 : decide ((60 : Int) < (xs[k].size : Int)) = false := by simp; omega
        have hz' : Hid (∀ j (h : j < xs.length), j < k + 1 → xs[j].size ≤ 60) := fun j h hj => by
          by_cases hjk : j = k
          · subst hjk; omega
          · exact hz.out j h (by omega)
        go_wp2
        go_roundg (len - (k + 1))
        case measure => have := hq.out; omega
        case rel => exact ⟨k + 1, by go_num, by omega, rfl, hz', rfl⟩
    · have hkn : k = len := by omega
      subst hkn
      have HZ : Hid (∀ s ∈ xs, s.size ≤ 60) := fun s hs => by
        obtain ⟨j, hj, rfl⟩ := List.mem_iff_getElem.1 hs
        exact hz.out j hj (by have := HXL.out; omega)
      have hne : Hid (xs ≠ []) := fun e => by have := HXL.out; rw [e] at this; have h0 : 0 = k := this; omega
      have htw := twrite_is xs (fun s hs => by have := HZ.out s hs; omega) (by have := HXL.out; omega) k cap HXL.out.symm (by omega) b o w1 (fun j hj => by rw [List.getD_eq_getElem?_getD, List.getElem?_eq_getElem hj]; exact HM.out.2 j hj) HG0.out
      obtain ⟨S, hS⟩ : ∃ S : ByteArray, ⟨(keyL xs).toArray⟩ = S := ⟨_, rfl⟩
      have HS : Hid (S.data.toList = keyL xs) := by show _ = _; rw [← hS]
      have hSz : S.size ≤ 7260 := by
        have h1 := keyL_len xs HZ.out (by have := HXL.out; omega)
        rw [← HS.out] at h1
        exact h1
      rw [hS] at htw
      have HTW := Lib.hid htw
      clear hS htw hz
      obtain ⟨es, hkr, hsw, hsp⟩ := back_good xs hne.out x S y HS.out
      have hkb1 := back_bad1 xs hne.out x S y HS.out
      have hkb2 := back_bad2 xs hne.out x S y HS.out
      have hasz := all_size x S y
      have hc1 := cut_size x S y ⟨#[46]⟩
      have hc2 := cut_size x S y ⟨#[46, 32, 61]⟩
      have t1 : (⟨#[46]⟩ : ByteArray).size = 1 := rfl
      have t2 : (⟨#[46, 32, 61]⟩ : ByteArray).size = 3 := rfl
      rw [t1] at hc1
      rw [t2] at hc2
      have hn2 : xs.length ≤ 20 := by have := HXL.out; omega
      obtain ⟨AL, hAL⟩ : ∃ AL : ByteArray, x ++ S ++ ⟨#[32, 61, 32]⟩ ++ y = AL := ⟨_, rfl⟩
      rw [hAL] at hkr hsp hasz hkb1 hkb2 hc1 hc2
      obtain ⟨C1, hC1⟩ : ∃ C1 : ByteArray, AL.extract 0 (x.size + S.size) ++ ⟨#[46]⟩ = C1 := ⟨_, rfl⟩
      obtain ⟨C2, hC2⟩ : ∃ C2 : ByteArray, AL.extract 0 (x.size + S.size) ++ ⟨#[46, 32, 61]⟩ = C2 := ⟨_, rfl⟩
      rw [hC1] at hkb1 hc1
      rw [hC2] at hkb2 hc2
      have HRD := Lib.hid (fun W (h : Below w1.heap.size w1 W) => read_key AL (by omega) xs.length x.size _ hkr (by omega) (by omega) W (HG0.out.keep h (Nat.le_refl _)))
      have HIS := Lib.hid (fun W (h : Below w1.heap.size w1 W) => is_of AL x.size es _ xs hsw (by omega) b o k cap HXL.out.symm W (HM.out.keep h (Nat.le_refl _)) (HRD.out W h))
      have HF1 := Lib.hid (fun W (h : Below w1.heap.size w1 W) => fails_of C1 x.size _ W (read_key C1 (by omega) (1 + xs.length) x.size _ hkb1 (by omega) (by omega) W (HG0.out.keep h (Nat.le_refl _))))
      have HF2 := Lib.hid (fun W (h : Below w1.heap.size w1 W) => fails_of C2 x.size _ W (read_key C2 (by omega) (1 + xs.length) x.size _ hkb2 (by omega) (by omega) W (HG0.out.keep h (Nat.le_refl _))))
      have HSP := Lib.hid hsp
      have HSW := Lib.hid hsw
      have haz : AL.size ≤ 7700 := by omega
      have hml : (x.size : Int) + (S.size : Int) ≤ (AL.size : Int) := by omega
      have HALL := Lib.hid hAL; have HC1 := Lib.hid hC1; have HC2 := Lib.hid hC2
      rw [← hC1] at HF1
      rw [← hC2] at HF2
      rw [← hAL] at HIS HF1 HF2
      clear hkr hkb1 hkb2 hsp hsw hasz hc1 hc2 hn2 t1 t2 hC1 hC2 hAL HC1 HC2
      go_wp2_with (first
        | (go_at_call 5; (with_reducible refine HTW.out.mono ?_); rintro e w2 ⟨rfl, hb2⟩; have x0' := (hb2.cell (p := ⟨w.heap.size, 0, none⟩) (blk_lt HX.out)).trans x0; have x1' := (hb2.cell (p := ⟨w.heap.size, 1, none⟩) (blk_lt HX.out)).trans x1; have HB2 := Lib.hid hb2; clear hb2)
        | (go_at_call 7; (with_reducible refine (HIS.out _ HB2.out).mono ?_); rintro e w3 ⟨rfl, hb3⟩; have HB3 := Lib.hid (HB2.out.trans (hb3.mono HB2.out.size)); clear hb3)
        | (go_at_call 8; (with_reducible refine (HF1.out _ HB3.out).mono ?_); rintro e w4 ⟨rfl, hb4⟩; have HB4 := Lib.hid (HB3.out.trans (hb4.mono HB3.out.size)); clear hb4)
        | (go_at_call 8; (with_reducible refine (HF2.out _ HB4.out).mono ?_); rintro e w5 ⟨rfl, hb5⟩; have HB5 := Lib.hid (HB4.out.trans (hb5.mono HB4.out.size)); clear hb5)
        | fail)
      rw [HALL.out]
      refine (HRD.out _ HB5.out).mono ?_
      rintro e w6 (⟨_, A, B, rfl, hT, hS2, hb6⟩ | ⟨h0, _⟩)
      · obtain ⟨g, rfl, hg1, hg2, hg3⟩ := hS2
        have hsl : es.length = k := by rw [HSW.out.1, HXL.out]
        have HSL := Lib.hid hsl
        have HB6 := Lib.hid (HB5.out.trans (hb6.mono HB5.out.size))
        have HG3 := Lib.hid hg3
        dsimp only
        rw [hsl]
        clear hT hg3 hsl x0' x1' hb6
        go_wp2_with fail
        obtain ⟨w7, hw7⟩ : ∃ w7, w7 = (w6.alloc (.cells #[.slice A k k, .slice (some ⟨g, 0, none⟩) k k] 30)).alloc (.cells #[.int .i64 0, .int .i64 0] 33) := ⟨_, rfl⟩
        have hk7 : w7.heap[w6.heap.size]? = some (.cells #[.slice A k k, .slice (some ⟨g, 0, none⟩) k k] 30 (0, 0)) := by rw [hw7]; exact (heap_new2 w6 _ _).1
        have hb7 : Below w6.heap.size w6 w7 := by rw [hw7]; exact (below_new1 w6 _).trans ((below_new1 _ _).mono (by simp))
        rw [← hw7]
        have HK7 := Lib.hid hk7; have HB7 := Lib.hid hb7
        have HB17 := Lib.hid (HB6.out.trans (hb7.mono HB6.out.size))
        have HGL := Lib.hid hg2
        clear hw7 hk7 hb7 hg1 hg2
        go_loopg [12, 13] k (fun q s12 s13 wr => ∃ (k2 : Nat) (J : ByteArray), s12 = .string J ∧ s13 = .int .i64 (k2 : Int) ∧ k2 ≤ k ∧ J.size ≤ 7260 ∧ Hid (q = k - k2) ∧ Hid (J.data.toList = jnL xs k2) ∧ Hid (Below w7.heap.size w7 wr))
        case atStart => exact ⟨0, ⟨#[]⟩, rfl, rfl, by omega, by show 0 ≤ 7260; omega, by show _ = _; omega, rfl, Below.refl _ _⟩
        case round =>
          obtain ⟨k2, J, rfl, rfl, hk2, hJz, hq2, hJ, hbr⟩ := hrel
          have hkr := blk_later HK7.out hbr.out (blk_lt HK7.out)
          have e1 : wr.cell? ⟨w6.heap.size, 1, none⟩ = some (.slice (some ⟨g, 0, none⟩) k k) := blk_cell hkr 1
          by_cases hlt2 : k2 < k
          · have hke : k2 < es.length := by rw [HSL.out]; exact hlt2
            have hkx : k2 < xs.length := by rw [HXL.out]; exact hlt2
            obtain ⟨q0, q1⟩ := HG3.out k2 hke
            obtain ⟨hft, htl, hT⟩ := HSP.out k2 hke hkx
            obtain ⟨fr, hfr⟩ : ∃ fr, es[k2].2.1 = fr := ⟨_, rfl⟩
            obtain ⟨tz, hto⟩ : ∃ tz, es[k2].2.2 = tz := ⟨_, rfl⟩
            rw [hfr, hto] at hT hft
            rw [hto] at htl
            rw [Nat.mul_comm] at q0 q1
            have q0' : wr.cell? ⟨g, k2 * 2, none⟩ = some (.int .i64 (fr : Int)) := by
              have h := (hbr.out.cell (p := ⟨g, k2 * 2, none⟩) (Nat.lt_of_lt_of_le HGL.out HB7.out.size)).trans ((HB7.out.cell (p := ⟨g, k2 * 2, none⟩) HGL.out).trans q0)
              rw [← hfr]; exact h
            have q1' : wr.cell? ⟨g, k2 * 2 + 1, none⟩ = some (.int .i64 (tz : Int)) := by
              have h := (hbr.out.cell (p := ⟨g, k2 * 2 + 1, none⟩) (Nat.lt_of_lt_of_le HGL.out HB7.out.size)).trans ((HB7.out.cell (p := ⟨g, k2 * 2 + 1, none⟩) HGL.out).trans q1)
              rw [← hto]; exact h
            have hki : (k2 : Int) < (k : Int) := by omega
            have htl' : tz ≤ AL.size := htl
            have d6 : decide ((AL.size : Int) < (tz : Int)) = false := by simp; omega
            have d7 : decide ((tz : Int) < (fr : Int)) = false := by simp; omega
            have d8 : decide ((fr : Int) < 0) = false := by simp
            have hft' : (fr : Int) ≤ (tz : Int) := by omega
            have htl2 : (tz : Int) ≤ (AL.size : Int) := by omega
            obtain ⟨T, hTT⟩ : ∃ T, AL.extract fr tz = T := ⟨_, rfl⟩
            rw [hTT] at hT
            have hjn := jnL_next xs k2 hkx
            have HJL : Hid ((jnL xs (k2 + 1)).length ≤ 7260) := keyL_len (xs.take (k2 + 1)) (fun s hs => HZ.out s (List.mem_of_mem_take hs)) (by rw [List.length_take]; have := HXL.out; omega)
            have hTz : T.size ≤ 7260 ∧ (J.size + 1 + T.size ≤ 7262) := by
              have h1 := keyL_len (xs.take (k2 + 1)) (fun s hs => HZ.out s (List.mem_of_mem_take hs)) (by rw [List.length_take]; have := HXL.out; omega)
              have h2 : jnL xs (k2 + 1) = keyL (xs.take (k2 + 1)) := rfl
              have h3 := congrArg List.length hjn
              rw [h2, List.length_append, ← hT] at h3
              have h4 : T.data.toList.length = T.size := rfl
              have h5 : J.data.toList.length = J.size := rfl
              rw [hJ.out] at h5
              by_cases hk0 : k2 = 0
              · subst hk0
                have h6 : (jnL xs 0).length = 0 := rfl
                rw [if_pos rfl] at h3
                simp only [List.length_nil] at h3
                omega
              · rw [if_neg hk0, List.length_append] at h3
                simp only [List.length_cons, List.length_nil] at h3
                omega
            obtain ⟨hTz1, hTz2⟩ := hTz
            obtain ⟨X, hX⟩ : ∃ X, xs[k2] = X := ⟨_, rfl⟩
            have hcx := HM.out.2 k2 hkx
            rw [hX] at hcx hT
            obtain ⟨bb, hbb⟩ : ∃ bb, bareW X = bb := ⟨_, rfl⟩
            have hq : (T.toList == X.toList) = bb := by
              rw [Lib.toList_data, Lib.toList_data, hT, ← hbb, keyW_same X]
              cases hd : decide ((keyW X).data.toList = X.data.toList)
              · simpa using hd
              · simpa using hd
            have hbc := fun w2 => bareW_is X w2
            rw [hbb] at hbc
            rw [← hTT] at hq
            have HT := Lib.hid hT; have HJN := Lib.hid hjn; have HTT := Lib.hid hTT
            rw [hX] at HJN
            have HB8 := Lib.hid (HB17.out.trans (hbr.out.mono HB17.out.size))
            obtain ⟨w8, hw8⟩ : ∃ w8, w8 = wr.alloc (.cells #[.int .i64 (fr : Int), .int .i64 (tz : Int)] 37) := ⟨_, rfl⟩
            have hb8 : Below wr.heap.size wr w8 := by rw [hw8]; exact below_new1 _ _
            have hx8 : w8.heap[wr.heap.size]? = some (.cells #[.int .i64 (fr : Int), .int .i64 (tz : Int)] 37 (0, 0)) := by rw [hw8]; exact heap_new1 _ _
            have hm8 : w8.cell? ⟨b, o + k2, none⟩ = some (.string X) := by
              have h := (HM.out.keep (HB8.out.trans (hb8.mono HB8.out.size)) (Nat.le_refl _)).2 k2 hkx
              rw [hX] at h; exact h
            have hxb : b < w8.heap.size := (HM.out.keep (HB8.out.trans (hb8.mono HB8.out.size)) (Nat.le_refl _)).1
            have cf : Hid (∀ m : Later w8, m.at_.cell? ⟨wr.heap.size, 0, none⟩ = some (.int .i64 (fr : Int))) := fun m => (m.below.cell (p := ⟨wr.heap.size, 0, none⟩) (blk_lt hx8)).trans (blk_cell hx8 0)
            have ct : Hid (∀ m : Later w8, m.at_.cell? ⟨wr.heap.size, 1, none⟩ = some (.int .i64 (tz : Int))) := fun m => (m.below.cell (p := ⟨wr.heap.size, 1, none⟩) (blk_lt hx8)).trans (blk_cell hx8 1)
            have cx : Hid (∀ m : Later w8, m.at_.cell? ⟨b, o + k2, none⟩ = some (.string X)) := fun m => (m.below.cell (p := ⟨b, o + k2, none⟩) hxb).trans hm8
            have C1 : Hid (∀ m : Later w8, Calls Tryd.prog 10 #[.string X] m.at_ fun e w'' => e = .returned (.bool bb) ∧ ∃ m' : Later w8, w'' = m'.at_) := fun m => calls_later ((hbc m.at_).mono fun e w' ⟨h1, h2⟩ => ⟨h1, m.below.trans (h2.mono m.below.size)⟩)
            have HB9 := Lib.hid hb8
            have HW8 := Lib.hid hw8
            clear hT hjn hbb hbc hfr hto hft htl hke q0 q1 hX hTT hb8 hx8 hm8 hxb hw8
            by_cases hk0 : k2 = 0
            · have d9 : decide ((0 : Int) < (k2 : Int)) = false := by simp; omega
              have d10 : decide (0 < k2) = false := by simp; omega
              have HK0 := Lib.hid hk0; clear hk0
              go_upto_region 24 with fail
              rw [← HW8.out]
              have cf' := cf.out; have ct' := ct.out; have cx' := cx.out
              refine wp_region_later w8 (by kernel_rfl) (by kernel_rfl) (Below.refl _ _) ?_
              repeat (go_big_quiet_step ((go_at_call 10; with_reducible exact C1.out _)))
              refine wpQuiet_nil ?_
              rintro _ ⟨⟨w9, hb9⟩, rfl⟩
              clear cf' ct' cx'
              go_wp2
              go_roundg (k - (k2 + 1))
              case measure => have := hq2.out; omega
              case rel => exact ⟨k2 + 1, _, rfl, by go_num, by omega, size_of (by rw [HTT.out, app_list, HJN.out, if_pos HK0.out, HT.out, hJ.out, HK0.out]; rfl) HJL.out, rfl, by show _ = _; rw [HTT.out, app_list, HJN.out, if_pos HK0.out, HT.out, hJ.out, HK0.out]; rfl, hbr.out.trans ((HB9.out.trans (hb9.mono HB9.out.size)).mono hbr.out.size)⟩
            · have d9 : decide ((0 : Int) < (k2 : Int)) = true := by simp; omega
              have d10 : decide (0 < k2) = true := by simp; omega
              have HK0 := Lib.hid hk0; clear hk0
              go_upto_region 24 with fail
              rw [← HW8.out]
              have cf' := cf.out; have ct' := ct.out; have cx' := cx.out
              refine wp_region_later w8 (by kernel_rfl) (by kernel_rfl) (Below.refl _ _) ?_
              repeat (go_big_quiet_step ((go_at_call 10; with_reducible exact C1.out _)))
              refine wpQuiet_nil ?_
              rintro _ ⟨⟨w9, hb9⟩, rfl⟩
              clear cf' ct' cx'
              go_wp2
              go_roundg (k - (k2 + 1))
              case measure => have := hq2.out; omega
              case rel => exact ⟨k2 + 1, _, rfl, by go_num, by omega, size_of (by rw [HTT.out, app_list, app_list, HJN.out, if_neg HK0.out, HT.out, hJ.out]) HJL.out, rfl, by show _ = _; rw [HTT.out, app_list, app_list, HJN.out, if_neg HK0.out, HT.out, hJ.out], hbr.out.trans ((HB9.out.trans (hb9.mono HB9.out.size)).mono hbr.out.size)⟩
          · have hkn : k2 = k := by omega
            have hS' : (J.toList == S.toList) = true := by
              rw [Lib.toList_data, Lib.toList_data, hJ.out, HS.out, hkn, ← HXL.out, jnL_all]; simp
            have HLV := Lib.hid (lives_any wr (HG0.out.keep (HB17.out.trans (hbr.out.mono HB17.out.size)) (Nat.le_refl _)))
            have HB8 := Lib.hid (HB17.out.trans (hbr.out.mono HB17.out.size))
            clear hkn
            go_wp2_with (go_at_call 6; (with_reducible refine HLV.out.mono ?_); rintro e w9 ⟨rfl, hb9⟩)
            go_ret
            exact ⟨rfl, FIN.out _ HB0.out (HB8.out.trans (hb9.mono HB8.out.size))⟩
      · exact absurd rfl h0

end Go.Proofs.YtflfedfghnnaeaaDoor
