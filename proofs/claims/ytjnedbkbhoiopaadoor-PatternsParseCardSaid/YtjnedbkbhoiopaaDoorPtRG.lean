/- The walk over the reference's Parse; no statement of the seat is proved here. (Printed by wip/tools/genPtRG.py.) -/
import Derived.Test.YtjnedbkbhoiopaaDoorPtRF
namespace Go.Proofs.YtjnedbkbhoiopaaDoor
open Go.RowKit

/-- What Parse has put together. -/
def RI (w W : World) (A : Option Addr) (n c : Nat) (ps : List Pat) : Prop := FB W w.heap.size 0 0 ∧ W.ownsRow (w.heap.size + 1) 90 3 (.slice A n c) n (rowR ps) ∧ Below w.heap.size w W
theorem RI.later {w W W' : World} {A : Option Addr} {n c : Nat} {ps : List Pat} (h : RI w W A n c ps) (hb : Below W.heap.size W W') : RI w W' A n c ps := ⟨h.1.keep hb (Nat.le_refl _), own_keep h.2.1 hb (Nat.le_refl _), onB h.2.2 hb⟩
theorem RI.lt {w W : World} {A : Option Addr} {n c : Nat} {ps : List Pat} (h : RI w W A n c ps) : w.heap.size + 1 ≤ W.heap.size := blk_lt h.1
theorem RI.setB {w W : World} {A : Option Addr} {n c : Nat} {ps : List Pat} (h : RI w W A n c ps) {B i : Nat} (hne : (Value.slice A n c).ownBlock ≠ some B) (hB : w.heap.size + 1 ≤ B) (v : Value) : RI w (W.setCell ⟨B, i, none⟩ v) A n c ps :=
  ⟨by
    have := (Below.heap_setCell W ⟨B, i, none⟩ v w.heap.size (by show w.heap.size ≠ B; omega))
    unfold FB; rw [this]; exact h.1, ownsRow_setCell_other h.2.1 hne v, h.2.2.setCell (show w.heap.size ≤ B by omega) v⟩
theorem RI.ne {w W : World} {A : Option Addr} {n c : Nat} {ps : List Pat} (h : RI w W A n c ps) {B : Nat} (hB : W.heap.size ≤ B) : (Value.slice A n c).ownBlock ≠ some B := by
  intro e1
  rcases h.2.1.2 with ⟨e2, _⟩ | ⟨g, cap, cur, e2, _, hh, _⟩
  · rw [e2] at e1; cases e1
  · rw [e2] at e1
    simp only [Value.ownBlock, Option.some.injEq] at e1
    have := blk_lt hh
    omega
theorem RI.push {w W W' : World} {A A' : Option Addr} {n c c' : Nat} {ps : List Pat} {p : Pat} (h : RI w W A n c ps) (hown : W'.ownsRow (w.heap.size + 1) 90 3 (.slice A' (n + 1) c') (n + 1) (rowR ps ++ cellsR p)) (hb : Below (w.heap.size + 1) W W') : RI w W' A' (n + 1) c' (ps ++ [p]) :=
  ⟨blk_later h.1 hb (Nat.lt_succ_self _), by rw [rowR_snoc]; exact hown, h.2.2.trans (hb.mono (Nat.le_succ _))⟩
def RRes (w' : World) (e : Ending) : Except Nat (List Pat) → Prop
  | .ok ps => ∃ A c, e = .returned (.tuple #[.slice A ps.length c, .agg #[.int .i64 0, .int .i64 0]]) ∧ RM w' A ps
  | .error k => e = .returned (.tuple #[.slice none 0 0, .agg #[.int .i64 3, .int .i64 (k : Int)]])
theorem set3 {W : World} {B : Nat} {a b c x y z : Value} {T : TypeId} {fz : Nat × Nat} (h : W.heap[B]? = some (.cells #[a, b, c] T fz)) : (((W.setCell ⟨B, 0, none⟩ x).setCell ⟨B, 1, none⟩ y).setCell ⟨B, 2, none⟩ z).heap[B]? = some (.cells #[x, y, z] T fz) := by
  simp [World.setCell, Array.getElem?_modify, h]
theorem goOn_err (l : List UInt8) (fuel : Nat) (ps : List Pat) (k : Nat) : goOn l fuel ps (.error k) = .error k := rfl
theorem goOn_ok (l : List UInt8) (fuel : Nat) (ps : List Pat) (p : Pat) (e : Nat) : goOn l fuel ps (.ok (p, e)) = stepsL l fuel e (ps ++ [p]) := rfl

set_option maxRecDepth 100000 in
set_option maxHeartbeats 16000000 in
theorem rparse_is (s : ByteArray) (hs : s.size ≤ 1000000) (w : World) : Calls Tryd.prog 17 #[.string s] w fun e w' => RRes w' e (parseL s.data.toList) ∧ Below w.heap.size w w' := by
  have FT := Lib.hid (fun (k : Int) (w : World) => rfault_is k w)
  by_cases h46 : s.data.toList = [46]
  · obtain rfl : s = ⟨#[46]⟩ := bytes_ext h46
    go_enter Tryd.func17, Tryd.ntmps17
    go_wp2
    exact bodyPost_ret (v := .tuple #[.slice none 0 0, .agg #[.int .i64 0, .int .i64 0]]) (by simp [results, Tryd.results17, go_sem]) rfl ⟨⟨none, 0, rfl, fun k hk => by simp at hk⟩, below_new1 _ _⟩
  · by_cases h0 : s.data.toList = []
    · obtain rfl : s = ⟨#[]⟩ := bytes_ext h0
      go_enter Tryd.func17, Tryd.ntmps17
      go_wp2_with (go_at_call 39; (with_reducible refine (FT.out _ _).mono ?_); rintro e w1 ⟨rfl, hb1⟩; have hf := (FB.new w 0 0).keep hb1 (Nat.le_refl _); obtain ⟨f0, f1, g0, g1, hflt⟩ := hf.cells)
      exact bodyPost_ret (v := .tuple #[.slice none 0 0, .agg #[.int .i64 3, .int .i64 0]]) (by simp [results, Tryd.results17, go_sem, f0, f1]) rfl ⟨rfl, Below.two ((below_new1 _ _).trans (hb1.mono (by simp))) (Nat.le_refl _) _ _⟩
    · have hsz : 0 < s.size := by
        rcases Nat.eq_zero_or_pos s.size with h | h
        · exact absurd (List.eq_nil_of_length_eq_zero h) h0
        · exact h
      obtain ⟨r, hr⟩ : ∃ r, stepsL s.data.toList (s.size + 1) 0 [] = r := ⟨_, rfl⟩
      have hpr : parseL s.data.toList = r := by unfold parseL; rw [if_neg h46, if_neg h0]; exact hr
      rw [hpr]
      have HR := Lib.hid hr
      have g1 : (s.toList == [46]) = false := by rw [ByteArray.toList_eq]; simpa using h46
      have g2 : s.toList.isEmpty = false := by rw [ByteArray.toList_eq]; cases e : s.data.toList with | nil => exact absurd e h0 | cons a t => rfl
      have hdot := byte_eq hsz 46 46 rfl
      by_cases hd : s.data.toList[0]? = some 46
      · rw [decide_eq_true hd] at hdot
        have hr1 : Hid (r = .error 1) := by
          show _ = _
          rw [← hr, stepsL_bad hsz (by simp) (by rw [hd]; simp) (by rw [hd]; simp), if_pos ⟨rfl, hd⟩]
        rw [hr1.out]
        clear h46 h0 hr hpr HR hd
        go_enter Tryd.func17, Tryd.ntmps17
        go_wp2_with (go_at_call 39; (with_reducible refine (FT.out _ _).mono ?_); rintro e w1 ⟨rfl, hb1⟩; have hf := (FB.new w 0 0).keep hb1 (Nat.le_refl _); obtain ⟨f0, f1, g0, g1, hflt⟩ := hf.cells)
        exact bodyPost_ret (v := .tuple #[.slice none 0 0, .agg #[.int .i64 3, .int .i64 1]]) (by simp [results, Tryd.results17, go_sem, f0, f1]) rfl ⟨rfl, Below.two ((below_new1 _ _).trans (hb1.mono (by simp))) (Nat.le_refl _) _ _⟩
      · rw [decide_eq_false hd] at hdot
        have HD := Lib.hid hd
        obtain ⟨i0, hi0, hz0, hz1, hz2⟩ := info_parts step3_info
        have Hi := Lib.hid hi0; have Hz0 := Lib.hid hz0; have Hz1 := Lib.hid hz1; have Hz2 := Lib.hid hz2
        clear h46 h0 hr hpr hd hi0 hz0 hz1 hz2
        go_enter Tryd.func17, Tryd.ntmps17
        go_wp2
        go_loopg [4, 5] s.size (fun g s4 s5 wr => ∃ (i n : Nat) (ps : List Pat) (A : Option Addr) (c : Nat), s5 = .int .i64 (i : Int) ∧ s4 = .slice A n c ∧ i ≤ s.size ∧ n ≤ i ∧ Hid (n = ps.length) ∧ Hid (g = s.size - i) ∧
          Hid (RI w wr A n c ps) ∧ Hid (∃ fuel, s.size < fuel + i ∧ stepsL s.data.toList fuel i ps = r))
        case atStart => exact ⟨0, 0, [], none, 0, rfl, rfl, by omega, by omega, rfl, by show _ = _; omega, ⟨FB.new w 0 0, World.ownsRow_nil _ _ _ _, below_new1 w _⟩, s.size + 1, by omega, HR.out⟩
        case round =>
          clear HR g1 g2 hdot
          obtain ⟨i, n, ps, A, c, rfl, rfl, hi, hn, hnl, hg, HP, HS⟩ := hrel
          by_cases hlt : i < s.size
          · obtain ⟨fu, hfu, hst⟩ := HS.out
            obtain ⟨fuel, rfl⟩ : ∃ f, fu = f + 1 := ⟨fu - 1, by omega⟩
            have e1 := byte_eq hlt 47 47 rfl
            have e2 := byte_ne hlt 47 47 rfl
            have e3 := byte_ne hlt 91 91 rfl
            have hgl := HP.out.lt
            by_cases h5 : n = 512
            · have b5 : ((n : Int) == 512) = true := by rw [h5]; rfl
              have hr1 : Hid (r = .error i) := by show _ = _; rw [← hst]; exact stepsL_most hlt (by rw [← hnl.out]; exact h5)
              clear e1 e2 e3 hst h5
              go_wp2_with (go_at_call 39; (with_reducible refine (FT.out _ _).mono ?_); rintro e w9 ⟨rfl, hb9⟩; have HF9 := Lib.hid ((HP.out).later hb9); obtain ⟨f0, f1, gg0, gg1, hflt⟩ := HF9.out.1.cells)
              exact bodyPost_ret (v := .tuple #[.slice none 0 0, .agg #[.int .i64 3, .int .i64 ((i : Int))]]) (by simp [results, Tryd.results17, go_sem, f0, f1]) rfl ⟨by rw [hr1.out]; simp [RRes]; try omega, Below.two HF9.out.2.2 (Nat.le_refl _) _ _⟩
            · have b5 : ((n : Int) == 512) = false := by rw [beq_eq_false_iff_ne]; omega
              have h5' : ¬ ps.length = 512 := by rw [← hnl.out]; exact h5
              clear h5
              by_cases hk : s.data.toList[i]? = some 47
              · rw [decide_eq_true hk] at e1
                replace e2 := not_t e2 (decide_eq_true hk)
                rw [stepsL_key hlt h5' hk] at hst
                clear e3 hk
                by_cases s1 : s.data.toList[i + 1]? = some 42
                · have p1 : i + 1 < s.size := (List.getElem?_eq_some_iff.1 s1).1
                  have I1 := Lib.hid (fun w => ris_is s (i + 1) 42 42 rfl true (decide_eq_true s1) w)
                  by_cases s2 : s.data.toList[i + 2]? = some 42
                  · have I2 := Lib.hid (fun w => ris_is s (i + 2) 42 42 rfl true (decide_eq_true s2) w)
                    have hnx : Hid (stepsL s.data.toList fuel (i + 3) (ps ++ [.stars]) = r) := by
                      show _ = _
                      rw [← hst, keyedL, if_pos s1, if_pos s2, goOn_ok]
                    have p2 : i + 2 < s.size := (List.getElem?_eq_some_iff.1 s2).1
                    clear hst s1 s2
                    rw [show ((i + 1 : Nat) : Int) = (i : Int) + 1 by omega] at I1
                    rw [show ((i + 2 : Nat) : Int) = (i : Int) + 1 + 1 by omega] at I2
                    go_wp2_with (first
                      | (go_at_call 40; (with_reducible refine (I1.out _).mono ?_); rintro e wz ⟨rfl, rfl⟩)
                      | (go_at_call 40; (with_reducible refine (I2.out _).mono ?_); rintro e wz ⟨rfl, rfl⟩)
                      | (at_builtin; refine wpList_app1 _ rfl _ _ 43 rfl (w.heap.size + 1) 90 i0 _ 3 40 Tryd.underlying43 Hi.out Hz0.out Hz1.out Hz2.out rfl (by decide) A n c (rowR ps) rfl (HP.out).2.1 [.int .i64 2, .string ⟨#[]⟩, .string ⟨#[]⟩] _ rfl rfl (cellsR_one (p := .stars)) (by omega) (by decide) (HP.out).lt ?_; intro A' c' w5 hown5 hc5 hb5; have HN5 := Lib.hid ((HP.out).push (p := .stars) hown5 hb5); clear hown5 hc5 hb5))
                    go_roundg (s.size - (i + 3))
                    case measure => have := hg.out; omega
                    case rel => exact ⟨i + 3, n + 1, _, A', c', by go_num, rfl, by omega, by omega, by show _ = _; rw [List.length_append, ← hnl.out]; rfl, rfl, HN5.out, fuel, by omega, hnx.out⟩
                  · have I2 := Lib.hid (fun w => ris_is s (i + 2) 42 42 rfl false (decide_eq_false s2) w)
                    have hnx : Hid (stepsL s.data.toList fuel (i + 2) (ps ++ [.anyKey]) = r) := by
                      show _ = _
                      rw [← hst, keyedL, if_pos s1, if_neg s2, goOn_ok]
                    skip
                    clear hst s1 s2
                    rw [show ((i + 1 : Nat) : Int) = (i : Int) + 1 by omega] at I1
                    rw [show ((i + 2 : Nat) : Int) = (i : Int) + 1 + 1 by omega] at I2
                    go_wp2_with (first
                      | (go_at_call 40; (with_reducible refine (I1.out _).mono ?_); rintro e wz ⟨rfl, rfl⟩)
                      | (go_at_call 40; (with_reducible refine (I2.out _).mono ?_); rintro e wz ⟨rfl, rfl⟩)
                      | (at_builtin; refine wpList_app1 _ rfl _ _ 43 rfl (w.heap.size + 1) 90 i0 _ 3 40 Tryd.underlying43 Hi.out Hz0.out Hz1.out Hz2.out rfl (by decide) A n c (rowR ps) rfl (HP.out).2.1 [.int .i64 1, .string ⟨#[]⟩, .string ⟨#[]⟩] _ rfl rfl (cellsR_one (p := .anyKey)) (by omega) (by decide) (HP.out).lt ?_; intro A' c' w5 hown5 hc5 hb5; have HN5 := Lib.hid ((HP.out).push (p := .anyKey) hown5 hb5); clear hown5 hc5 hb5))
                    go_roundg (s.size - (i + 2))
                    case measure => have := hg.out; omega
                    case rel => exact ⟨i + 2, n + 1, _, A', c', by go_num, rfl, by omega, by omega, by show _ = _; rw [List.length_append, ← hnl.out]; rfl, rfl, HN5.out, fuel, by omega, hnx.out⟩
                · have I1 := Lib.hid (fun w => ris_is s (i + 1) 42 42 rfl false (decide_eq_false s1) w)
                  obtain ⟨⟨o, m, b⟩, hw⟩ : ∃ x, wordL (s.data.toList.drop (i + 1)) = x := ⟨_, rfl⟩
                  have hle := word_le hw
                  rw [bal] at hle
                  have WC := Lib.hid (fun w => rword_is s (i + 1) (by omega) hs o m b hw w)
                  rw [show ((i + 1 : Nat) : Int) = (i : Int) + 1 by omega] at I1 WC
                  cases b with
                  | some k =>
                    have hr1 : Hid (r = .error (i + 1 + k)) := by
                      show _ = _
                      rw [← hst, keyedL, if_neg s1, hw]
                      exact goOn_err _ _ _ _
                    unfold rwordV at WC
                    dsimp only at WC
                    rw [show ((i + 1 + k : Nat) : Int) = (i : Int) + 1 + (k : Int) by omega] at WC
                    have hk0 : (0 : Int) ≤ (i : Int) + 1 + (k : Int) := by omega
                    clear hst s1 hw hle
                    go_wp2_with (first
                      | (go_at_call 40; (with_reducible refine (I1.out _).mono ?_); rintro e wz ⟨rfl, rfl⟩)
                      | (go_at_call 34; (with_reducible refine (WC.out _).mono ?_); rintro e w2 ⟨rfl, hb2⟩; have HP2 := Lib.hid (HP.out.later hb2); clear hb2)
                      | (go_at_call 39; (with_reducible refine (FT.out _ _).mono ?_); rintro e w9 ⟨rfl, hb9⟩; have HF9 := Lib.hid ((HP2.out).later hb9); obtain ⟨f0, f1, gg0, gg1, hflt⟩ := HF9.out.1.cells))
                    exact bodyPost_ret (v := .tuple #[.slice none 0 0, .agg #[.int .i64 3, .int .i64 ((i : Int) + 1 + (k : Int))]]) (by simp [results, Tryd.results17, go_sem, f0, f1]) rfl ⟨by rw [hr1.out]; simp [RRes]; try omega, Below.two HF9.out.2.2 (Nat.le_refl _) _ _⟩
                  | none =>
                    have hnx : Hid (stepsL s.data.toList fuel (i + 1 + m) (ps ++ [.key o]) = r) := by
                      show _ = _
                      rw [← hst, keyedL, if_neg s1, hw]
                      exact (goOn_ok _ _ _ _ _).symm
                    have hml := hle.1
                    unfold rwordV at WC
                    dsimp only at WC
                    rw [show ((i + 1 + m : Nat) : Int) = (i : Int) + 1 + (m : Int) by omega] at WC
                    clear hst s1 hw hle
                    go_wp2_with (first
                      | (go_at_call 40; (with_reducible refine (I1.out _).mono ?_); rintro e wz ⟨rfl, rfl⟩)
                      | (go_at_call 34; (with_reducible refine (WC.out _).mono ?_); rintro e w2 ⟨rfl, hb2⟩; have HP2 := Lib.hid (HP.out.later hb2); clear hb2)
                      | (at_builtin; refine wpList_app1 _ rfl _ _ 43 rfl (w.heap.size + 1) 90 i0 _ 3 40 Tryd.underlying43 Hi.out Hz0.out Hz1.out Hz2.out rfl (by decide) A n c (rowR ps) rfl (HP2.out).2.1 [.int .i64 0, .string ⟨o.toArray⟩, .string ⟨#[]⟩] _ rfl rfl (cellsR_one (p := .key o)) (by omega) (by decide) (HP2.out).lt ?_; intro A' c' w5 hown5 hc5 hb5; have HN5 := Lib.hid ((HP2.out).push (p := .key o) hown5 hb5); clear hown5 hc5 hb5))
                    go_roundg (s.size - (i + 1 + m))
                    case measure => have := hg.out; omega
                    case rel => exact ⟨i + 1 + m, n + 1, _, A', c', by go_num, rfl, by omega, by omega, by show _ = _; rw [List.length_append, ← hnl.out]; rfl, rfl, HN5.out, fuel, by omega, hnx.out⟩
              · rw [decide_eq_false hk] at e1
                replace e2 := not_f e2 (decide_eq_false hk)
                by_cases hb : s.data.toList[i]? = some 91
                · replace e3 := not_t e3 (decide_eq_true hb)
                  rw [stepsL_list hlt h5' hk hb] at hst
                  clear hk hb
                  have HB0 := Lib.hid (heap_new1 wr (.cells #[.int .i64 3, .string ⟨#[]⟩, .string ⟨#[]⟩] 90))
                  have HP1 := Lib.hid (HP.out.later (below_new1 wr (.cells #[.int .i64 3, .string ⟨#[]⟩, .string ⟨#[]⟩] 90)))
                  obtain ⟨B, hB⟩ : ∃ B, B = wr.heap.size := ⟨_, rfl⟩
                  have hneB := HP.out.ne (B := B) (by omega)
                  have hBl : w.heap.size + 1 ≤ B := by rw [hB]; exact HP.out.lt
                  go_upto_region 27 with (fail)
                  rw [← hB] at HB0 ⊢
                  obtain ⟨W1, hW1⟩ : ∃ W1, W1 = wr.alloc (.cells #[.int .i64 3, .string ⟨#[]⟩, .string ⟨#[]⟩] 90) := ⟨_, rfl⟩
                  rw [← hW1] at HB0 HP1 ⊢
                  clear hW1 hB
                  by_cases s1 : s.data.toList[i + 1]? = some 42
                  · have p1 : i + 1 < s.size := (List.getElem?_eq_some_iff.1 s1).1
                    have I1 := Lib.hid (fun w => ris_is s (i + 1) 42 42 rfl true (decide_eq_true s1) w)
                    rw [show ((i + 1 : Nat) : Int) = (i : Int) + 1 by omega] at I1
                    rw [listedL, if_pos s1] at hst
                    have HBc := HB0
                    have d0 := blk_cell HBc.out 0
                    have d1 := blk_cell HBc.out 1
                    have d2 := blk_cell HBc.out 2
                    have z0 := blk_frozen HBc.out 0
                    have z1 := blk_frozen HBc.out 1
                    have z2 := blk_frozen HBc.out 2
                    clear s1
                    by_cases sc : s.data.toList[i + 1 + 1]? = some 93
                    · have IC := Lib.hid (fun w => ris_is s (i + 1 + 1) 93 93 rfl true (decide_eq_true sc) w)
                      have pc : i + 1 + 1 < s.size := (List.getElem?_eq_some_iff.1 sc).1
                      have hnx : Hid (stepsL s.data.toList fuel (i + 1 + 1 + 1) (ps ++ [.anyAt]) = r) := by
                        show _ = _
                        rw [← hst, closedL, if_pos sc]
                        exact (goOn_ok _ _ _ _ _).symm
                      rw [show ((i + 1 + 1 : Nat) : Int) = (i : Int) + 1 + 1 by omega] at IC
                      clear hst sc
                      go_wp2_with (first
                        | (go_at_call 40; (with_reducible refine (I1.out _).mono ?_); rintro e wz ⟨rfl, rfl⟩)
                        | (go_at_call 40; (with_reducible refine (IC.out _).mono ?_); rintro e wz ⟨rfl, rfl⟩)
                        | (at_builtin; refine wpList_app1 _ rfl _ _ 43 rfl (w.heap.size + 1) 90 i0 _ 3 40 Tryd.underlying43 Hi.out Hz0.out Hz1.out Hz2.out rfl (by decide) A n c (rowR ps) rfl (HP1.out).2.1 [.int .i64 3, .string ⟨#[]⟩, .string ⟨#[]⟩] _ rfl rfl (cellsR_one (p := .anyAt)) (by omega) (by decide) (HP1.out).lt ?_; intro A' c' w5 hown5 hc5 hb5; have HN5 := Lib.hid ((HP1.out).push (p := .anyAt) hown5 hb5); clear hown5 hc5 hb5))
                      go_roundg (s.size - (i + 1 + 1 + 1))
                      case measure => have := hg.out; omega
                      case rel => exact ⟨i + 1 + 1 + 1, n + 1, _, A', c', by go_num, rfl, by omega, by omega, by show _ = _; rw [List.length_append, ← hnl.out]; rfl, rfl, HN5.out, fuel, by omega, hnx.out⟩
                    · have IC := Lib.hid (fun w => ris_is s (i + 1 + 1) 93 93 rfl false (decide_eq_false sc) w)
                      have hr1 : Hid (r = .error (i + 1 + 1)) := by
                        show _ = _
                        rw [← hst, closedL, if_neg sc]
                        rfl
                      rw [show ((i + 1 + 1 : Nat) : Int) = (i : Int) + 1 + 1 by omega] at IC
                      clear hst sc
                      go_wp2_with (first
                        | (go_at_call 40; (with_reducible refine (I1.out _).mono ?_); rintro e wz ⟨rfl, rfl⟩)
                        | (go_at_call 40; (with_reducible refine (IC.out _).mono ?_); rintro e wz ⟨rfl, rfl⟩)
                        | (go_at_call 39; (with_reducible refine (FT.out _ _).mono ?_); rintro e w9 ⟨rfl, hb9⟩; have HF9 := Lib.hid ((HP1.out).later hb9); obtain ⟨f0, f1, gg0, gg1, hflt⟩ := HF9.out.1.cells))
                      exact bodyPost_ret (v := .tuple #[.slice none 0 0, .agg #[.int .i64 3, .int .i64 ((i : Int) + 1 + 1)]]) (by simp [results, Tryd.results17, go_sem, f0, f1]) rfl ⟨by rw [hr1.out]; simp [RRes]; try omega, Below.two HF9.out.2.2 (Nat.le_refl _) _ _⟩
                  · have I1 := Lib.hid (fun w => ris_is s (i + 1) 42 42 rfl false (decide_eq_false s1) w)
                    obtain ⟨⟨o, m, b⟩, hw⟩ : ∃ x, wordL (s.data.toList.drop (i + 1)) = x := ⟨_, rfl⟩
                    have hle := word_le hw
                    rw [bal] at hle
                    have WC := Lib.hid (fun w => rword_is s (i + 1) (by omega) hs o m b hw w)
                    rw [show ((i + 1 : Nat) : Int) = (i : Int) + 1 by omega] at I1 WC
                    rw [listedL, if_neg s1, hw] at hst
                    clear s1 hw
                    cases b with
                    | some k =>
                      have hr1 : Hid (r = .error (i + 1 + k)) := by
                        show _ = _
                        rw [← hst]
                        exact goOn_err _ _ _ _
                      unfold rwordV at WC
                      dsimp only at WC
                      rw [show ((i + 1 + k : Nat) : Int) = (i : Int) + 1 + (k : Int) by omega] at WC
                      have hk0 : (0 : Int) ≤ (i : Int) + 1 + (k : Int) := by omega
                      clear hst hle
                      go_wp2_with (first
                        | (go_at_call 40; (with_reducible refine (I1.out _).mono ?_); rintro e wz ⟨rfl, rfl⟩)
                        | (go_at_call 34; (with_reducible refine (WC.out _).mono ?_); rintro e w2 ⟨rfl, hb2⟩; have HP2 := Lib.hid (HP1.out.later hb2); clear hb2)
                        | (go_at_call 39; (with_reducible refine (FT.out _ _).mono ?_); rintro e w9 ⟨rfl, hb9⟩; have HF9 := Lib.hid ((HP2.out).later hb9); obtain ⟨f0, f1, gg0, gg1, hflt⟩ := HF9.out.1.cells))
                      exact bodyPost_ret (v := .tuple #[.slice none 0 0, .agg #[.int .i64 3, .int .i64 ((i : Int) + 1 + (k : Int))]]) (by simp [results, Tryd.results17, go_sem, f0, f1]) rfl ⟨by rw [hr1.out]; simp [RRes]; try omega, Below.two HF9.out.2.2 (Nat.le_refl _) _ _⟩
                    | none =>
                      have hml := hle.1
                      unfold rwordV at WC
                      dsimp only at WC hst
                      obtain ⟨E, hE⟩ : ∃ E, E = i + 1 + m := ⟨_, rfl⟩
                      rw [← hE] at WC hst
                      have hEi : i + 1 ≤ E := by omega
                      have hEs : E ≤ s.size := by omega
                      clear hle hE hml
                      by_cases s2 : s.data.toList[E]? = some 61
                      · have p2 : E < s.size := (List.getElem?_eq_some_iff.1 s2).1
                        have I2 := Lib.hid (fun w => ris_is s E 61 61 rfl true (decide_eq_true s2) w)
                        rw [if_pos s2] at hst
                        clear s2
                        by_cases s3 : s.data.toList[E + 1]? = some 42
                        · have p3 : E + 1 < s.size := (List.getElem?_eq_some_iff.1 s3).1
                          have I3 := Lib.hid (fun w => ris_is s (E + 1) 42 42 rfl true (decide_eq_true s3) w)
                          rw [show ((E + 1 : Nat) : Int) = (E : Int) + 1 by omega] at I3
                          rw [if_pos s3] at hst
                          clear s3
                          go_upto_region 36 with (first
                            | (go_at_call 40; (with_reducible refine (I1.out _).mono ?_); rintro e wz ⟨rfl, rfl⟩)
                            | (go_at_call 34; (with_reducible refine (WC.out _).mono ?_); rintro e w2 ⟨rfl, hb2⟩; have HP2 := Lib.hid (HP1.out.later hb2); have HBc := Lib.hid (blk_later HB0.out hb2 (blk_lt HB0.out)); clear hb2)
                            | (go_at_call 40; (with_reducible refine (I2.out _).mono ?_); rintro e wz ⟨rfl, rfl⟩)
                            | (go_at_call 40; (with_reducible refine (I3.out _).mono ?_); rintro e wz ⟨rfl, rfl⟩))
                          have d0 := blk_cell HBc.out 0
                          have d1 := blk_cell HBc.out 1
                          have d2 := blk_cell HBc.out 2
                          have z0 := blk_frozen HBc.out 0
                          have z1 := blk_frozen HBc.out 1
                          have z2 := blk_frozen HBc.out 2
                          go_upto_region 43 with (fail)
                          have hbk := set3 HBc.out (x := .int .i64 5) (y := .string ⟨o.toArray⟩) (z := .string ⟨#[]⟩)
                          have hpc := (((HP2.out.setB (i := 0) hneB hBl (.int .i64 5)).setB (i := 1) hneB hBl (.string ⟨o.toArray⟩)).setB (i := 2) hneB hBl (.string ⟨#[]⟩))
                          generalize (((w2.setCell ⟨B, 0, none⟩ (.int .i64 5)).setCell ⟨B, 1, none⟩ (.string ⟨o.toArray⟩)).setCell ⟨B, 2, none⟩ (.string ⟨#[]⟩)) = Wc at hbk hpc ⊢
                          have HPc := Lib.hid hpc
                          clear d0 d1 d2 z0 z1 z2 hpc
                          have d0 := blk_cell hbk 0
                          have d1 := blk_cell hbk 1
                          have d2 := blk_cell hbk 2
                          clear hbk
                          by_cases sc : s.data.toList[E + 2]? = some 93
                          · have IC := Lib.hid (fun w => ris_is s (E + 2) 93 93 rfl true (decide_eq_true sc) w)
                            have pc : E + 2 < s.size := (List.getElem?_eq_some_iff.1 sc).1
                            have hnx : Hid (stepsL s.data.toList fuel (E + 2 + 1) (ps ++ [.anyId o]) = r) := by
                              show _ = _
                              rw [← hst, closedL, if_pos sc]
                              exact (goOn_ok _ _ _ _ _).symm
                            rw [show ((E + 2 : Nat) : Int) = (E : Int) + 1 + 1 by omega] at IC
                            clear hst sc
                            go_wp2_with (first
                              | (go_at_call 40; (with_reducible refine (IC.out _).mono ?_); rintro e wz ⟨rfl, rfl⟩)
                              | (at_builtin; refine wpList_app1 _ rfl _ _ 43 rfl (w.heap.size + 1) 90 i0 _ 3 40 Tryd.underlying43 Hi.out Hz0.out Hz1.out Hz2.out rfl (by decide) A n c (rowR ps) rfl (HPc.out).2.1 [.int .i64 5, .string ⟨o.toArray⟩, .string ⟨#[]⟩] _ rfl rfl (cellsR_one (p := .anyId o)) (by omega) (by decide) (HPc.out).lt ?_; intro A' c' w5 hown5 hc5 hb5; have HN5 := Lib.hid ((HPc.out).push (p := .anyId o) hown5 hb5); clear hown5 hc5 hb5))
                            go_roundg (s.size - (E + 2 + 1))
                            case measure => have := hg.out; omega
                            case rel => exact ⟨E + 2 + 1, n + 1, _, A', c', by go_num, rfl, by omega, by omega, by show _ = _; rw [List.length_append, ← hnl.out]; rfl, rfl, HN5.out, fuel, by omega, hnx.out⟩
                          · have IC := Lib.hid (fun w => ris_is s (E + 2) 93 93 rfl false (decide_eq_false sc) w)
                            have hr1 : Hid (r = .error (E + 2)) := by
                              show _ = _
                              rw [← hst, closedL, if_neg sc]
                              rfl
                            rw [show ((E + 2 : Nat) : Int) = (E : Int) + 1 + 1 by omega] at IC
                            clear hst sc
                            go_wp2_with (first
                              | (go_at_call 40; (with_reducible refine (IC.out _).mono ?_); rintro e wz ⟨rfl, rfl⟩)
                              | (go_at_call 39; (with_reducible refine (FT.out _ _).mono ?_); rintro e w9 ⟨rfl, hb9⟩; have HF9 := Lib.hid ((HPc.out).later hb9); obtain ⟨f0, f1, gg0, gg1, hflt⟩ := HF9.out.1.cells))
                            exact bodyPost_ret (v := .tuple #[.slice none 0 0, .agg #[.int .i64 3, .int .i64 ((E : Int) + 1 + 1)]]) (by simp [results, Tryd.results17, go_sem, f0, f1]) rfl ⟨by rw [hr1.out]; simp [RRes]; try omega, Below.two HF9.out.2.2 (Nat.le_refl _) _ _⟩
                        · have I3 := Lib.hid (fun w => ris_is s (E + 1) 42 42 rfl false (decide_eq_false s3) w)
                          rw [if_neg s3] at hst
                          obtain ⟨⟨v, m2, b⟩, hw⟩ : ∃ x, wordL (s.data.toList.drop (E + 1)) = x := ⟨_, rfl⟩
                          have hle := word_le hw
                          rw [bal] at hle
                          have WD := Lib.hid (fun w => rword_is s (E + 1) (by omega) hs v m2 b hw w)
                          rw [show ((E + 1 : Nat) : Int) = (E : Int) + 1 by omega] at I3 WD
                          rw [hw] at hst
                          clear s3 hw
                          cases b with
                          | some k =>
                            have hr1 : Hid (r = .error (E + 1 + k)) := by
                              show _ = _
                              rw [← hst]
                              exact goOn_err _ _ _ _
                            unfold rwordV at WD
                            dsimp only at WD
                            rw [show ((E + 1 + k : Nat) : Int) = (E : Int) + 1 + (k : Int) by omega] at WD
                            have hk0 : (0 : Int) ≤ (E : Int) + 1 + (k : Int) := by omega
                            clear hst hle
                            go_wp2_with (first
                              | (go_at_call 40; (with_reducible refine (I1.out _).mono ?_); rintro e wz ⟨rfl, rfl⟩)
                              | (have _z := HP2; go_at_call 34; (with_reducible refine (WD.out _).mono ?_); rintro e w3 ⟨rfl, hb3⟩; have HP3 := Lib.hid (HP2.out.later hb3); clear hb3)
                              | (go_at_call 34; (with_reducible refine (WC.out _).mono ?_); rintro e w2 ⟨rfl, hb2⟩; have HP2 := Lib.hid (HP1.out.later hb2); have HBc := Lib.hid (blk_later HB0.out hb2 (blk_lt HB0.out)); clear hb2)
                              | (go_at_call 40; (with_reducible refine (I2.out _).mono ?_); rintro e wz ⟨rfl, rfl⟩)
                              | (go_at_call 40; (with_reducible refine (I3.out _).mono ?_); rintro e wz ⟨rfl, rfl⟩)
                              | (go_at_call 39; (with_reducible refine (FT.out _ _).mono ?_); rintro e w9 ⟨rfl, hb9⟩; have HF9 := Lib.hid ((HP3.out).later hb9); obtain ⟨f0, f1, gg0, gg1, hflt⟩ := HF9.out.1.cells))
                            exact bodyPost_ret (v := .tuple #[.slice none 0 0, .agg #[.int .i64 3, .int .i64 ((E : Int) + 1 + (k : Int))]]) (by simp [results, Tryd.results17, go_sem, f0, f1]) rfl ⟨by rw [hr1.out]; simp [RRes]; try omega, Below.two HF9.out.2.2 (Nat.le_refl _) _ _⟩
                          | none =>
                            have hml2 := hle.1
                            unfold rwordV at WD
                            dsimp only at WD hst
                            obtain ⟨E2, hE2⟩ : ∃ E2, E2 = E + 1 + m2 := ⟨_, rfl⟩
                            rw [← hE2] at WD hst
                            have hE2i : E + 1 ≤ E2 := by omega
                            have hE2s : E2 ≤ s.size := by omega
                            clear hE2 hml2
                            have hk2 : ¬ (0 : Int) ≤ -1 := by omega
                            clear hle
                            go_upto_region 41 with (first
                              | (go_at_call 40; (with_reducible refine (I1.out _).mono ?_); rintro e wz ⟨rfl, rfl⟩)
                              | (have _z := HP2; go_at_call 34; (with_reducible refine (WD.out _).mono ?_); rintro e w3 ⟨rfl, hb3⟩; have HP3 := Lib.hid (HP2.out.later hb3); replace HBc := Lib.hid (blk_later HBc.out hb3 (blk_lt HBc.out)); clear hb3)
                              | (go_at_call 34; (with_reducible refine (WC.out _).mono ?_); rintro e w2 ⟨rfl, hb2⟩; have HP2 := Lib.hid (HP1.out.later hb2); have HBc := Lib.hid (blk_later HB0.out hb2 (blk_lt HB0.out)); clear hb2)
                              | (go_at_call 40; (with_reducible refine (I2.out _).mono ?_); rintro e wz ⟨rfl, rfl⟩)
                              | (go_at_call 40; (with_reducible refine (I3.out _).mono ?_); rintro e wz ⟨rfl, rfl⟩))
                            have d0 := blk_cell HBc.out 0
                            have d1 := blk_cell HBc.out 1
                            have d2 := blk_cell HBc.out 2
                            have z0 := blk_frozen HBc.out 0
                            have z1 := blk_frozen HBc.out 1
                            have z2 := blk_frozen HBc.out 2
                            go_upto_region 43 with (fail)
                            have hbk := set3 HBc.out (x := .int .i64 4) (y := .string ⟨o.toArray⟩) (z := .string ⟨v.toArray⟩)
                            have hpc := (((HP3.out.setB (i := 0) hneB hBl (.int .i64 4)).setB (i := 1) hneB hBl (.string ⟨o.toArray⟩)).setB (i := 2) hneB hBl (.string ⟨v.toArray⟩))
                            generalize (((w3.setCell ⟨B, 0, none⟩ (.int .i64 4)).setCell ⟨B, 1, none⟩ (.string ⟨o.toArray⟩)).setCell ⟨B, 2, none⟩ (.string ⟨v.toArray⟩)) = Wc at hbk hpc ⊢
                            have HPc := Lib.hid hpc
                            clear d0 d1 d2 z0 z1 z2 hpc
                            have d0 := blk_cell hbk 0
                            have d1 := blk_cell hbk 1
                            have d2 := blk_cell hbk 2
                            clear hbk
                            by_cases sc : s.data.toList[E2]? = some 93
                            · have IC := Lib.hid (fun w => ris_is s (E2) 93 93 rfl true (decide_eq_true sc) w)
                              have pc : E2 < s.size := (List.getElem?_eq_some_iff.1 sc).1
                              have hnx : Hid (stepsL s.data.toList fuel (E2 + 1) (ps ++ [.id o v]) = r) := by
                                show _ = _
                                rw [← hst, closedL, if_pos sc]
                                exact (goOn_ok _ _ _ _ _).symm
                              rw [show ((E2 : Nat) : Int) = (E2 : Int) by omega] at IC
                              clear hst sc
                              go_wp2_with (first
                                | (go_at_call 40; (with_reducible refine (IC.out _).mono ?_); rintro e wz ⟨rfl, rfl⟩)
                                | (at_builtin; refine wpList_app1 _ rfl _ _ 43 rfl (w.heap.size + 1) 90 i0 _ 3 40 Tryd.underlying43 Hi.out Hz0.out Hz1.out Hz2.out rfl (by decide) A n c (rowR ps) rfl (HPc.out).2.1 [.int .i64 4, .string ⟨o.toArray⟩, .string ⟨v.toArray⟩] _ rfl rfl (cellsR_one (p := .id o v)) (by omega) (by decide) (HPc.out).lt ?_; intro A' c' w5 hown5 hc5 hb5; have HN5 := Lib.hid ((HPc.out).push (p := .id o v) hown5 hb5); clear hown5 hc5 hb5))
                              go_roundg (s.size - (E2 + 1))
                              case measure => have := hg.out; omega
                              case rel => exact ⟨E2 + 1, n + 1, _, A', c', by go_num, rfl, by omega, by omega, by show _ = _; rw [List.length_append, ← hnl.out]; rfl, rfl, HN5.out, fuel, by omega, hnx.out⟩
                            · have IC := Lib.hid (fun w => ris_is s (E2) 93 93 rfl false (decide_eq_false sc) w)
                              have hr1 : Hid (r = .error (E2)) := by
                                show _ = _
                                rw [← hst, closedL, if_neg sc]
                                rfl
                              rw [show ((E2 : Nat) : Int) = (E2 : Int) by omega] at IC
                              clear hst sc
                              go_wp2_with (first
                                | (go_at_call 40; (with_reducible refine (IC.out _).mono ?_); rintro e wz ⟨rfl, rfl⟩)
                                | (go_at_call 39; (with_reducible refine (FT.out _ _).mono ?_); rintro e w9 ⟨rfl, hb9⟩; have HF9 := Lib.hid ((HPc.out).later hb9); obtain ⟨f0, f1, gg0, gg1, hflt⟩ := HF9.out.1.cells))
                              exact bodyPost_ret (v := .tuple #[.slice none 0 0, .agg #[.int .i64 3, .int .i64 ((E2 : Int))]]) (by simp [results, Tryd.results17, go_sem, f0, f1]) rfl ⟨by rw [hr1.out]; simp [RRes]; try omega, Below.two HF9.out.2.2 (Nat.le_refl _) _ _⟩
                      · have I2 := Lib.hid (fun w => ris_is s E 61 61 rfl false (decide_eq_false s2) w)
                        have hr1 : Hid (r = .error E) := by
                          show _ = _
                          rw [← hst, if_neg s2]
                          exact goOn_err _ _ _ _
                        clear hst s2
                        go_wp2_with (first
                          | (go_at_call 40; (with_reducible refine (I1.out _).mono ?_); rintro e wz ⟨rfl, rfl⟩)
                          | (go_at_call 34; (with_reducible refine (WC.out _).mono ?_); rintro e w2 ⟨rfl, hb2⟩; have HP2 := Lib.hid (HP1.out.later hb2); clear hb2)
                          | (go_at_call 40; (with_reducible refine (I2.out _).mono ?_); rintro e wz ⟨rfl, rfl⟩)
                          | (go_at_call 39; (with_reducible refine (FT.out _ _).mono ?_); rintro e w9 ⟨rfl, hb9⟩; have HF9 := Lib.hid ((HP2.out).later hb9); obtain ⟨f0, f1, gg0, gg1, hflt⟩ := HF9.out.1.cells))
                        exact bodyPost_ret (v := .tuple #[.slice none 0 0, .agg #[.int .i64 3, .int .i64 ((E : Int))]]) (by simp [results, Tryd.results17, go_sem, f0, f1]) rfl ⟨by rw [hr1.out]; simp [RRes]; try omega, Below.two HF9.out.2.2 (Nat.le_refl _) _ _⟩
                · replace e3 := not_f e3 (decide_eq_false hb)
                  have hr1 : Hid (r = .error i) := by
                    show _ = _
                    rw [← hst, stepsL_bad hlt h5' hk hb, if_neg (by rintro ⟨rfl, h⟩; exact HD.out h)]
                    rfl
                  clear hst hk hb
                  go_wp2_with (go_at_call 39; (with_reducible refine (FT.out _ _).mono ?_); rintro e w9 ⟨rfl, hb9⟩; have HF9 := Lib.hid ((HP.out).later hb9); obtain ⟨f0, f1, gg0, gg1, hflt⟩ := HF9.out.1.cells)
                  exact bodyPost_ret (v := .tuple #[.slice none 0 0, .agg #[.int .i64 3, .int .i64 ((i : Int))]]) (by simp [results, Tryd.results17, go_sem, f0, f1]) rfl ⟨by rw [hr1.out]; simp [RRes]; try omega, Below.two HF9.out.2.2 (Nat.le_refl _) _ _⟩
          · have hii : i = s.size := by omega
            have hr1 : Hid (r = .ok ps) := by
              show _ = _
              obtain ⟨fu, hfu, hst⟩ := HS.out
              obtain ⟨f, rfl⟩ : ∃ f, fu = f + 1 := ⟨fu - 1, by omega⟩
              rw [← hst, stepsL_end (by show ¬ i < s.size; omega)]
            clear hii
            obtain ⟨f0, f1, gg0, gg1, hflt⟩ := HP.out.1.cells
            have hrm := RM.of_own HP.out.2.1 hnl.out
            have hnn := hnl.out
            clear hnl
            go_wp2
            rw [setCell_same HP.out.1 rfl, setCell_same HP.out.1 rfl]
            exact bodyPost_ret (v := .tuple #[.slice A n c, .agg #[.int .i64 0, .int .i64 0]]) (by simp [results, Tryd.results17, go_sem, f0, f1]) rfl ⟨by
              rw [hr1.out]
              refine ⟨A, c, by rw [← hnn], ?_⟩
              exact RM.of_own HP.out.2.1 hnn, HP.out.2.2⟩

end Go.Proofs.YtjnedbkbhoiopaaDoor
