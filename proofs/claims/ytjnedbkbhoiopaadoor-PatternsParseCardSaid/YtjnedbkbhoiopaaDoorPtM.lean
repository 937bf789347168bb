/- The walk over patterns.Parse, its loop; no statement of the seat is proved here. -/
import Derived.Test.YtjnedbkbhoiopaaDoorPtL
namespace Go.Proofs.YtjnedbkbhoiopaaDoor
open Go.RowKit

theorem PI.row {w W W1 W2 : World} {A : Option Addr} {c : Nat} {q : List (Pat × Value)} (h : PI w W A c q) (hb : Below W.heap.size W W1) (hg : W1.grownBy W2 (Value.slice A q.length c).ownBlock) :
    W2.heap[w.heap.size + 1]? = some (.cells #[.bool true, .slice A q.length c] 34 (0, 0)) := by
  obtain ⟨h1, ⟨h2, h3, h4⟩, h5⟩ := h
  have g2 := blk_later h2 hb (blk_lt h2)
  have n2 := own_ne (own_keep h3 hb (Nat.le_refl _)) g2 (by decide)
  exact (hg.block _ (blk_lt g2) (fun e => n2 e.symm)).trans g2
theorem stepNews {X : ByteArray} {Y : Value} {Z : Bool} (hY : OkF Y) : ∀ u ∈ [Value.string X, Y, .bool Z], u.oneCell' = true := by
  intro u hu
  simp at hu
  rcases hu with rfl | rfl | rfl
  · rfl
  · exact hY.one
  · rfl
theorem byte_eq {s : ByteArray} {i : Nat} (h : i < s.size) (z : UInt8) (n : Int) (hn : (z.toNat : Int) = n) : ((s[i].toNat : Int) == n) = decide (s.data.toList[i]? = some z) := by
  subst hn
  rw [get_str s i h, Bool.eq_iff_iff, beq_iff_eq, decide_eq_true_iff]
  constructor
  · intro e; congr 1; exact UInt8.toNat_inj.1 (Int.ofNat.inj e)
  · intro e; injection e with e; rw [e]
theorem byte_ne {s : ByteArray} {i : Nat} (h : i < s.size) (z : UInt8) (n : Int) (hn : (z.toNat : Int) = n) : ((s[i].toNat : Int) != n) = !decide (s.data.toList[i]? = some z) := by
  rw [bne, byte_eq h z n hn]
theorem not_t {a b : Bool} (h : a = !b) (hb : b = true) : a = false := by subst hb; exact h
theorem not_f {a b : Bool} (h : a = !b) (hb : b = false) : a = true := by subst hb; exact h

set_option maxRecDepth 100000 in
set_option maxHeartbeats 16000000 in
theorem parse_loop (s : ByteArray) (hs : s.size ≤ 1000000) (h0 : s.data.toList ≠ []) (h46 : s.data.toList ≠ [46]) (w : World) :
    Calls Tryd.prog 9 #[.string s] w fun e w' => ParseRes w' e (stepsL s.data.toList (s.data.toList.length + 1) 0 []) ∧ Below w.heap.size w w' := by
  have hlen : s.data.toList.length = s.size := by simp
  obtain ⟨r, hr⟩ : ∃ r, stepsL s.data.toList (s.data.toList.length + 1) 0 [] = r := ⟨_, rfl⟩
  rw [hr]
  rw [hlen] at hr
  have HL := Lib.hid hlen
  have HR := Lib.hid hr
  have g1 : (s.toList == [46]) = false := by rw [ByteArray.toList_eq]; simpa using h46
  have g2 : s.toList.isEmpty = false := by rw [ByteArray.toList_eq]; cases e : s.data.toList with | nil => exact absurd e h0 | cons a t => rfl
  obtain ⟨i0, hi0, hz0, hz1, hz2⟩ := info_parts step_info
  have Hi := Lib.hid hi0; have Hz0 := Lib.hid hz0; have Hz1 := Lib.hid hz1; have Hz2 := Lib.hid hz2
  clear h0 h46 hr hlen hi0 hz0 hz1 hz2
  go_enter Tryd.func9, Tryd.ntmps9
  go_wp2
  go_loopg [5] s.size (fun g s5 wr => ∃ (i : Nat) (q : List (Pat × Value)) (A : Option Addr) (c : Nat), s5 = .int .i64 (i : Int) ∧ i ≤ s.size ∧ q.length ≤ i ∧ Hid (g = s.size - i) ∧
    Hid (PI w wr A c q) ∧ Hid (∃ fuel, s.size < fuel + i ∧ stepsL s.data.toList fuel i (q.map (·.1)) = r))
  case atStart => exact ⟨0, [], none, 0, rfl, by omega, by simp, by show _ = _; omega, PI.new w, s.size + 1, by omega, HR.out⟩
  case round =>
    clear HR g1 g2
    obtain ⟨i, q, A, c, rfl, hi, hq, hg, HP, HS⟩ := hrel
    obtain ⟨fu, hfu, hst⟩ := HS.out
    have hqm : (q.map (·.1)).length = q.length := by simp
    by_cases hlt : i < s.size
    · have hlt' : i < s.data.toList.length := by rw [HL.out]; exact hlt
      obtain ⟨fuel, rfl⟩ : ∃ f, fu = f + 1 := ⟨fu - 1, by omega⟩
      obtain ⟨⟨f0, f1, g0, g1, hlt2⟩, p0, p1, p2, plt⟩ := (⟨HP.out.1.cells, HP.out.2.1.cells⟩ : _ ∧ _)
      have e1 := byte_eq hlt 47 47 rfl
      have e2 := byte_ne hlt 47 47 rfl
      have e3 := byte_ne hlt 91 91 rfl
      by_cases h5 : q.length = 512
      · have b5 : ((q.length : Int) == 512) = true := by rw [h5]; rfl
        have hR1 : Hid (r = .error i) := by show _ = _; rw [← hst]; exact stepsL_most hlt' (by rw [hqm]; exact h5)
        have WR := Lib.hid (fun w => wrongRoot_is s i 0 (by rw [if_neg]; rintro ⟨e, _⟩; omega) w)
        clear e1 e2 e3 hst h5 hqm hlt'
        go_wp2_with (first
          | (go_at_call 27; (with_reducible refine (WR.out _).mono ?_); rintro x w1 ⟨rfl, rfl⟩)
          | (go_at_call 26; (with_reducible refine (wrong_any _ _).mono ?_); rintro x w1 ⟨rfl, hb'⟩; have M := HP.out.later ((below_new2 wr _ _).trans (hb'.mono (by simp; omega))); clear f0 f1 g0 g1 hlt2 p0 p1 p2 plt; obtain ⟨f0, f1, g0, g1, hlt2⟩ := M.1.cells; have HM := Lib.hid M; clear M hb'))
        refine bodyPost_ret (v := .tuple #[.pointer none, .agg #[.int .i64 3, .int .i64 (i : Int)]]) (by simp [results, Tryd.results9, go_sem, f0, f1]) rfl ?_
        rw [hR1.out]
        exact ⟨rfl, Below.two HM.out.2.2 (Nat.le_refl _) _ _⟩
      · have b5 : ((q.length : Int) == 512) = false := by simp; omega
        by_cases hk : s.data.toList[i]? = some 47
        · rw [decide_eq_true hk] at e1; replace e2 := not_t e2 (decide_eq_true hk)
          have KC := Lib.hid (fun w => keyed_is s hs (i + 1) hlt w)
          have hce : ((i + 1 : Nat) : Int) = (i : Int) + 1 := by omega
          rw [hce] at KC
          have hst' := hst
          rw [stepsL_key hlt' (by rw [hqm]; exact h5) hk] at hst'
          have hend := keyed_end (l := s.data.toList) (i := i + 1) hlt'
          obtain ⟨kr, hkr⟩ : ∃ kr, keyedL s.data.toList (i + 1) = kr := ⟨_, rfl⟩
          rw [hkr] at KC hst' hend
          have HST := Lib.hid hst'
          have HEN := Lib.hid hend
          have H5 := Lib.hid h5
          clear hst hst' hend hkr hce hqm hlt' hk
          cases kr with
          | error k =>
            have FI := Lib.hid (fun w => fine_is 3 (k : Int) false rfl w)
            go_wp2_with (first
              | (go_at_call 28; (with_reducible refine (KC.out _).mono ?_); rintro x w1 ⟨hr, hb'⟩; have M := (KM.new wr).later hb'; obtain ⟨X, Y, Z, m, a, b, rfl, hY, rfl, rfl⟩ := hr.flat; have HP1 := Lib.hid (HP.out.later M.2.2); have HY := Lib.hid hY; have hst := fun (w : World) (q : Addr) (md : Mode) => run_store Tryd.prog w q Y md hY.one; clear f0 f1 g0 g1 hlt2 p0 p1 p2 plt; obtain ⟨⟨c0, c1, c2, d0, d1, d2, hlt3⟩, u0, u1, v0, v1, hlt4⟩ := M.cells; have HM := Lib.hid M; clear M hb' hr hY; dsimp only)
              | (go_at_call 30; (with_reducible refine (FI.out _).mono ?_); rintro x w3 ⟨rfl, hb'⟩; have M := ((HM.out.setS _ _ _).setF _ _).later hb'; have N := HP.out.later M.2.2; clear c0 c1 c2 d0 d1 d2 hlt3 u0 u1 v0 v1 hlt4; obtain ⟨⟨c0, c1, c2, d0, d1, d2, hlt3⟩, u0, u1, v0, v1, hlt4⟩ := M.cells; obtain ⟨f0, f1, g0, g1, hlt2⟩ := N.1.cells; obtain ⟨p0, p1, p2, plt⟩ := N.2.1.cells; have HP3 := Lib.hid N; clear M N hb' ))
            go_region
            all_goals (
              go_wp2
              refine bodyPost_ret (v := .tuple #[.pointer none, .agg #[.int .i64 3, .int .i64 (k : Int)]]) (by simp [results, Tryd.results9, go_sem, f0, f1]) rfl ?_
              have hR1 : Hid (r = .error k) := HST.out.symm
              rw [hR1.out]
              exact ⟨rfl, (Below.two HP3.out.2.2 (Nat.le_refl _) _ _).drew⟩)
          | ok x =>
            obtain ⟨p, e⟩ := x
            have FI := Lib.hid (fun w => fine_is 0 0 true rfl w)
            have he1 : i + 1 ≤ e := HEN.out.1
            have he2 : e ≤ s.size := by have := HEN.out.2; rw [HL.out] at this; exact this
            go_wp2_with (first
              | (go_at_call 28; (with_reducible refine (KC.out _).mono ?_); rintro x w1 ⟨hr, hb'⟩; have M := (KM.new wr).later hb'; obtain ⟨X, Y, Z, m, a, b, rfl, hY, hX, hZ, rfl, rfl, rfl, hT⟩ := hr.flat; have HX := Lib.hid hX; have HZ := Lib.hid hZ; have HT := Lib.hid hT; clear hX hZ hT; have HP1 := Lib.hid (HP.out.later M.2.2); have HY := Lib.hid hY; have hst := fun (w : World) (q : Addr) (md : Mode) => run_store Tryd.prog w q Y md hY.one; clear f0 f1 g0 g1 hlt2 p0 p1 p2 plt; obtain ⟨⟨c0, c1, c2, d0, d1, d2, hlt3⟩, u0, u1, v0, v1, hlt4⟩ := M.cells; have HM := Lib.hid M; clear M hb' hr hY; dsimp only)
              | (go_at_call 30; (with_reducible refine (FI.out _).mono ?_); rintro x w3 ⟨rfl, hb'⟩; have HT3 := Lib.hid ((HT.out.keep (KS.keeps HM.out)).later hb'); have M := ((HM.out.setS _ _ _).setF _ _).later hb'; have N := HP.out.later M.2.2; clear c0 c1 c2 d0 d1 d2 hlt3 u0 u1 v0 v1 hlt4; obtain ⟨⟨c0, c1, c2, d0, d1, d2, hlt3⟩, u0, u1, v0, v1, hlt4⟩ := M.cells; obtain ⟨f0, f1, g0, g1, hlt2⟩ := N.1.cells; obtain ⟨p0, p1, p2, plt⟩ := N.2.1.cells; have HP3 := Lib.hid N; clear M N hb' ))
            have hown := HP3.out.2.1.2.1
            have hsz3 := HP3.out.2.2.size
            have HO := Lib.hid hown
            have HNW := Lib.hid (stepNews (X := X) (Z := Z) HY.out)
            clear hown
            go_region_law (refine step_append_lies _ rfl (.tmp 73) (.tmp 75) 32 rfl w.heap.size 65 i0 _ 3 32 Tryd.underlying32 Hi.out Hz0.out Hz1.out Hz2.out rfl (by decide) (.slice A q.length c) q.length (rowQ q) (by simp [Act.eval]) (own_keep HO.out (below_new1 w3 _).drew (Nat.le_refl _)) ⟨w3.heap.size, 0, none⟩ 1 1 [.string X, Y, .bool Z] (by simp [Act.eval]) rfl (news_at (heap_new1 w3 _)) HNW.out (by omega) (by simp only [maxLen]; omega) (by omega) (by simp; omega) (w3.heap.size + 1) (by simp) ?_; intro g' c' w5 hown' hg' hloc hlt5; have HW5 := Lib.hid hown'; have HG5 := Lib.hid hg'; have k5 := HP3.out.row (below_new1 w3 _).drew hg'; have k50 := blk_cell k5 1; have k51 := blk_frozen k5 1; clear hown' hg' hloc k5)
            all_goals (
              have HN := Lib.hid (HP3.out.push (p := p) (f := Y) HT3.out (below_new1 w3 _).drew HG5.out (by rw [HX.out, HZ.out] at HW5; exact HW5.out))
              go_wp2
              go_roundg (s.size - e)
              case measure => have := hg.out; omega
              case rel =>
                have hqx : (q ++ [(p, Y)]).length = q.length + 1 := by simp
                refine ⟨e, q ++ [(p, Y)], _, c', rfl, he2, by rw [hqx]; omega, rfl, HN.out, fuel, by omega, ?_⟩
                have := HST.out
                rw [List.map_append]; exact this)
        · rw [decide_eq_false hk] at e1; replace e2 := not_f e2 (decide_eq_false hk)
          by_cases hb : s.data.toList[i]? = some 91
          · replace e3 := not_t e3 (decide_eq_true hb)
            have KC := Lib.hid (fun w => listed_is s hs (i + 1) hlt w)
            have hce : ((i + 1 : Nat) : Int) = (i : Int) + 1 := by omega
            rw [hce] at KC
            have hst' := hst
            rw [stepsL_list hlt' (by rw [hqm]; exact h5) hk hb] at hst'
            have hend := listed_end (l := s.data.toList) (i := i + 1) hlt'
            obtain ⟨kr, hkr⟩ : ∃ kr, listedL s.data.toList (i + 1) = kr := ⟨_, rfl⟩
            rw [hkr] at KC hst' hend
            have HST := Lib.hid hst'
            have HEN := Lib.hid hend
            have H5 := Lib.hid h5
            clear hst hst' hend hkr hce hqm hlt' hk hb
            cases kr with
            | error k =>
              have FI := Lib.hid (fun w => fine_is 3 (k : Int) false rfl w)
              go_wp2_with (first
                | (go_at_call 29; (with_reducible refine (KC.out _).mono ?_); rintro x w1 ⟨hr, hb'⟩; have M := (KM.new wr).later hb'; obtain ⟨X, Y, Z, m, a, b, rfl, hY, rfl, rfl⟩ := hr.flat; have HP1 := Lib.hid (HP.out.later M.2.2); have HY := Lib.hid hY; have hst := fun (w : World) (q : Addr) (md : Mode) => run_store Tryd.prog w q Y md hY.one; clear f0 f1 g0 g1 hlt2 p0 p1 p2 plt; obtain ⟨⟨c0, c1, c2, d0, d1, d2, hlt3⟩, u0, u1, v0, v1, hlt4⟩ := M.cells; have HM := Lib.hid M; clear M hb' hr hY; dsimp only)
                | (go_at_call 30; (with_reducible refine (FI.out _).mono ?_); rintro x w3 ⟨rfl, hb'⟩; have M := ((HM.out.setS _ _ _).setF _ _).later hb'; have N := HP.out.later M.2.2; clear c0 c1 c2 d0 d1 d2 hlt3 u0 u1 v0 v1 hlt4; obtain ⟨⟨c0, c1, c2, d0, d1, d2, hlt3⟩, u0, u1, v0, v1, hlt4⟩ := M.cells; obtain ⟨f0, f1, g0, g1, hlt2⟩ := N.1.cells; obtain ⟨p0, p1, p2, plt⟩ := N.2.1.cells; have HP3 := Lib.hid N; clear M N hb' ))
              go_region
              all_goals (
                go_wp2
                refine bodyPost_ret (v := .tuple #[.pointer none, .agg #[.int .i64 3, .int .i64 (k : Int)]]) (by simp [results, Tryd.results9, go_sem, f0, f1]) rfl ?_
                have hR1 : Hid (r = .error k) := HST.out.symm
                rw [hR1.out]
                exact ⟨rfl, (Below.two HP3.out.2.2 (Nat.le_refl _) _ _).drew⟩)
            | ok x =>
              obtain ⟨p, e⟩ := x
              have FI := Lib.hid (fun w => fine_is 0 0 true rfl w)
              have he1 : i + 1 ≤ e := HEN.out.1
              have he2 : e ≤ s.size := by have := HEN.out.2; rw [HL.out] at this; exact this
              go_wp2_with (first
                | (go_at_call 29; (with_reducible refine (KC.out _).mono ?_); rintro x w1 ⟨hr, hb'⟩; have M := (KM.new wr).later hb'; obtain ⟨X, Y, Z, m, a, b, rfl, hY, hX, hZ, rfl, rfl, rfl, hT⟩ := hr.flat; have HX := Lib.hid hX; have HZ := Lib.hid hZ; have HT := Lib.hid hT; clear hX hZ hT; have HP1 := Lib.hid (HP.out.later M.2.2); have HY := Lib.hid hY; have hst := fun (w : World) (q : Addr) (md : Mode) => run_store Tryd.prog w q Y md hY.one; clear f0 f1 g0 g1 hlt2 p0 p1 p2 plt; obtain ⟨⟨c0, c1, c2, d0, d1, d2, hlt3⟩, u0, u1, v0, v1, hlt4⟩ := M.cells; have HM := Lib.hid M; clear M hb' hr hY; dsimp only)
                | (go_at_call 30; (with_reducible refine (FI.out _).mono ?_); rintro x w3 ⟨rfl, hb'⟩; have HT3 := Lib.hid ((HT.out.keep (KS.keeps HM.out)).later hb'); have M := ((HM.out.setS _ _ _).setF _ _).later hb'; have N := HP.out.later M.2.2; clear c0 c1 c2 d0 d1 d2 hlt3 u0 u1 v0 v1 hlt4; obtain ⟨⟨c0, c1, c2, d0, d1, d2, hlt3⟩, u0, u1, v0, v1, hlt4⟩ := M.cells; obtain ⟨f0, f1, g0, g1, hlt2⟩ := N.1.cells; obtain ⟨p0, p1, p2, plt⟩ := N.2.1.cells; have HP3 := Lib.hid N; clear M N hb' ))
              have hown := HP3.out.2.1.2.1
              have hsz3 := HP3.out.2.2.size
              have HO := Lib.hid hown
              have HNW := Lib.hid (stepNews (X := X) (Z := Z) HY.out)
              clear hown
              go_region_law (refine step_append_lies _ rfl (.tmp 73) (.tmp 75) 32 rfl w.heap.size 65 i0 _ 3 32 Tryd.underlying32 Hi.out Hz0.out Hz1.out Hz2.out rfl (by decide) (.slice A q.length c) q.length (rowQ q) (by simp [Act.eval]) (own_keep HO.out (below_new1 w3 _).drew (Nat.le_refl _)) ⟨w3.heap.size, 0, none⟩ 1 1 [.string X, Y, .bool Z] (by simp [Act.eval]) rfl (news_at (heap_new1 w3 _)) HNW.out (by omega) (by simp only [maxLen]; omega) (by omega) (by simp; omega) (w3.heap.size + 1) (by simp) ?_; intro g' c' w5 hown' hg' hloc hlt5; have HW5 := Lib.hid hown'; have HG5 := Lib.hid hg'; have k5 := HP3.out.row (below_new1 w3 _).drew hg'; have k50 := blk_cell k5 1; have k51 := blk_frozen k5 1; clear hown' hg' hloc k5)
              all_goals (
                have HN := Lib.hid (HP3.out.push (p := p) (f := Y) HT3.out (below_new1 w3 _).drew HG5.out (by rw [HX.out, HZ.out] at HW5; exact HW5.out))
                go_wp2
                go_roundg (s.size - e)
                case measure => have := hg.out; omega
                case rel =>
                  have hqx : (q ++ [(p, Y)]).length = q.length + 1 := by simp
                  refine ⟨e, q ++ [(p, Y)], _, c', rfl, he2, by rw [hqx]; omega, rfl, HN.out, fuel, by omega, ?_⟩
                  have := HST.out
                  rw [List.map_append]; exact this)
          · replace e3 := not_f e3 (decide_eq_false hb)
            obtain ⟨n, hn⟩ : ∃ n, (if i = 0 ∧ s.data.toList[0]? = some 46 then 1 else 0) = n := ⟨_, rfl⟩
            have hR1 : Hid (r = .error (i + n)) := by show _ = _; rw [← hst, ← hn]; exact stepsL_bad hlt' (by rw [hqm]; exact h5) hk hb
            have hn1 : n ≤ 1 := by rw [← hn]; split <;> omega
            have WR := Lib.hid (fun w => wrongRoot_is s i n hn w)
            clear hst hn h5 hqm hlt' hk hb
            go_wp2_with (first
              | (go_at_call 27; (with_reducible refine (WR.out _).mono ?_); rintro x w1 ⟨rfl, rfl⟩)
              | (go_at_call 26; (with_reducible refine (wrong_any _ _).mono ?_); rintro x w1 ⟨rfl, hb'⟩; have M := HP.out.later ((below_new2 wr _ _).trans (hb'.mono (by simp; omega))); clear f0 f1 g0 g1 hlt2 p0 p1 p2 plt; obtain ⟨f0, f1, g0, g1, hlt2⟩ := M.1.cells; have HM := Lib.hid M; clear M hb'))
            refine bodyPost_ret (v := .tuple #[.pointer none, .agg #[.int .i64 3, .int .i64 ((i : Int) + (n : Int))]]) (by simp [results, Tryd.results9, go_sem, f0, f1]) rfl ?_
            rw [hR1.out]
            exact ⟨by show _ = _; simp, Below.two HM.out.2.2 (Nat.le_refl _) _ _⟩
    · have hie : i = s.size := by omega
      obtain ⟨f0, f1, g0, g1, hlt2⟩ := HP.out.1.cells
      obtain ⟨fuel, rfl⟩ : ∃ f, fu = f + 1 := ⟨fu - 1, by omega⟩
      have hR1 : Hid (r = .ok (q.map (·.1))) := by show _ = _; rw [← hst]; exact stepsL_end (by rw [HL.out]; exact hlt)
      clear hst hqm hie
      go_wp2
      rw [setCell_same HP.out.1 rfl, setCell_same HP.out.1 rfl]
      refine bodyPost_ret (v := .tuple #[.pointer (some ⟨w.heap.size + 1, 0, none⟩), .agg #[.int .i64 0, .int .i64 0]]) (by simp [results, Tryd.results9, go_sem, f0, f1]) rfl ?_
      rw [hR1.out]
      exact ⟨⟨_, _, _, _, q, rfl, rfl, HP.out.2.1⟩, HP.out.2.2⟩

end Go.Proofs.YtjnedbkbhoiopaaDoor
