/- Walks over package decimals: parse, Parts; no statement of the seat is proved here. -/
import Derived.Test.YtncldnghhpdolaaGreatDoorDcD
namespace Go.Proofs.YtncldnghhpdolaaGreatDoor
open Go.RowKit

theorem DB.more {w0 w : World} {m : Bool} {ds : ByteArray} {e : Int} (h : DB w0 w m ds e) : (∀ i, w.frozen? ⟨w0.heap.size, i, none⟩ = false) ∧ w0.heap.size < w.heap.size := ⟨fun i => blk_frozen h.blk i, blk_lt h.blk⟩
theorem DB.set3 {w0 w : World} {m m' : Bool} {ds ds' : ByteArray} {e e' : Int} (h : DB w0 w m ds e) : DB w0 (((w.setCell ⟨w0.heap.size, 0, none⟩ (.bool m')).setCell ⟨w0.heap.size, 1, none⟩ (.string ds')).setCell ⟨w0.heap.size, 2, none⟩ (.int .i64 e')) m' ds' e' :=
  ⟨cset_own (cset_own (cset_own h.blk 0 _) 1 _) 2 _, ((h.below.setCell (Nat.le_refl _) _).setCell (Nat.le_refl _) _).setCell (Nat.le_refl _) _⟩
theorem DB.alloc {w0 w : World} {m : Bool} {ds : ByteArray} {e : Int} (h : DB w0 w m ds e) (o : Obj) : DB w0 (w.alloc o) m ds e := h.later (below_new1 _ _)
theorem res_parse {w0 w : World} {m : Bool} {ds : ByteArray} {e : Int} (h : DB w0 w m ds e) (b : Bool) (a : Array Value) (ha : a[2]?.getD undef = .pointer (some ⟨w0.heap.size, 0, none⟩)) (hb : a[3]?.getD undef = .bool b) :
    (results Tryz.f53 a).run Tryz.prog w = .ok (.tuple #[.agg #[.bool m, .string ds, .int .i64 e], .bool b]) w := by
  obtain ⟨x0, x1, x2⟩ := h.facts
  simp [results, Tryz.results53, go_sem, ha, hb, x0, x1, x2]
theorem cell_lt {w w' : World} {b i : Nat} {v : Value} (hb : Below w.heap.size w w') (h : b < w.heap.size) (hc : w.cell? ⟨b, i, none⟩ = some v) : w'.cell? ⟨b, i, none⟩ = some v := (hb.cell (p := ⟨b, i, none⟩) h).trans hc

set_option maxRecDepth 100000 in
set_option maxHeartbeats 4000000 in
theorem parse_is (s ds : ByteArray) (m : Bool) (e : Int) (b : Bool) (hs : s.size ≤ 549755813888) (hp : if b then parseD s.data.toList = some ⟨m, ds.data.toList, e⟩ else parseD s.data.toList = none ∧ m = false ∧ ds = ⟨#[]⟩ ∧ e = 0) (w : World) (hT : TAB w) :
    Calls Tryz.prog 53 #[.string s] w fun x w' => x = .returned (.tuple #[.agg #[.bool m, .string ds, .int .i64 e], .bool b]) ∧ Below w.heap.size w w' := by
  have fin : ∀ (w' : World) (a : Array Value), DB w w' m ds e → a[2]?.getD undef = .pointer (some ⟨w.heap.size, 0, none⟩) → a[3]?.getD undef = .bool b →
      bodyPost Tryz.prog Tryz.f53 (fun x w' => x = .returned (.tuple #[.agg #[.bool m, .string ds, .int .i64 e], .bool b]) ∧ Below w.heap.size w w') .ret ⟨a, []⟩ w' :=
    fun w' a h ha hb => bodyPost_ret (v := .tuple #[.agg #[.bool m, .string ds, .int .i64 e], .bool b]) (res_parse h b a ha hb) rfl ⟨rfl, h.below⟩
  have HF := Lib.hid fin; clear fin
  cases hok : okW s.data.toList
  · have hn : parseD s.data.toList = none := by rw [parseD, normL, hok]; rfl
    have hb : b = false ∧ m = false ∧ ds = ⟨#[]⟩ ∧ e = 0 := by
      cases b
      · exact ⟨rfl, hp.2⟩
      · rw [if_pos rfl, hn] at hp; cases hp
    obtain ⟨rfl, rfl, rfl, rfl⟩ := hb
    have HS := Lib.hid (fun w => split_no s hs hok w)
    clear hn hok hp hT
    go_enter Tryz.func53, Tryz.ntmps53
    go_wp2_with (go_at_call 36; (with_reducible refine (HS.out _).mono ?_); rintro x w1 ⟨m, wh, pa, sg, po, pt, ra, rfl, hb1⟩; have hd1 := (DB.new w false ⟨#[]⟩ 0).later hb1; obtain ⟨b0, b1, b2⟩ := hd1.facts; obtain ⟨bf, bz⟩ := hd1.more)
    exact HF.out _ _ (hd1.set3.alloc _) rfl rfl
  · obtain ⟨wh, pa, sg, po, hW⟩ := WS.ex s
    obtain ⟨d1, k, bn, m1, e1, hR⟩ := RC.ex hW hs
    have HS := Lib.hid (fun w => split_yes hW hs hok w)
    have q1 := hR.klo
    have q2 := hR.khi
    have q3 := hR.whs
    have q4 := hR.pas
    have q5 := hR.dss
    have hb := hR.b_
    have hd := hR.d_
    obtain ⟨mi, hmi⟩ : ∃ mi, hdB isMin s.data.toList = mi := ⟨_, rfl⟩
    obtain ⟨pt, hpt⟩ : ∃ mi, hdB isDot (l2 s.data.toList) = mi := ⟨_, rfl⟩
    obtain ⟨ra, hra⟩ : ∃ mi, hdB isExp (l4 s.data.toList) = mi := ⟨_, rfl⟩
    have HN := Lib.hid hR.num
    have HO := Lib.hid hR.nor
    rw [hmi, hpt, hra] at HS HN
    rw [hmi] at HO
    have HT := Lib.hid hT
    cases bn
    · have hn : parseD s.data.toList = none := by rw [parseD, normL, goodL, hb]; simp
      have hbb : b = false ∧ m = false ∧ ds = ⟨#[]⟩ ∧ e = 0 := by
        cases b
        · exact ⟨rfl, hp.2⟩
        · rw [if_pos rfl, hn] at hp; cases hp
      obtain ⟨rfl, rfl, rfl, rfl⟩ := hbb
      clear hn hok hp hb hd hmi hpt hra hR hT
      go_enter Tryz.func53, Tryz.ntmps53
      go_wp2_with (first
        | (go_at_call 36; (with_reducible refine (HS.out _).mono ?_); rintro x w1 ⟨rfl, hb1⟩; have HD1 := Lib.hid ((DB.new w false ⟨#[]⟩ 0).later hb1); have hz1 := hb1.size)
        | (go_at_call 37; (with_reducible refine (HN.out _).mono ?_); rintro x w2 ⟨rfl, hb2⟩; obtain ⟨k0, k1, k2⟩ := keep3 hb2; have hz2 : w1.heap.size < w2.heap.size := by have := hb2.size; simp at this; omega)
        | (go_at_call 38; (with_reducible refine (HO.out _).mono ?_); rintro x w3 ⟨rfl, hb3⟩; have HD3 := Lib.hid ((((HD1.out.alloc _).later hb2).later hb3)); obtain ⟨b0, b1, b2⟩ := HD3.out.facts; obtain ⟨bf, bz⟩ := HD3.out.more))
      exact HF.out _ _ (HD3.out.set3.alloc _) rfl rfl
    · have hde := hd rfl
      obtain ⟨ie, hie⟩ : ∃ ie, inB e1 = ie := ⟨_, rfl⟩
      have HI := Lib.hid (fun w => within_is e1 ie hie w)
      cases ie
      · have hn : parseD s.data.toList = none := by rw [parseD, normL, goodL, hb, hde, hie]; simp
        have hbb : b = false ∧ m = false ∧ ds = ⟨#[]⟩ ∧ e = 0 := by
          cases b
          · exact ⟨rfl, hp.2⟩
          · rw [if_pos rfl, hn] at hp; cases hp
        obtain ⟨rfl, rfl, rfl, rfl⟩ := hbb
        clear hn hok hp hb hd hmi hpt hra hR hT hie hde
        go_enter Tryz.func53, Tryz.ntmps53
        go_wp2_with (first
          | (go_at_call 36; (with_reducible refine (HS.out _).mono ?_); rintro x w1 ⟨rfl, hb1⟩; have HD1 := Lib.hid ((DB.new w false ⟨#[]⟩ 0).later hb1); have hz1 := hb1.size)
          | (go_at_call 37; (with_reducible refine (HN.out _).mono ?_); rintro x w2 ⟨rfl, hb2⟩; obtain ⟨k0, k1, k2⟩ := keep3 hb2; have hz2 : w1.heap.size < w2.heap.size := by have := hb2.size; simp at this; omega)
          | (go_at_call 38; (with_reducible refine (HO.out _).mono ?_); rintro x w3 ⟨rfl, hb3⟩; have HD3 := Lib.hid ((((HD1.out.alloc _).later hb2).later hb3)); obtain ⟨b0, b1, b2⟩ := HD3.out.facts; obtain ⟨bf, bz⟩ := HD3.out.more)
          | (go_at_call 39; (with_reducible refine (HI.out _).mono ?_); rintro x w4 ⟨rfl, rfl⟩))
        exact HF.out _ _ (HD3.out.set3.alloc _) rfl rfl
      · have hx : Norm ⟨m1, d1.data.toList, e1⟩ := by
          rw [← hde]; exact norm_dW (by rw [goodL, hb, hde, hie]; rfl)
        obtain ⟨r, hr⟩ := str_ex (Dm.mk m1 d1.data.toList e1).text
        have HX := Lib.hid (fun w hT => text_is m1 d1 r e1 hx q5 hr.symm w hT)
        have hg : goodL s.data.toList = true := by rw [goodL, hb, hde, hie]; rfl
        by_cases hrs : r.data.toList = s.data.toList
        · have hn : parseD s.data.toList = some ⟨m1, d1.data.toList, e1⟩ := by rw [parseD, normL, hok, hg, hde, ← hr, decide_eq_true hrs]; rfl
          have hbb : b = true ∧ m1 = m ∧ d1 = ds ∧ e1 = e := by
            cases b
            · rw [if_neg (by simp), hn] at hp; cases hp.1
            · rw [if_pos rfl, hn] at hp
              injection hp with hp
              injection hp with p1 p2 p3
              exact ⟨rfl, p1, str_of p2, p3⟩
          obtain ⟨rfl, rfl, rfl, rfl⟩ := hbb
          obtain rfl := str_of hrs
          clear hn hok hp hb hd hmi hpt hra hR hT hie hde hx hr hg hrs
          go_enter Tryz.func53, Tryz.ntmps53
          go_wp2_with (first
            | (go_at_call 36; (with_reducible refine (HS.out _).mono ?_); rintro x w1 ⟨rfl, hb1⟩; have HD1 := Lib.hid ((DB.new w false ⟨#[]⟩ 0).later hb1); have hz1 := hb1.size)
            | (go_at_call 37; (with_reducible refine (HN.out _).mono ?_); rintro x w2 ⟨rfl, hb2⟩; obtain ⟨k0, k1, k2⟩ := keep3 hb2; have hz2 : w1.heap.size < w2.heap.size := by have := hb2.size; simp at this; omega)
            | (go_at_call 38; (with_reducible refine (HO.out _).mono ?_); rintro x w3 ⟨rfl, hb3⟩; have HD3 := Lib.hid ((((HD1.out.alloc _).later hb2).later hb3)))
            | (go_at_call 39; (with_reducible refine (HI.out _).mono ?_); rintro x w4 ⟨rfl, rfl⟩)
            | (go_at_call 40; (with_reducible refine (HX.out _ (HT.out.later (HD3.out.alloc _).below)).mono ?_); rintro x w5 ⟨rfl, hb5⟩; have HD5 := Lib.hid ((HD3.out.alloc _).later hb5); obtain ⟨b0, b1, b2⟩ := HD5.out.facts; obtain ⟨bf, bz⟩ := HD5.out.more; have HE5 := Lib.hid ((DB.new w3 m1 d1 e1).later hb5); obtain ⟨c0, c1, c2⟩ := HE5.out.facts))
          exact HF.out _ _ HD5.out.set3 rfl rfl
        · have hn : parseD s.data.toList = none := by rw [parseD, normL, hok, hg, hde, ← hr, decide_eq_false hrs]; rfl
          have hbb : b = false ∧ m = false ∧ ds = ⟨#[]⟩ ∧ e = 0 := by
            cases b
            · exact ⟨rfl, hp.2⟩
            · rw [if_pos rfl, hn] at hp; cases hp
          obtain ⟨rfl, rfl, rfl, rfl⟩ := hbb
          have g1 := beq_str hrs
          have g2 : ¬ r.toList = s.toList := by rw [ByteArray.toList_eq, ByteArray.toList_eq]; exact hrs
          clear hn hok hp hb hd hmi hpt hra hR hT hie hde hx hr hg hrs
          go_enter Tryz.func53, Tryz.ntmps53
          go_wp2_with (first
            | (go_at_call 36; (with_reducible refine (HS.out _).mono ?_); rintro x w1 ⟨rfl, hb1⟩; have HD1 := Lib.hid ((DB.new w false ⟨#[]⟩ 0).later hb1); have hz1 := hb1.size)
            | (go_at_call 37; (with_reducible refine (HN.out _).mono ?_); rintro x w2 ⟨rfl, hb2⟩; obtain ⟨k0, k1, k2⟩ := keep3 hb2; have hz2 : w1.heap.size < w2.heap.size := by have := hb2.size; simp at this; omega)
            | (go_at_call 38; (with_reducible refine (HO.out _).mono ?_); rintro x w3 ⟨rfl, hb3⟩; have HD3 := Lib.hid ((((HD1.out.alloc _).later hb2).later hb3)))
            | (go_at_call 39; (with_reducible refine (HI.out _).mono ?_); rintro x w4 ⟨rfl, rfl⟩)
            | (go_at_call 40; (with_reducible refine (HX.out _ (HT.out.later (HD3.out.alloc _).below)).mono ?_); rintro x w5 ⟨rfl, hb5⟩; have HD5 := Lib.hid ((HD3.out.alloc _).later hb5); obtain ⟨b0, b1, b2⟩ := HD5.out.facts; obtain ⟨bf, bz⟩ := HD5.out.more))
          exact HF.out _ _ HD5.out.set3 rfl rfl

end Go.Proofs.YtncldnghhpdolaaGreatDoor
