/- The walk over the law TkeysWrite; no statement of the seat is proved here. -/
import Derived.Test.YtflfedfghnnaeaaGreatDoorKyR
namespace Go.Proofs.YtflfedfghnnaeaaGreatDoor
open Go.RowKit

set_option maxHeartbeats 1000000 in
theorem twrite_nil (w : World) : Calls Tryz.prog 14 #[.slice none 0 0] w fun e w' => e = .returned (.string ⟨#[]⟩) ∧ w = w' := by
  have CL := Lib.hid (Tryz.slices_Clone_string_nil 0 0 w)
  have CJ := Lib.hid (Tryz.strings_Join_none none 0 ⟨#[46]⟩ w)
  go_enter Tryz.func14, Tryz.ntmps14
  go_wp2_with (go_at_call 27; (with_reducible refine CL.out.mono ?_); rintro e w1 ⟨rfl, rfl⟩)
  refine wp_loop_rounds 1 ?_
  rw [rounds_succ]
  go_wp2_with (go_at_call 29; (with_reducible refine CJ.out.mono ?_); rintro e w2 ⟨rfl, rfl⟩)
  go_ret
  exact ⟨rfl, rfl⟩
set_option maxHeartbeats 1000000 in
theorem rwrite_nil (a : Option Addr) (c : Nat) (w : World) : Calls Tryz.prog 15 #[.slice a 0 c] w fun e w' => e = .returned (.string ⟨#[]⟩) ∧ w = w' := by
  go_enter Tryz.func15, Tryz.ntmps15
  go_wp2
  refine wp_loop_rounds 1 ?_
  rw [rounds_succ]
  go_wp2
  go_ret
  exact ⟨rfl, rfl⟩
theorem SRow.tx {w : World} {g : Nat} {xs : List ByteArray} (h : SRow w g xs) (h0 : 0 < xs.length) : TxA w g 0 xs :=
  ⟨(h.cell h0).2.2, fun j hj => by rw [Nat.zero_add, (h.cell hj).1, List.getD_eq_getElem?_getD, List.getElem?_eq_getElem hj]; rfl⟩

/-- An append whose answer is known. -/
theorem wpList_append_run {P : Program} {ops : Array Oper} {rest : List Oper} {o : Oper} {a : Act} {w : World} {Q : Exit → Act → World → Prop} (hgd : o.guard = none) (s x : Operand) (t : TypeId)
    (ho : o.op = .call { callee := .builtin .append, args := #[s, x], argTypes := #[t, t] })
    (u v r : Value) (hs : a.eval s = u) (hx : a.eval x = v) (hrun : (Builtin.append_ #[t, t] o.type #[u, v]).run P w = .ok r w)
    (h : wpList P ops Q rest (a.put o.dst r) w) : wpList P ops Q (o :: rest) a w := by
  refine wpList_plain hgd fun K hK => ?_
  unfold Oper.wp execOp
  simp only [ho, resolve, invoke, builtin, Sem.run_bind, Sem.run_pure, Result.andThen_ok, List.map_toArray, List.map_cons, List.map_nil, hs, hx, hrun]
  exact hK _ _ h

set_option maxRecDepth 100000 in
set_option maxHeartbeats 8000000 in
theorem write_walk (a : Option Addr) (len cap : Nat) (w : World) (hA : StrsArg w a len cap) (hG : Glob w) :
    Calls Tryz.prog 4 #[.slice a len cap] w fun e w' => e = .returned (.bool true) ∧ Below w.heap.size w w' := by
  obtain ⟨hcap, hA⟩ := hA
  have HL := Lib.hid (lives_any w hG)
  have HG0 := Lib.hid hG; clear hG
  obtain ⟨is, his, hsz0, hsz1, hsz2⟩ := info_parts str_info
  by_cases h1 : 100 < len
  · go_enter Tryz.func4, Tryz.ntmps4
    go_wp2_with (go_at_call 5; (with_reducible refine HL.out.mono ?_); rintro e w3 ⟨rfl, hb3⟩)
    go_ret
    exact ⟨rfl, hb3⟩
  by_cases h2 : len = 0
  · subst h2
    have hrun : ∀ w1 : World, (Builtin.append_ #[23, 23] 23 #[.slice none 0 0, .slice a 0 cap]).run Tryz.prog w1 = .ok (.slice none 0 0) w1 := fun w1 => by
      cases a with
      | none => exact append_none_run w1 w1.heap.size 23 23 9 is 1 Tryz.underlying23 his (.slice none 0 0) 0 [] (World.ownsRow_nil _ _ _ _) cap
      | some ad => simp [Builtin.append_, run_underlying Tryz.underlying23, sizeOf, typeInfo, his, Builtin.lenOf, Builtin.firstCells, loadCells, loadCellsFrom]
    go_enter Tryz.func4, Tryz.ntmps4
    go_wp2_with (at_builtin; refine wpList_append_run rfl _ _ _ rfl (.slice none 0 0) (.slice a 0 cap) (.slice none 0 0) rfl rfl (hrun _) ?_)
    refine wp_loop_rounds 1 ?_
    rw [rounds_succ]
    go_wp2_with (first
      | (go_at_call 14; (with_reducible refine (twrite_nil _).mono ?_); rintro e w2 ⟨rfl, rfl⟩)
      | (go_at_call 15; (with_reducible refine (rwrite_nil _ _ _).mono ?_); rintro e w2 ⟨rfl, rfl⟩))
    refine wp_loop_rounds 1 ?_
    rw [rounds_succ]
    go_wp2_with (go_at_call 5; (with_reducible refine HL.out.mono ?_); rintro e w3 ⟨rfl, hb3⟩)
    go_ret
    exact ⟨rfl, hb3⟩
  · rcases hA with rfl | ⟨b, o, xs, rfl, hxl, hM⟩
    · exact absurd rfl h2
    have HM := Lib.hid hM; clear hM
    have HXL := Lib.hid hxl; clear hxl
    have d1 : decide ((100 : Int) < (len : Int)) = false := by simp; omega
    have n1 : len ≤ 100 := by omega
    have n0 : 0 < len := by omega
    clear h1 h2
    go_enter Tryz.func4, Tryz.ntmps4
    go_wp2_with (at_builtin; refine wpList_append_own _ rfl _ _ 23 rfl w.heap.size 9 is _ 1 16 Tryz.underlying23 his hsz0 hsz1 hsz2 rfl (by omega) (.slice none 0 0) 0 [] rfl (World.ownsRow_nil _ _ _ _) ⟨b, o, none⟩ len cap (xs.map Value.string) rfl ?c0 ?c1 ?c2 ?c3 ?c4 (Nat.le_refl _) ?_)
    case c0 => rw [List.length_map, HXL.out]; omega
    case c1 =>
      intro j u hj
      simp only [List.getElem?_map, Option.map_eq_some_iff] at hj
      obtain ⟨x, hx, rfl⟩ := hj
      obtain ⟨hjl, rfl⟩ := List.getElem?_eq_some_iff.1 hx
      rw [add_plain]
      exact HM.out.2 j hjl
    case c2 => intro u hu; simp only [List.mem_map] at hu; obtain ⟨x, _, rfl⟩ := hu; rfl
    case c3 => simp only [maxLen]; omega
    case c4 => omega
    intro v' w1 hown hgrow _
    try rw [Nat.zero_add] at hown
    try rw [List.nil_append] at hown
    obtain ⟨g, c', rfl, hgb, hc', hxl', hrow⟩ := SRow.of_own hown n0
    have HT := Lib.hid (hrow.tx (by omega))
    have HB1 : Hid (Below w.heap.size w w1) := ⟨hgrow.os, hgrow.tape, hgrow.output, hgrow.size, fun k hk => hgrow.block k hk (by simp [Value.ownBlock])⟩
    have HM1 := Lib.hid (HM.out.keep HB1.out (Nat.le_refl _))
    clear hown hgrow hrow hxl'
    try dsimp only
    go_wp2
    go_loopg [4] len (fun q s4 wr => ∃ k : Nat, s4 = .int .i64 (k : Int) ∧ k ≤ len ∧ Hid (q = len - k) ∧ Hid (∀ j (h : j < xs.length), j < k → xs[j].size ≤ 100) ∧ Hid (Below w1.heap.size w1 wr))
    case atStart => exact ⟨0, rfl, by omega, by show _ = _; omega, fun j h hj => absurd hj (by omega), Below.refl _ _⟩
    case round =>
      obtain ⟨k, rfl, hk, hq, hz, hb⟩ := hrel
      have HBW := Lib.hid (HB1.out.trans (hb.out.mono HB1.out.size))
      by_cases hlt : k < len
      · have hkl : k < xs.length := by have := HXL.out; omega
        have hki : (k : Int) < (len : Int) := by omega
        have e1 : wr.cell? ⟨g, k, none⟩ = some (.string xs[k]) := by
          have h := (HT.out.keep hb.out (Nat.le_refl _)).2 k hkl
          rwa [Nat.zero_add] at h
        have hgl : g < wr.heap.size := (HT.out.keep hb.out (Nat.le_refl _)).1
        by_cases h100 : 100 < xs[k].size
        · have d5 : decide ((100 : Int) < (xs[k].size : Int)) = true := by simp; omega
          have HLW := Lib.hid (lives_any wr (HG0.out.keep HBW.out (Nat.le_refl _)))
          go_wp2_with (go_at_call 5; (with_reducible refine HLW.out.mono ?_); rintro e w3 ⟨rfl, hb3⟩)
          go_ret
          exact ⟨rfl, HBW.out.trans (hb3.mono HBW.out.size)⟩
        · have d5 : decide ((100 : Int) < (xs[k].size : Int)) = false := by simp; omega
          have hz' : Hid (∀ j (h : j < xs.length), j < k + 1 → xs[j].size ≤ 100) := fun j h hj => by
            by_cases hjk : j = k
            · subst hjk; omega
            · exact hz.out j h (by omega)
          obtain ⟨X, hX⟩ : ∃ X, xs[k] = X := ⟨_, rfl⟩
          rw [hX] at e1 d5 h100
          obtain ⟨bb, hbb⟩ : ∃ bb, bareW X = bb := ⟨_, rfl⟩
          have h1 := fun w => bareW_is X w
          have h2 := fun w => rbare_is X (by omega) w
          rw [hbb] at h1 h2
          have ce : Hid (∀ m : Later wr, m.at_.cell? ⟨g, k, none⟩ = some (.string X)) := fun m => (m.below.cell (p := ⟨g, k, none⟩) hgl).trans e1
          have C1 : Hid (∀ m : Later wr, Calls Tryz.prog 12 #[.string X] m.at_ fun e w'' => e = .returned (.bool bb) ∧ ∃ m' : Later wr, w'' = m'.at_) := fun m => calls_later ((h1 m.at_).mono fun e w' ⟨h1, h2⟩ => ⟨h1, m.below.trans (h2.mono m.below.size)⟩)
          have C2 : Hid (∀ m : Later wr, Calls Tryz.prog 13 #[.string X] m.at_ fun e w'' => e = .returned (.bool bb) ∧ ∃ m' : Later wr, w'' = m'.at_) := fun m => calls_later ((h2 m.at_).mono fun e w' ⟨h1, h2⟩ => ⟨h1, h2 ▸ m.below⟩)
          clear hkl hgl hbb h1 h2 hX
          go_upto_region 9 with fail
          have ce' := ce.out
          refine wp_region_later wr (by kernel_rfl) (by kernel_rfl) (Below.refl _ _) ?_
          repeat (go_big_quiet_step ((first | (go_at_call 12; with_reducible exact C1.out _) | (go_at_call 13; with_reducible exact C2.out _))))
          refine wpQuiet_nil ?_
          rintro _ ⟨⟨w9, hb9⟩, rfl⟩
          clear ce'
          go_wp2
          go_roundg (len - (k + 1))
          case measure => have := hq.out; omega
          case rel => exact ⟨k + 1, by go_num, by omega, rfl, hz', hb.out.trans (hb9.mono hb.out.size)⟩
      · have hkn : k = len := by omega
        have HZ : Hid (∀ s ∈ xs, s.size ≤ 100) := fun s hs => by
          obtain ⟨j, hj, rfl⟩ := List.mem_iff_getElem.1 hs
          exact hz.out j hj (by have := HXL.out; omega)
        clear hkn hz
        have HTr := Lib.hid (HT.out.keep hb.out (Nat.le_refl _))
        have HMr := Lib.hid (HM1.out.keep hb.out (Nat.le_refl _))
        have HGr := Lib.hid (HG0.out.keep HBW.out (Nat.le_refl _))
        have htw := twrite_is xs (fun s hs => by have := HZ.out s hs; omega) (by have := HXL.out; omega) len c' HXL.out.symm n0 g 0 wr (fun j hj => by rw [List.getD_eq_getElem?_getD, List.getElem?_eq_getElem hj]; exact HTr.out.2 j hj) HGr.out
        have hrw := fun W (h : Below wr.heap.size wr W) => rwrite10_is xs HZ.out (by have := HXL.out; omega) len cap b o HXL.out.symm W (HMr.out.keep h (Nat.le_refl _))
        obtain ⟨S, hS⟩ : ∃ S : ByteArray, ⟨(keyL xs).toArray⟩ = S := ⟨_, rfl⟩
        rw [hS] at htw hrw
        have HTW := Lib.hid htw; have HRW := Lib.hid hrw
        clear htw hrw hS
        go_wp2_with (first
          | (go_at_call 14; (with_reducible refine HTW.out.mono ?_); rintro e w2 ⟨rfl, hb2⟩; have HB2 := Lib.hid hb2; clear hb2)
          | (go_at_call 15; (with_reducible refine (HRW.out _ HB2.out).mono ?_); rintro e w3 ⟨rfl, hb3⟩; have HB3 := Lib.hid (HB2.out.trans (hb3.mono HB2.out.size)); clear hb3))
        have HB13 := Lib.hid (hb.out.trans (HB3.out.mono hb.out.size))
        go_loopg [5] len (fun q s5 wr => ∃ k : Nat, s5 = .int .i64 (k : Int) ∧ k ≤ len ∧ Hid (q = len - k) ∧ Hid (Below w1.heap.size w1 wr))
        case atStart => exact ⟨0, rfl, by omega, by show _ = _; omega, HB13.out⟩
        case round =>
          obtain ⟨k2, rfl, hk2, hq2, hb2⟩ := hrel
          by_cases hlt2 : k2 < len
          · have hkl : k2 < xs.length := by have := HXL.out; omega
            have hki : (k2 : Int) < (len : Int) := by omega
            obtain ⟨X, hX⟩ : ∃ X, xs[k2] = X := ⟨_, rfl⟩
            have HTq := Lib.hid (HT.out.keep hb2.out (Nat.le_refl _))
            have HMq := Lib.hid (HM1.out.keep hb2.out (Nat.le_refl _))
            have ce1 : ∀ m : Later wr, m.at_.cell? ⟨g, k2, none⟩ = some (.string X) := fun m => by
              have h := (HTq.out.keep m.below (Nat.le_refl _)).2 k2 hkl
              rwa [Nat.zero_add, hX] at h
            have ce2 : ∀ m : Later wr, m.at_.cell? ⟨b, o + k2, none⟩ = some (.string X) := fun m => by
              have h := (HMq.out.keep m.below (Nat.le_refl _)).2 k2 hkl
              rwa [hX] at h
            clear hkl hX
            go_wp2
            refine wp_region_later wr (by kernel_rfl) (by kernel_rfl) (Below.refl _ _) ?_
            repeat (go_big_quiet_step (fail))
            refine wpQuiet_nil ?_
            rintro _ ⟨⟨w9, hb9⟩, rfl⟩
            clear ce1 ce2
            go_wp2
            go_roundg (len - (k2 + 1))
            case measure => have := hq2.out; omega
            case rel => exact ⟨k2 + 1, by go_num, by omega, rfl, hb2.out.trans (hb9.mono hb2.out.size)⟩
          · have HBQ := Lib.hid (HB1.out.trans (hb2.out.mono HB1.out.size))
            have HLQ := Lib.hid (lives_any wr (HG0.out.keep HBQ.out (Nat.le_refl _)))
            go_wp2_with (go_at_call 5; (with_reducible refine HLQ.out.mono ?_); rintro e w9 ⟨rfl, hb9⟩)
            go_ret
            exact ⟨rfl, HBQ.out.trans (hb9.mono HBQ.out.size)⟩

end Go.Proofs.YtflfedfghnnaeaaGreatDoor
