/- The walk over the law TkeysWays; no statement of the seat is proved here. -/
import Derived.Test.YtflfedfghnnaeaaDoorKyLB
namespace Go.Proofs.YtflfedfghnnaeaaDoor
open Go.RowKit

def KW (J : List UInt8) (xs : List ByteArray) (k : Nat) : Prop := (k = 0 ∧ J = []) ∨ (0 < k ∧ ∃ ps : List (List UInt8 × List UInt8), KeyTxt J ps ∧ ps.map (·.1) = (xs.take k).map (·.data.toList))
def SW (J1 : List UInt8) (xs : List ByteArray) (k : Nat) : Prop := (k = 0 ∧ J1 = []) ∨ (0 < k ∧ ∃ (J b1 b2 : List UInt8) (ps : List (List UInt8 × List UInt8)), J1 = J ++ (b1 ++ (46 :: b2)) ∧ KeyTxt J ps ∧ ps.map (·.1) = (xs.take k).map (·.data.toList) ∧ (∀ c ∈ b1, blB c.toNat = true) ∧ ∀ c ∈ b2, blB c.toNat = true)
theorem SW.step {J1 F : List UInt8} {xs : List ByteArray} {k : Nat} (h : SW J1 xs k) (hk : k < xs.length) (hF : FormOf F xs[k].data.toList) : KW (J1 ++ F) xs (k + 1) := by
  right
  refine ⟨by omega, ?_⟩
  rw [List.take_succ_eq_append_getElem hk, List.map_append]
  rcases h with ⟨rfl, rfl⟩ | ⟨_, J, b1, b2, ps, rfl, hJ, hps, h1, h2⟩
  · exact ⟨_, KeyTxt.one hF, rfl⟩
  · refine ⟨ps ++ [(xs[k].data.toList, F)], ?_, ?_⟩
    · have := hJ.snoc hF h1 h2
      rw [List.append_assoc, List.append_assoc, List.cons_append]
      exact this
    · rw [List.map_append, hps]; rfl
theorem KW.sep {J b1 b2 : List UInt8} {xs : List ByteArray} {k : Nat} (h : KW J xs k) (hk : 0 < k) (h1 : ∀ c ∈ b1, blB c.toNat = true) (h2 : ∀ c ∈ b2, blB c.toNat = true) : SW (J ++ (b1 ++ (46 :: b2))) xs k := by
  rcases h with ⟨h0, _⟩ | ⟨_, ps, hJ, hps⟩
  · omega
  · exact .inr ⟨hk, J, b1, b2, ps, rfl, hJ, hps, h1, h2⟩
theorem KW.first {J : List UInt8} {xs : List ByteArray} {k : Nat} (h : KW J xs k) (hk : k = 0) : SW J xs k := by
  rcases h with h | ⟨h0, _⟩
  · exact .inl h
  · omega
theorem KW.key {J T : List UInt8} {xs : List ByteArray} {n : Nat} (h : KW J xs n) (hn : n = xs.length) (h0 : 0 < n) (hT : Foll T) (hb : ∀ (l : List UInt8) i, l.drop i = T → bt l (blT l i) ≠ 46) : ∃ es, KeyR (J ++ T) n 0 (es, (J.length : Int), 0, 0) ∧ SameW es xs := by
  rcases h with ⟨h1, _⟩ | ⟨_, ps, ⟨_, _, hK⟩, hps⟩
  · omega
  · rw [hn, List.take_length] at hps
    have hpl : ps.length = n := by have := congrArg List.length hps; simpa [hn] using this
    obtain ⟨es, h1, _, _, h4, _⟩ := hK (J ++ T) 0 T rfl hT
    rw [Nat.zero_add] at h4
    have h4 := h4 (hb _ _ (by rw [List.drop_left]))
    rw [hpl] at h4
    refine ⟨es, h4, ?_⟩
    rw [hps] at h1
    have hlen : es.length = xs.length := by have := congrArg List.length h1; simpa using this
    refine ⟨hlen, fun j hj hj' => ?_⟩
    have := congrArg (fun l => l[j]?) h1
    simp [hj, hj'] at this
    rw [this]
theorem rep_mem (x : UInt8) : ∀ (c : Nat) (y : UInt8), y ∈ Lib.repeatL [x] c → y = x := by
  intro c
  induction c with
  | zero => intro y h; cases h
  | succ c ih =>
    intro y h
    rw [Lib.repeatL] at h
    rcases List.mem_append.1 h with h | h
    · simpa using h
    · exact ih y h
theorem rep_is (x : UInt8) (c : Nat) (hc : c ≤ 100) (v : Int) (hv : v = (c : Int)) (w : World) : Calls Tryd.prog 11 #[.string ⟨#[x]⟩, .int .i64 v] w fun e w' => ∃ R : ByteArray, e = .returned (.string R) ∧ R.size = c ∧ (∀ y ∈ R.data.toList, y = x) ∧ Below w.heap.size w w' := by
  subst hv
  refine (Tryd.strings_Repeat ⟨#[x]⟩ c w (by omega) (by show 1 * c ≤ _; omega)).mono fun e w' ⟨h1, h2⟩ => ⟨⟨(Lib.repeatL [x] c).toArray⟩, h1, ?_, fun y hy => rep_mem x c y hy, h2⟩
  show (Lib.repeatL [x] c).toArray.size = c
  rw [List.size_toArray, Lib.repeatL_length]; simp
theorem qlist (X : ByteArray) : (⟨#[39]⟩ ++ X ++ ⟨#[39]⟩ : ByteArray).data.toList = 39 :: (X.data.toList ++ [39]) := by rw [app_list, app_list]; rfl
theorem quoted_size (X : ByteArray) : (⟨#[39]⟩ ++ X ++ ⟨#[39]⟩ : ByteArray).size = X.size + 2 := by
  rw [ByteArray.size_append, ByteArray.size_append]
  show 1 + X.size + 1 = _
  omega
theorem read_quoted (X : ByteArray) (hX : X.size ≤ 60) (w : World) : Calls Tryd.prog 12 #[.string (⟨#[39]⟩ ++ X ++ ⟨#[39]⟩), .int .i64 0] w (RdPost (readT (39 :: (X.data.toList ++ [39])) 0) w) := by
  obtain ⟨Q, hQ⟩ : ∃ Q : ByteArray, (⟨#[39]⟩ ++ X ++ ⟨#[39]⟩ : ByteArray) = Q := ⟨_, rfl⟩
  have hs := quoted_size X
  have hl := qlist X
  rw [hQ] at hs hl ⊢
  have h0 : 0 < Q.size := by omega
  have hb := bt_str h0
  have h39 : Q[0].toNat = 39 := by rw [← hb, hl]; rfl
  have := read_single Q 0 h0 (by omega) h39 w
  rw [hl] at this
  exact this
theorem sep_list (J A B C D : ByteArray) : (J ++ A ++ B ++ ⟨#[46]⟩ ++ C ++ D : ByteArray).data.toList = J.data.toList ++ ((A.data.toList ++ B.data.toList) ++ (46 :: (C.data.toList ++ D.data.toList))) := by
  rw [app_list, app_list, app_list, app_list, app_list]
  simp only [List.append_assoc]
  rfl
theorem blank_all {A B : ByteArray} (hA : ∀ y ∈ A.data.toList, y = 32 ∨ y = 9) (hB : ∀ y ∈ B.data.toList, y = 32 ∨ y = 9) : ∀ c ∈ A.data.toList ++ B.data.toList, blB c.toNat = true := by
  intro c hc
  rcases List.mem_append.1 hc with h | h
  · rcases hA c h with rfl | rfl <;> rfl
  · rcases hB c h with rfl | rfl <;> rfl

/-- What stands behind a key: no part of it, and no dot behind the blanks. -/
def Tail (T : ByteArray) : Prop := T.size ≤ 10 ∧ Foll T.data.toList ∧ ∀ (l : List UInt8) i, l.drop i = T.data.toList → bt l (blT l i) ≠ 46
theorem tail_of {b x : UInt8} {bs r : List UInt8} {T : ByteArray} (hT : T.data.toList = bs ++ (x :: r)) (hs : T.size ≤ 10) (hb : bs.all (fun c => blB c.toNat) = true) (hx : blB x.toNat = false) (h46 : x.toNat ≠ 46)
    (hF : bareB (b.toNat) = false ∧ b.toNat ≠ 34 ∧ b.toNat ≠ 39) (hb0 : T.data.toList.head? = some b) : Tail T := by
  refine ⟨hs, fun c hc => ?_, fun l i hd => ?_⟩
  · rw [hb0] at hc; injection hc with hc; subst hc; exact hF
  · rw [hT] at hd
    have h1 : blT l i = i + bs.length := blT_app (b := bs) (r := x :: r) hd (fun c hc => List.all_eq_true.1 hb c hc) (fun c hc => by rw [List.head?_cons] at hc; injection hc with hc; subst hc; exact hx)
    have h2 : l.drop (i + bs.length) = x :: r := by rw [← List.drop_drop, hd, List.drop_left]
    rw [h1, bt_drop h2]
    exact h46
theorem tail_nil : Tail ⟨#[]⟩ := ⟨by decide, Foll.nil, fun l i hd => by
  have h0 : l.drop i = [] := hd
  have h1 : blT l i = i := by rw [blT, h0]; rfl
  rw [h1, bt]
  have h2 : l.length ≤ i := by simpa using h0
  rw [dif_neg (by omega)]
  decide⟩
theorem tail_sp : Tail ⟨#[32]⟩ := ⟨by decide, Foll.cons (by decide), fun l i hd => by
  have h0 : l.drop i = [32] ++ [] := hd
  have h1 : blT l i = i + 1 := blT_app (b := [32]) (r := []) h0 (by decide) (fun c hc => by cases hc)
  have h2 : l.drop (i + 1) = [] := by rw [← List.drop_drop, h0]; rfl
  have h3 : l.length ≤ i + 1 := by simpa using h2
  rw [h1, bt, dif_neg (by omega)]
  decide⟩
def tailsA : Array Value := #[.string ⟨#[]⟩, .string ⟨#[32]⟩, .string ⟨#[61]⟩, .string ⟨#[32, 9, 61, 32, 46]⟩, .string ⟨#[93]⟩, .string ⟨#[35, 46]⟩, .string ⟨#[10, 46, 97]⟩, .string ⟨#[32, 13, 10]⟩]
theorem tails_cell (w : World) (q : Nat) (hq : q < 8) : ∃ T : ByteArray, (w.alloc (.cells #[.string ⟨#[]⟩, .string ⟨#[32]⟩, .string ⟨#[61]⟩, .string ⟨#[32, 9, 61, 32, 46]⟩, .string ⟨#[93]⟩, .string ⟨#[35, 46]⟩, .string ⟨#[10, 46, 97]⟩, .string ⟨#[32, 13, 10]⟩] 9)).cell? ⟨w.heap.size, q, none⟩ = some (.string T) ∧ Tail T := by
  have hc : ∀ T : ByteArray, tailsA[q]? = some (.string T) → (w.alloc (.cells tailsA 9)).cell? ⟨w.heap.size, q, none⟩ = some (.string T) := fun T h => by
    have hb : (w.alloc (.cells tailsA 9)).heap[w.heap.size]? = some (.cells tailsA 9 (0, 0)) := heap_new1 w _
    unfold World.cell?
    simp only [hb]
    exact h
  match q, hq with
  | 0, _ => exact ⟨_, hc _ rfl, tail_nil⟩
  | 1, _ => exact ⟨_, hc _ rfl, tail_sp⟩
  | 2, _ => exact ⟨_, hc _ rfl, tail_of (b := 61) (x := 61) (bs := []) (r := []) rfl (by decide) (by decide) (by decide) (by decide) (by decide) rfl⟩
  | 3, _ => exact ⟨_, hc _ rfl, tail_of (b := 32) (x := 61) (bs := [32, 9]) (r := [32, 46]) rfl (by decide) (by decide) (by decide) (by decide) (by decide) rfl⟩
  | 4, _ => exact ⟨_, hc _ rfl, tail_of (b := 93) (x := 93) (bs := []) (r := []) rfl (by decide) (by decide) (by decide) (by decide) (by decide) rfl⟩
  | 5, _ => exact ⟨_, hc _ rfl, tail_of (b := 35) (x := 35) (bs := []) (r := [46]) rfl (by decide) (by decide) (by decide) (by decide) (by decide) rfl⟩
  | 6, _ => exact ⟨_, hc _ rfl, tail_of (b := 10) (x := 10) (bs := []) (r := [46, 97]) rfl (by decide) (by decide) (by decide) (by decide) (by decide) rfl⟩
  | 7, _ => exact ⟨_, hc _ rfl, tail_of (b := 32) (x := 13) (bs := [32]) (r := [10]) rfl (by decide) (by decide) (by decide) (by decide) (by decide) rfl⟩
theorem lit_list (J X : ByteArray) : (J ++ ⟨#[39]⟩ ++ X ++ ⟨#[39]⟩ : ByteArray).data.toList = J.data.toList ++ (39 :: (X.data.toList ++ [39])) := by
  rw [app_list, app_list, app_list]
  simp only [List.append_assoc]
  rfl

set_option maxRecDepth 100000 in
set_option maxHeartbeats 8000000 in
theorem ways_walk (a b : Option Addr) (len cap lenh caph : Nat) (m : Nat) (hm : m < 256) (w : World) (hA : StrsArg w a len cap) (hH : BytesArg w b lenh) (hG : Glob w) :
    Calls Tryd.prog 4 #[.slice a len cap, .slice b lenh caph, .int .u8 (m : Int)] w fun e w' => e = .returned (.bool true) ∧ Below w.heap.size w w' := by
  obtain ⟨hcap, hA⟩ := hA
  have HL := Lib.hid (lives_any w hG)
  have HG0 := Lib.hid hG; clear hG
  have HH := Lib.hid hH; clear hH
  by_cases h1 : 20 < len
  · go_enter Tryd.func4, Tryd.ntmps4
    go_wp2_with (go_at_call 6; (with_reducible refine HL.out.mono ?_); rintro e w3 ⟨rfl, hb3⟩)
    go_ret
    exact ⟨rfl, hb3⟩
  by_cases h2 : len = 0
  · subst h2
    go_enter Tryd.func4, Tryd.ntmps4
    go_wp2_with (go_at_call 6; (with_reducible refine HL.out.mono ?_); rintro e w3 ⟨rfl, hb3⟩)
    go_ret
    exact ⟨rfl, hb3⟩
  by_cases h3 : 60 < lenh
  · go_enter Tryd.func4, Tryd.ntmps4
    go_wp2_with (go_at_call 6; (with_reducible refine HL.out.mono ?_); rintro e w3 ⟨rfl, hb3⟩)
    go_ret
    exact ⟨rfl, hb3⟩
  rcases hA with rfl | ⟨bx, ox, xs, rfl, hxl, hM⟩
  · exact absurd rfl h2
  have HM := Lib.hid hM; clear hM
  have HXL := Lib.hid hxl; clear hxl
  have z1 : ((len : Int) == 0) = false := by simp; omega
  have d1 : decide ((20 : Int) < (len : Int)) = false := by simp; omega
  have d3 : decide ((60 : Int) < (lenh : Int)) = false := by simp; omega
  have n1 : len ≤ 20 := by omega
  have n0 : 0 < len := by omega
  have n3 : lenh ≤ 60 := by omega
  clear h1 h2 h3
  go_enter Tryd.func4, Tryd.ntmps4
  go_wp2
  go_loopg [7, 8, 9] len (fun q s7 s8 s9 wr => ∃ (k : Nat) (J : ByteArray), s7 = .string J ∧ s8 = .int .i64 (J.size : Int) ∧ s9 = .int .i64 (k : Int) ∧ k ≤ len ∧ J.size ≤ 400 * k ∧ Hid (q = len - k) ∧ Hid (KW J.data.toList xs k) ∧ Hid (∀ j (h : j < xs.length), j < k → xs[j].size ≤ 60) ∧ Hid (Below w.heap.size w wr))
  case atStart => exact ⟨0, ⟨#[]⟩, rfl, rfl, rfl, by omega, Nat.zero_le _, by show _ = _; omega, .inl ⟨rfl, rfl⟩, fun j h hj => absurd hj (by omega), Below.refl _ _⟩
  case round =>
    obtain ⟨k, J, rfl, rfl, rfl, hk, hJz, hq, hJ, hz, hb⟩ := hrel
    by_cases hlt : k < len
    · have hkl : k < xs.length := by have := HXL.out; omega
      obtain ⟨X, hX⟩ : ∃ X, xs[k] = X := ⟨_, rfl⟩
      have e1 : wr.cell? ⟨bx, ox + k, none⟩ = some (.string X) := by
        have h := (HM.out.keep hb.out (Nat.le_refl _)).2 k hkl
        rw [hX] at h; exact h
      have hki : (k : Int) < (len : Int) := by omega
      have HLW := Lib.hid (lives_any wr (HG0.out.keep hb.out (Nat.le_refl _)))
      have hh : ∃ z : Nat, z < 256 ∧ (k < lenh → ∃ b' o', b = some ⟨b', o', none⟩ ∧ wr.cell? ⟨b', o' + k, none⟩ = some (.int .u8 (z : Int))) ∧ (lenh ≤ k → z = 0) := by
        rcases Nat.lt_or_ge k lenh with h | h
        · rcases HH.out with h0 | ⟨b', o', hb', hlt', hc⟩
          · omega
          · obtain ⟨z, hz, hcz⟩ := hc k h
            exact ⟨z, hz, fun _ => ⟨b', o', hb', (hb.out.cell (p := ⟨b', o' + k, none⟩) hlt').trans hcz⟩, fun h' => by omega⟩
        · exact ⟨0, by omega, fun h' => by omega, fun _ => rfl⟩
      obtain ⟨z, hz256, hz1, hz2⟩ := hh
      go_upto_if 43 with fail
      go_cut [11] from 30 to 129 (fun s11 w' => s11 = .int .u8 (z : Int) ∧ wr = w')
      case first =>
        by_cases hkh : k < lenh
        · obtain ⟨b', o', rfl, ez⟩ := hz1 hkh
          have hkhi : (k : Int) < (lenh : Int) := by omega
          go_wp2_with fail
          go_meet
          case rel => exact ⟨rfl, rfl⟩
        · have hz0 := hz2 (by omega)
          have hd : decide ((k : Int) < (lenh : Int)) = false := by simp; omega
          go_wp2_with fail
          go_meet
          case rel => exact ⟨by rw [hz0]; rfl, rfl⟩
      case rest =>
        obtain ⟨rfl, rfl⟩ := hcut
        by_cases h60 : 60 < X.size
        · have d5 : decide ((60 : Int) < (X.size : Int)) = true := by simp; omega
          go_wp2_with (go_at_call 6; (with_reducible refine HLW.out.mono ?_); rintro e w3 ⟨rfl, hb3⟩)
          go_ret
          exact ⟨rfl, hb.out.trans (hb3.mono hb.out.size)⟩
        · have d5 : decide ((60 : Int) < (X.size : Int)) = false := by simp; omega
          go_upto_if 53 with fail
          go_cut [7] from 30 to 129 (fun s7 w' => ∃ J1 : ByteArray, s7 = .string J1 ∧ J1.size ≤ J.size + 20 ∧ Hid (SW J1.data.toList xs k) ∧ Hid (Below w.heap.size w w'))
          case first =>
            by_cases hk0 : k = 0
            · have d9 : decide ((0 : Int) < (k : Int)) = false := by simp; omega
              have d10 : decide (0 < k) = false := by simp; omega
              have HK0 := Lib.hid hk0; clear hk0
              rw [d10]
              go_wp2_with fail
              go_meet
              case rel => exact ⟨J, rfl, by omega, hJ.out.first HK0.out, hb.out⟩
            · have d9 : decide ((0 : Int) < (k : Int)) = true := by simp; omega
              have d10 : decide (0 < k) = true := by simp; omega
              have HK0 := Lib.hid hk0; clear hk0
              rw [d10]
              go_wp2_with (first
                | (go_at_call 11; (with_reducible refine (rep_is 32 (z / 16 % 3) (by omega) _ (by omega) _).mono ?_); rintro e w2 ⟨A2, rfl, ha2, hy2, hb2⟩; have HB2 := Lib.hid (hb.out.trans (hb2.mono hb.out.size)); have HY2 := Lib.hid hy2; clear hb2 hy2)
                | (go_at_call 11; (with_reducible refine (rep_is 9 (z / 64 % 2) (by omega) _ (by omega) _).mono ?_); rintro e w3 ⟨A3, rfl, ha3, hy3, hb3⟩; have HB3 := Lib.hid (HB2.out.trans (hb3.mono HB2.out.size)); have HY3 := Lib.hid hy3; clear hb3 hy3)
                | (go_at_call 11; (with_reducible refine (rep_is 9 (z / 32 % 2) (by omega) _ (by omega) _).mono ?_); rintro e w4 ⟨A4, rfl, ha4, hy4, hb4⟩; have HB4 := Lib.hid (HB3.out.trans (hb4.mono HB3.out.size)); have HY4 := Lib.hid hy4; clear hb4 hy4)
                | (go_at_call 11; (with_reducible refine (rep_is 32 (z / 64) (by omega) _ (by omega) _).mono ?_); rintro e w5 ⟨A5, rfl, ha5, hy5, hb5⟩; have HB5 := Lib.hid (HB4.out.trans (hb5.mono HB4.out.size)); have HY5 := Lib.hid hy5; clear hb5 hy5))
              go_meet
              case rel =>
                refine ⟨_, rfl, ?_, ?_, HB5.out⟩
                · rw [ByteArray.size_append, ByteArray.size_append, ByteArray.size_append, ByteArray.size_append, ByteArray.size_append, ha2, ha3, ha4, ha5]
                  show J.size + z / 16 % 3 + z / 64 % 2 + 1 + z / 32 % 2 + z / 64 ≤ _
                  omega
                · show SW _ _ _
                  rw [sep_list]
                  exact hJ.out.sep (by have := HK0.out; omega) (blank_all (fun y hy => .inl (HY2.out y hy)) (fun y hy => .inr (HY3.out y hy))) (blank_all (fun y hy => .inr (HY4.out y hy)) (fun y hy => .inl (HY5.out y hy)))
          case rest =>
            obtain ⟨J1, rfl, hJ1, HSW, HB1⟩ := hcut
            obtain ⟨t, en, fc, fa, hr⟩ : ∃ t en fc fa, readT (39 :: (X.data.toList ++ [39])) 0 = (t, en, fc, fa) := ⟨_, _, _, _, rfl⟩
            have hrd := fun w2 => read_quoted X (by omega) w2
            rw [hr] at hrd
            have HRD := Lib.hid hrd; clear hrd
            have HR := Lib.hid hr; clear hr
            have HX := Lib.hid hX; clear hX
            have hbc := fun w2 => bareW_is X w2
            have HQ := Lib.hid (fun W (h : Below w.heap.size w W) => qwrite_any X (by omega) W (HG0.out.keep h (Nat.le_refl _)))
            obtain ⟨Z, hZ⟩ : ∃ Z : ByteArray, ⟨(writeQ X.data.toList).toArray⟩ = Z := ⟨_, rfl⟩
            have HZL : Hid (Z.data.toList = writeQ X.data.toList) := by show _ = _; rw [← hZ]
            have HQZ : Hid (Z.size ≤ 362) := by
              have h1 : (writeQ X.data.toList).length ≤ 6 * X.data.toList.length + 2 := by
                have hl : ∀ l : List UInt8, (l.flatMap wrB).length ≤ 6 * l.length := by
                  intro l
                  induction l with
                  | nil => simp
                  | cons c l ih => have := wrB_len c; simp at ih ⊢; omega
                have := hl X.data.toList
                rw [writeQ_len]; omega
              have h2 : X.data.toList.length = X.size := rfl
              have h3 : Z.data.toList.length = Z.size := rfl
              rw [HZL.out] at h3
              show _ ≤ _
              omega
            rw [hZ] at HQ
            clear hZ
            go_upto_region 18 with (go_at_call 12; (with_reducible refine (HRD.out _).mono ?_); rintro e wf ⟨rfl, hb4⟩; dsimp only; have HB3 := Lib.hid (HB1.out.trans (hb4.mono HB1.out.size)); clear hb4)
            obtain ⟨w4', hw4⟩ : ∃ w4', w4' = wf.alloc (.cells #[.int .i64 fc, .int .i64 fa] 33) := ⟨_, rfl⟩
            have hf4 : FB w4' wf.heap.size fc fa := by rw [hw4]; exact FB.new wf fc fa
            have HB4 := Lib.hid (HB3.out.trans ((below_new1 wf (.cells #[.int .i64 fc, .int .i64 fa] 33)).mono HB3.out.size))
            rw [← hw4] at HB4 ⊢
            clear hw4
            obtain ⟨f0, f1, _, _, _⟩ := hf4.cells
            clear hf4
            clear hb
            have hzs := HQZ.out
            have HZ : Hid (∀ j (h : j < xs.length), j < k + 1 → xs[j].size ≤ 60) := fun j h hj => by
              by_cases hjk : j = k
              · subst hjk; rw [HX.out]; omega
              · exact hz.out j h (by omega)
            have hbt : bareW X = true → FormOf X.data.toList X.data.toList := fun h => by
              rw [bareW_eq, Bool.and_eq_true] at h
              exact .bare (fun e => by rw [e] at h; exact absurd h.1 (by decide)) (fun c hc => List.all_eq_true.1 h.2 c hc)
            by_cases z3 : z % 3 = 0
            · have hb0 : ((z : Int) % 3 == 0) = true := by simp; omega
              have hb1 : ((z : Int) % 3 == 1) = false := by simp; omega
              cases hbb : bareW X
              · rw [hbb] at hbc
                have HBC := Lib.hid hbc; clear hbc hbb hbt
                go_wp2_with (first
                  | (go_at_call 10; (with_reducible refine (HBC.out _).mono ?_); rintro e w5 ⟨rfl, hb5⟩; have HB5 := Lib.hid (HB4.out.trans (hb5.mono HB4.out.size)); clear hb5)
                  | (go_at_call 13; (with_reducible refine (HQ.out _ HB5.out).mono ?_); rintro e w6 ⟨rfl, hb6⟩; have HB6 := Lib.hid (HB5.out.trans (hb6.mono HB5.out.size)); clear hb6)
                  | (go_at_call 13; (with_reducible refine (HQ.out _ HB4.out).mono ?_); rintro e w6 ⟨rfl, hb6⟩; have HB6 := Lib.hid (HB4.out.trans (hb6.mono HB4.out.size)); clear hb6))
                go_roundg (len - (k + 1))
                case measure => have := hq.out; omega
                case rel => exact ⟨k + 1, _, rfl, by first | rfl | (simp only [ByteArray.size_append]; rfl) | (simp only [ByteArray.size_append]; push_cast; rfl) | (simp only [ByteArray.size_append]; push_cast; simp; omega), by go_num, by omega, by rw [ByteArray.size_append]; have := HQZ.out; omega, rfl, by show KW _ _ _; rw [app_list, HZL.out]; exact HSW.out.step hkl (by rw [HX.out]; exact .basic _), HZ.out, HB6.out⟩
              · rw [hbb] at hbc
                have HBC := Lib.hid hbc; have HBT := Lib.hid (hbt hbb); clear hbc hbb hbt
                go_wp2_with (first
                  | (go_at_call 10; (with_reducible refine (HBC.out _).mono ?_); rintro e w5 ⟨rfl, hb5⟩; have HB5 := Lib.hid (HB4.out.trans (hb5.mono HB4.out.size)); clear hb5)
                  | (go_at_call 13; (with_reducible refine (HQ.out _ HB5.out).mono ?_); rintro e w6 ⟨rfl, hb6⟩; have HB6 := Lib.hid (HB5.out.trans (hb6.mono HB5.out.size)); clear hb6)
                  | (go_at_call 13; (with_reducible refine (HQ.out _ HB4.out).mono ?_); rintro e w6 ⟨rfl, hb6⟩; have HB6 := Lib.hid (HB4.out.trans (hb6.mono HB4.out.size)); clear hb6))
                go_roundg (len - (k + 1))
                case measure => have := hq.out; omega
                case rel => exact ⟨k + 1, _, rfl, by first | rfl | (simp only [ByteArray.size_append]; rfl) | (simp only [ByteArray.size_append]; push_cast; rfl) | (simp only [ByteArray.size_append]; push_cast; simp; omega), by go_num, by omega, by rw [ByteArray.size_append]; omega, rfl, by show KW _ _ _; rw [app_list]; exact HSW.out.step hkl (by rw [HX.out]; exact HBT.out), HZ.out, HB5.out⟩
            · clear hbt hbc
              have hb0 : ((z : Int) % 3 == 0) = false := by simp; omega
              have HLT0 : Hid (fc = 0 → fa = 0 → t = X.toList → (en == (X.size : Int) + 2) = true → FormOf (39 :: (X.data.toList ++ [39])) X.data.toList) := fun h1 h2 h3 h4 => by
                have h := HR.out
                have h5 : en = (X.size : Int) + 2 := by simpa using h4
                rw [h1, h2, h3, h5, ByteArray.toList_eq] at h
                exact .lit (lit_of_read _ h)
              by_cases z4 : z % 3 = 1
              · have hb1 : ((z : Int) % 3 == 1) = true := by simp; omega
                go_wp2_with (first
                  | (go_at_call 10; (with_reducible refine (HBC.out _).mono ?_); rintro e w5 ⟨rfl, hb5⟩; have HB5 := Lib.hid (HB4.out.trans (hb5.mono HB4.out.size)); clear hb5)
                  | (go_at_call 13; (with_reducible refine (HQ.out _ HB5.out).mono ?_); rintro e w6 ⟨rfl, hb6⟩; have HB6 := Lib.hid (HB5.out.trans (hb6.mono HB5.out.size)); clear hb6)
                  | (go_at_call 13; (with_reducible refine (HQ.out _ HB4.out).mono ?_); rintro e w6 ⟨rfl, hb6⟩; have HB6 := Lib.hid (HB4.out.trans (hb6.mono HB4.out.size)); clear hb6))
                · have HLT := Lib.hid (HLT0.out ‹_› ‹_› ‹_› ‹_›)
                  go_roundg (len - (k + 1))
                  case measure => have := hq.out; omega
                  case rel => exact ⟨k + 1, _, rfl, by first | rfl | (simp only [ByteArray.size_append]; rfl) | (simp only [ByteArray.size_append]; push_cast; rfl) | (simp only [ByteArray.size_append]; push_cast; simp; omega), by go_num, by omega, by rw [ByteArray.size_append, ByteArray.size_append, ByteArray.size_append]; show J1.size + 1 + X.size + 1 ≤ _; omega, rfl, by show KW _ _ _; rw [lit_list]; exact HSW.out.step hkl (by rw [HX.out]; exact HLT.out), HZ.out, HB4.out⟩
                all_goals (
                  go_roundg (len - (k + 1))
                  case measure => have := hq.out; omega
                  case rel => exact ⟨k + 1, _, rfl, by first | rfl | (simp only [ByteArray.size_append]; rfl) | (simp only [ByteArray.size_append]; push_cast; rfl) | (simp only [ByteArray.size_append]; push_cast; simp; omega), by go_num, by omega, by rw [ByteArray.size_append]; have := HQZ.out; omega, rfl, by show KW _ _ _; rw [app_list, HZL.out]; exact HSW.out.step hkl (by rw [HX.out]; exact .basic _), HZ.out, HB6.out⟩)
              · have hb1 : ((z : Int) % 3 == 1) = false := by simp; omega
                go_wp2_with (first
                  | (go_at_call 10; (with_reducible refine (HBC.out _).mono ?_); rintro e w5 ⟨rfl, hb5⟩; have HB5 := Lib.hid (HB4.out.trans (hb5.mono HB4.out.size)); clear hb5)
                  | (go_at_call 13; (with_reducible refine (HQ.out _ HB5.out).mono ?_); rintro e w6 ⟨rfl, hb6⟩; have HB6 := Lib.hid (HB5.out.trans (hb6.mono HB5.out.size)); clear hb6)
                  | (go_at_call 13; (with_reducible refine (HQ.out _ HB4.out).mono ?_); rintro e w6 ⟨rfl, hb6⟩; have HB6 := Lib.hid (HB4.out.trans (hb6.mono HB4.out.size)); clear hb6))
                go_roundg (len - (k + 1))
                case measure => have := hq.out; omega
                case rel => exact ⟨k + 1, _, rfl, by first | rfl | (simp only [ByteArray.size_append]; rfl) | (simp only [ByteArray.size_append]; push_cast; rfl) | (simp only [ByteArray.size_append]; push_cast; simp; omega), by go_num, by omega, by rw [ByteArray.size_append]; have := HQZ.out; omega, rfl, by show KW _ _ _; rw [app_list, HZL.out]; exact HSW.out.step hkl (by rw [HX.out]; exact .basic _), HZ.out, HB6.out⟩
    · go_upto_region 24 with fail
      obtain ⟨W, hW⟩ : ∃ W, W = wr.alloc (.cells #[.string ⟨#[]⟩, .string ⟨#[32]⟩, .string ⟨#[61]⟩, .string ⟨#[32, 9, 61, 32, 46]⟩, .string ⟨#[93]⟩, .string ⟨#[35, 46]⟩, .string ⟨#[10, 46, 97]⟩, .string ⟨#[32, 13, 10]⟩] 9) := ⟨_, rfl⟩
      have hBW : Below wr.heap.size wr W := by rw [hW]; exact below_new1 wr _
      have HT : Hid (∃ T : ByteArray, W.cell? ⟨wr.heap.size, m % 8, none⟩ = some (.string T) ∧ Tail T) := by rw [hW]; exact tails_cell wr _ (Nat.mod_lt _ (by omega))
      rw [← hW]
      clear hW
      obtain ⟨T, ht, hT⟩ := HT.out
      have hTs := hT.1
      have m8 : m % 8 < 8 := Nat.mod_lt _ (by omega)
      have hkn : k = len := by omega
      have hHB := hb.out.trans (hBW.mono hb.out.size)
      have HBW := Lib.hid hHB
      have hkw := hJ.out
      rw [hkn] at hkw
      obtain ⟨es, hkr, hsw⟩ := hkw.key HXL.out.symm n0 hT.2.1 hT.2.2
      have hAL : (J ++ T).data.toList = J.data.toList ++ T.data.toList := app_list J T
      have hALs : (J ++ T).size = J.size + T.size := ByteArray.size_append
      obtain ⟨AL, hAL'⟩ : ∃ AL, J ++ T = AL := ⟨_, rfl⟩
      rw [hAL'] at hAL hALs
      rw [← hAL] at hkr
      have hjl : J.data.toList.length = J.size := rfl
      rw [hjl] at hkr
      have hrd := read_key AL (by omega) len 0 _ hkr (by omega) (by omega) W (HG0.out.keep HBW.out (Nat.le_refl _))
      have his := is_of AL 0 es (J.size : Int) xs hsw (by have := HXL.out; omega) bx ox len cap HXL.out.symm W (HM.out.keep HBW.out (Nat.le_refl _)) hrd
      rw [← hAL'] at his
      have HIS := Lib.hid his
      have HLW := Lib.hid (fun W' (h : Below w.heap.size w W') => lives_any W' (HG0.out.keep h (Nat.le_refl _)))
      clear hrd his hAL hALs hAL' hkr hsw hkw hHB hBW hkn hjl HT hT
      go_wp2_with (first
        | (go_at_call 7; (with_reducible refine HIS.out.mono ?_); rintro e w2 ⟨rfl, hb2⟩; have HB2 := Lib.hid (HBW.out.trans (hb2.mono HBW.out.size)); clear hb2)
        | (go_at_call 6; (with_reducible refine (HLW.out _ HB2.out).mono ?_); rintro e w3 ⟨rfl, hb3⟩; have HB3 := Lib.hid (HB2.out.trans (hb3.mono HB2.out.size)); clear hb3))
      go_ret
      exact ⟨rfl, HB3.out⟩

def BytesArgC (w : World) (a : Option Addr) (n _cap : Nat) : Prop := BytesArg w a n
theorem ways_any (a b : Option Addr) (len cap lenh caph : Nat) (bh : Int) (hbh : (Lit.int .u8 bh).wf = true) (w : World) (hA : StrsArg w a len cap) (hH : BytesArgC w b lenh caph) (hG : Glob w) :
    Calls Tryd.prog 4 #[.slice a len cap, .slice b lenh caph, .int .u8 bh] w fun e w' => e = .returned (.bool true) ∧ Below w.heap.size w w' := by
  obtain ⟨m, rfl⟩ := u8_of hbh
  exact ways_walk a b len cap lenh caph m.toNat m.toNat_lt w hA hH hG

end Go.Proofs.YtflfedfghnnaeaaDoor
