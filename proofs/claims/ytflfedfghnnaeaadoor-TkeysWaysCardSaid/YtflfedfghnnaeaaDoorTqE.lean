/- Walks over package tquotes: unit, escaped; no statement of the seat is proved here. -/
import Derived.Test.YtflfedfghnnaeaaDoorTqD
import Derived.Test.YtflfedfghnnaeaaDoorPu16
namespace Go.Proofs.YtflfedfghnnaeaaDoor
open Go.RowKit

/-- A fault's cells are returned. -/
theorem FB.fin {w w4 : World} {R : Nat} {s : ByteArray} {i q : Nat} {out : List UInt8} {Pr : Nat → Prop} (hRlt : R < w.heap.size) (hprl : ∀ k, Pr k → k < w.heap.size) (h1 : RI w4 R s i q out (fun k => k = w.heap.size ∨ Pr k)) (h2 : To R Pr w w4) (x y : Value) : RI ((w4.setCell ⟨w.heap.size, 0, none⟩ x).setCell ⟨w.heap.size, 1, none⟩ y) R s i q out Pr ∧ To R Pr w ((w4.setCell ⟨w.heap.size, 0, none⟩ x).setCell ⟨w.heap.size, 1, none⟩ y) :=
  ⟨((h1.setF (.inl rfl) 0 _).setF (.inl rfl) 1 _).less fun _k hk => .inr hk, (h2.setN hRlt hprl (Nat.le_refl _) 0 _).setN hRlt hprl (Nat.le_refl _) 1 _⟩

theorem take_at (a : Int) (R : Nat) (s : ByteArray) (i q : Nat) (out : List UInt8) (Pr : Nat → Prop) (many : Nat) (ha : a = (many : Int)) (B : Option Addr) (m cB : Nat) (t : List UInt8) (hm : m = t.length) (w : World) (hR : RI w R s i q out Pr) (hT : BS w w.heap.size B t) (hi : i ≤ 1073741824) (hmany : many ≤ 1073741824) (ho : out.length ≤ 1073741824) (ht : t.length ≤ 1073741824) (hdis : ∀ a, B = some a → 0 < t.length → a.block ≠ R) :
    Calls Tryd.prog 78 #[.pointer (some ⟨R, 0, none⟩), .int .i64 a, .slice B m cB] w fun e w' => e = .returned (.tuple #[]) ∧ RI w' R s (i + many) q (out ++ t) Pr ∧ Below R w w' ∧ Prot Pr w w' := by
  subst ha
  exact take_any R s i q out Pr many B m cB t hm w hR hT hi hmany ho ht hdis
theorem hx_bt2 {l l' : List UInt8} {j j' : Nat} (h : bt l j = bt l' j') : hx l j = hx l' j' := by
  unfold bt at h
  unfold hx
  by_cases h1 : j < l.length
  · by_cases h2 : j' < l'.length
    · rw [dif_pos h1, dif_pos h2] at h
      rw [dif_pos h1, dif_pos h2, UInt8.toNat_inj.1 h]
    · rw [dif_pos h1, dif_neg h2] at h
      have := l[j].toNat_lt
      omega
  · by_cases h2 : j' < l'.length
    · rw [dif_neg h1, dif_pos h2] at h
      have := l'[j'].toNat_lt
      omega
    · rw [dif_neg h1, dif_neg h2]
theorem dgs_app (l : List UInt8) : ∀ (k i : Nat) (n : Int), (dgs l k i n).2 = -1 → dgs ((l.drop i).take k) k 0 n = dgs l k i n := by
  have gen : ∀ (k i j : Nat) (n : Int) (m : List UInt8), (∀ t, t < k → bt m (j + t) = bt l (i + t)) → dgs m k j n = dgs l k i n ∨ ∃ p q, (dgs m k j n = (0, p) ∧ dgs l k i n = (0, q) ∧ 0 ≤ p ∧ 0 ≤ q) := by
    intro k
    induction k with
    | zero => intro i j n m _; exact .inl rfl
    | succ k ih =>
      intro i j n m h
      have h0 := hx_bt2 (h 0 (by omega))
      rw [Nat.add_zero, Nat.add_zero] at h0
      rw [dgs, dgs, h0]
      by_cases hd : hx l i < 0
      · rw [if_pos hd, if_pos hd]
        exact .inr ⟨_, _, rfl, rfl, by omega, by omega⟩
      · rw [if_neg hd, if_neg hd]
        exact ih (i + 1) (j + 1) _ m (fun t ht => by have := h (t + 1) (by omega); rw [show j + 1 + t = j + (t + 1) by omega, show i + 1 + t = i + (t + 1) by omega]; exact this)
  intro k i n h
  rcases gen k i 0 n ((l.drop i).take k) (fun t ht => by
    rw [Nat.zero_add]
    unfold bt
    by_cases h1 : i + t < l.length
    · rw [dif_pos h1, dif_pos (by simp; omega)]; simp
    · rw [dif_neg h1, dif_neg (by simp; omega)]) with h1 | ⟨p, q, _, h2, _, h3⟩
  · exact h1
  · rw [h2] at h; dsimp only at h; omega
theorem dgs_next {l : List UInt8} {d f i : Nat} {n : Int} (hi : i < f + d) : dgs l (f + d - i) i n = if hx l i < 0 then (0, (i : Int)) else dgs l (f + d - (i + 1)) (i + 1) (16 * n + hx l i) := by
  obtain ⟨k, hk⟩ : ∃ k, f + d - i = k + 1 := ⟨f + d - i - 1, by omega⟩
  rw [hk, dgs, show f + d - (i + 1) = k by omega]

theorem dgs_all {l : List UInt8} {V : Int} : ∀ (k i : Nat) (n : Int), dgs l k i n = (V, -1) → ∀ t, t < k → 0 ≤ hx l (i + t) ∧ i + t < l.length := by
  intro k
  induction k with
  | zero => intro i n _ t ht; omega
  | succ k ih =>
    intro i n h t ht
    rw [dgs] at h
    by_cases hd : hx l i < 0
    · rw [if_pos hd] at h; injection h with _ h; omega
    · rw [if_neg hd] at h
      rcases t with _ | t
      · refine ⟨by rw [Nat.add_zero]; omega, ?_⟩
        rcases Nat.lt_or_ge i l.length with h' | h'
        · simpa using h'
        · exfalso; rw [hx, dif_neg (by omega)] at hd; omega
      · have := ih (i + 1) _ h t (by omega)
        rw [show i + (t + 1) = i + 1 + t by omega]
        exact this
theorem valid_is (V : Int) (h0 : 0 ≤ V) : Lib.validRune V = (decide (V < 55296) || (decide (57343 < V) && decide (V ≤ 1114111))) := by
  unfold Lib.validRune
  rw [Bool.eq_iff_iff]
  simp
  omega

set_option maxRecDepth 100000 in
set_option maxHeartbeats 4000000 in
/-- The digits are right: the rune is put, or is none. -/
theorem unit_is (R : Nat) (s : ByteArray) (i q : Nat) (out : List UInt8) (Pr : Nat → Prop) (w : World) (hR : RI w R s i q out Pr) (hs : s.size ≤ 1073741000) (ho : out.length ≤ 1073741000) (d : Nat) (hd : d = 4 ∨ d = 8) (V : Int) (hf : dgs s.data.toList d (i + 2) 0 = (V, -1)) (ok : Bool) (hok : (decide (1114111 < V) || (decide (55296 ≤ V) && decide (V ≤ 57343))) = !ok) :
    Calls Tryd.prog 81 #[.pointer (some ⟨R, 0, none⟩), .int .i64 (d : Int)] w fun e w' => e = .returned (.agg #[.int .i64 (if ok then 0 else 3), .int .i64 (if ok then 0 else (i : Int) + 2)]) ∧ (if ok then RI w' R s (i + (2 + d)) q (out ++ putL [V]) Pr else RI w' R s i q out Pr) ∧ To R Pr w w' := by
  have hR1 := hR.new (.cells #[.int .i64 0, .int .i64 0] 33)
  obtain ⟨c0, c1, c2, _⟩ := hR1.cells0
  have hRlt := hR.lt
  have hprl := Lib.hid hR.pr_lt
  have HR1 := Lib.hid hR1; clear hR1 hR
  have HF := Lib.hid (FB.new w 0 0)
  have hd8 : d ≤ 8 := by omega
  have hd1 : 1 ≤ d := by omega
  have hall := Lib.hid (dgs_all _ _ _ hf)
  have hV0 : 0 ≤ V ∧ V < 16 ^ d := by
    have := dgs_rng s.data.toList d (i + 2) 0 (by omega)
    rw [hf] at this
    dsimp only at this
    have h1 : ((0 : Int) + 1) * 16 ^ d = 16 ^ d := by rw [Int.zero_add, Int.one_mul]
    omega
  have hV32 : V ≤ 4294967295 := by
    rcases hd with rfl | rfl
    · have := hV0.2; have e : (16 : Int) ^ 4 = 65536 := by decide
      omega
    · have := hV0.2; have e : (16 : Int) ^ 8 = 4294967296 := by decide
      omega
  have hV0 := hV0.1
  have hin : i + 2 + d ≤ s.size := by have := (hall.out (d - 1) (by omega)).2; have h : s.data.toList.length = s.size := rfl; omega
  have HFF := Lib.hid hf; clear hf
  have HD := Lib.hid hd; clear hd
  have HOK := Lib.hid hok; clear hok
  go_enter Tryd.func81, Tryd.ntmps81
  go_wp2_with fail
  clear c0 c1 c2
  go_loopg [6, 7, 8] (d + 1) (fun g s6 s7 s8 wr => ∃ k : Nat, s6 = .int .i64 k ∧ i + 2 ≤ k ∧ k ≤ i + 2 + d ∧ Hid (g = i + 2 + d + 1 - k) ∧ Hid (Below (w.heap.size + 1) (w.alloc (.cells #[.int .i64 0, .int .i64 0] 33)) wr))
  case atStart => exact ⟨i + 2, by go_num, by omega, by omega, (by show _ = _; omega), Below.refl _ _⟩
  case round =>
    obtain ⟨k, rfl, hk1, hk2, hg, hbw⟩ := hrel
    obtain ⟨c0, c1, _, _⟩ := (HR1.out.keep hbw.out (by simp)).cells0
    by_cases hlt : k < i + 2 + d
    · have hks : k < s.size := by omega
      have hx0 : 0 ≤ hexD s[k] := by have := (hall.out (k - (i + 2)) (by omega)).1; rwa [show i + 2 + (k - (i + 2)) = k by omega, hx_str hks] at this
      have HP := Lib.hid (fun w2 => pu_ok_at s k hks _ rfl hx0 w2)
      clear hx0
      go_wp2_with fail
      refine (HP.out _).mono ?_
      rintro e w2 ⟨rfl, hb2⟩
      have HB2 := Lib.hid (hbw.out.trans (hb2.mono (by have := hbw.out.size; simpa using this))); clear hb2 HP
      go_wp2
      go_roundg (i + 2 + d + 1 - (k + 1))
      case measure => have := hg.out; omega
      case rel => exact ⟨k + 1, by go_num, by omega, by omega, rfl, HB2.out⟩
    · obtain ⟨T, hT, hTs⟩ : ∃ T : ByteArray, s.extract (i + 2) (i + 2 + d) = T ∧ Hid (T.size = d ∧ dgs T.data.toList T.size 0 0 = (V, -1)) := by
        refine ⟨_, rfl, ?_⟩
        have h1 : (s.extract (i + 2) (i + 2 + d)).size = d := by rw [ByteArray.size_extract]; omega
        refine ⟨h1, ?_⟩
        rw [h1, ByteArray.data_extract, Array.toList_extract]
        have := dgs_app s.data.toList d (i + 2) 0 (by rw [HFF.out])
        rw [HFF.out] at this
        rw [← this]
        congr 1
        have e : i + 2 + d - (i + 2) = d := by omega
        show ((s.data.toList.drop (i + 2)).take (i + 2 + d - (i + 2))) = _
        rw [e]
      clear hg
      go_wp2_with fail
      refine (pu16 T (by rw [hTs.out.1]; omega) (by rw [hTs.out.1]; omega) V hTs.out.2 _).mono ?_
      rintro e w2 ⟨rfl, hb2⟩
      have HB2 := Lib.hid (hbw.out.trans (hb2.mono (by have := hbw.out.size; simpa using this))); clear hb2 hbw c0 c1 hT hTs
      have hHF2 := HF.out.keep HB2.out (by simp)
      have HR2 := Lib.hid (HR1.out.keep HB2.out (by simp))
      have HT2 := Lib.hid ((To.new hRlt hprl.out (.cells #[.int .i64 0, .int .i64 0] 33)).more hRlt hprl.out HB2.out (by simp))
      obtain ⟨f0, f1, g0, g1, hlt2⟩ := hHF2.cells
      have HF2 := Lib.hid hHF2; clear hHF2
      by_cases hbig : 1114111 < V
      · have hbo : ok = false := by have := HOK.out; rw [decide_eq_true hbig] at this; simpa using this.symm
        subst hbo
        go_wp2_with fail
        refine (wrong_any _ _).mono ?_
        rintro e w3 ⟨rfl, hb3⟩
        obtain ⟨f0, f1, g0, g1, hlt3⟩ := (HF2.out.keep hb3 (Nat.le_refl _)).cells
        go_wp2
        exact bodyPost_ret (v := .agg #[.int .i64 3, .int .i64 ((i : Int) + 2)]) (by simp [results, Tryd.results81, go_sem, f0, f1]) rfl ⟨rfl, FB.fin hRlt hprl.out (HR2.out.keep hb3 (Nat.le_refl _)) (HT2.out.more hRlt hprl.out hb3 (by have := HT2.out.below.size; omega)) _ _⟩
      by_cases hsur : 55296 ≤ V ∧ V ≤ 57343
      · have hbo : ok = false := by have := HOK.out; rw [decide_eq_false hbig, decide_eq_true hsur.1, decide_eq_true hsur.2] at this; simpa using this.symm
        subst hbo
        have hva := Lib.hid (show Lib.validRune V = false by rw [valid_is V hV0, decide_eq_false (by omega : ¬ V < 55296), decide_eq_false (by omega : ¬ 57343 < V)]; rfl)
        go_wp2_with fail
        refine (Tryd.utf8_ValidRune _ _).mono ?_
        rintro e w3 ⟨rfl, rfl⟩
        rw [hva.out]
        go_wp2_with fail
        refine (wrong_any _ _).mono ?_
        rintro e w4 ⟨rfl, hb3⟩
        obtain ⟨f0, f1, g0, g1, hlt3⟩ := (HF2.out.keep hb3 (Nat.le_refl _)).cells
        go_wp2
        exact bodyPost_ret (v := .agg #[.int .i64 3, .int .i64 ((i : Int) + 2)]) (by simp [results, Tryd.results81, go_sem, f0, f1]) rfl ⟨rfl, FB.fin hRlt hprl.out (HR2.out.keep hb3 (Nat.le_refl _)) (HT2.out.more hRlt hprl.out hb3 (by have := HT2.out.below.size; omega)) _ _⟩
      · have hbo : ok = true := by
          have := HOK.out
          rw [decide_eq_false hbig] at this
          by_cases h1 : 55296 ≤ V
          · rw [decide_eq_true h1, decide_eq_false (by omega : ¬ V ≤ 57343)] at this; simpa using this.symm
          · rw [decide_eq_false h1] at this; simpa using this.symm
        subst hbo
        have hva := Lib.hid (show Lib.validRune V = true by
          rw [valid_is V hV0]
          by_cases h1 : V < 55296
          · rw [decide_eq_true h1]; rfl
          · rw [decide_eq_false h1, decide_eq_true (by omega : 57343 < V), decide_eq_true (by omega : V ≤ 1114111)]; rfl)
        have hVn : V ≤ 1114111 := by omega
        clear hbig hsur
        go_wp2_with fail
        refine (Tryd.utf8_ValidRune _ _).mono ?_
        rintro e w3 ⟨rfl, rfl⟩
        rw [hva.out]
        go_wp2_with fail
        refine (put_any _ [V] 1 _ rfl (by omega) _ (by have := IS.made w3 [V] 3 (0, 0); simpa using this)).mono ?_
        rintro e w5 ⟨A5, m5, rfl, hO5, hb5⟩
        have hsz5 := hb5.size
        have hw35 : w3.heap.size < w5.heap.size := by simp at hsz5; omega
        have hnr : ∀ a, A5 = some a → 0 < (putL [V]).length → a.block ≠ R := fun a ha hlen => by
          have hm : 0 < m5 := by have := hO5.bs.1; omega
          obtain ⟨g, cur, hA, hg, _, _⟩ := hO5.at_ hm
          rw [hA] at ha; injection ha with ha
          subst ha
          have := HR2.out.lt
          show g ≠ R
          simp at hg; omega
        have HNR := Lib.hid hnr; clear hnr
        have HR5 := Lib.hid ((HR2.out.keep (below_new1 w3 (.cells #[.int .i64 V] 3)) (Nat.le_refl _)).keep hb5 (Nat.le_refl _))
        have HF5 := Lib.hid ((HF2.out.keep (below_new1 w3 (.cells #[.int .i64 V] 3)) (Nat.le_refl _)).keep hb5 (Nat.le_refl _))
        have HT5 := Lib.hid ((HT2.out.alloc hRlt hprl.out (.cells #[.int .i64 V] 3)).more hRlt hprl.out hb5 (by have := HT2.out.below.size; simp; omega))
        have HO5 := Lib.hid hO5; clear hO5 hb5
        go_wp2_with fail
        refine (take_at _ R s i q out _ (2 + d) (by omega) A5 m5 m5 (putL [V]) HO5.out.bs.1 w5 HR5.out HO5.out.bs.2 (by omega) (by omega) (by omega) (by have := putL_len [V]; simp at this; omega) HNR.out).mono ?_
        rintro e w6 ⟨rfl, hR6, hb6, hp6⟩
        have hF6 := FB.prot HF5.out hp6 (.inl rfl)
        have HT6 := Lib.hid (HT5.out.step hb6 hp6 (fun k hk => .inr hk)); clear hb6 hp6
        have HR6 := Lib.hid hR6; clear hR6
        obtain ⟨f0, f1, g0, g1, hlt6⟩ := hF6.cells
        clear hF6
        go_wp2
        exact bodyPost_ret (v := .agg #[.int .i64 0, .int .i64 0]) (by simp [results, Tryd.results81, go_sem, f0, f1]) rfl ⟨rfl, FB.fin hRlt hprl.out HR6.out HT6.out _ _⟩

end Go.Proofs.YtflfedfghnnaeaaDoor
