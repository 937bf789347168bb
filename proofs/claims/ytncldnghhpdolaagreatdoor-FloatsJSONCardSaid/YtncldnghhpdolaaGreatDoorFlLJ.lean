/- The law FloatsJSON walked; no statement of the seat is proved here. -/
import Derived.Test.YtncldnghhpdolaaGreatDoorFlG
import Derived.Test.YtncldnghhpdolaaGreatDoorFlJ
namespace Go.Proofs.YtncldnghhpdolaaGreatDoor
open Go.RowKit

theorem fread_len {s r : ByteArray} {c : Int} (h : fltR s.data.toList = (r.data.toList, c)) : r.size ≤ 2 * s.size + 31 := by
  have h1 := flt_len s.data.toList
  rw [h] at h1
  simp only [size_list] at h1
  exact h1
theorem has_text {sub : List UInt8} (h : sub ≠ []) : ∀ P : List UInt8, Lib.contains (P ++ sub) sub = true := by
  have g : ∀ P : List UInt8, 0 ≤ Lib.index (P ++ sub) sub := by
    intro P
    induction P with
    | nil =>
      cases sub with
      | nil => exact absurd rfl h
      | cons c t => rw [List.nil_append, Lib.index, if_pos (by simp)]; exact Int.le_refl 0
    | cons b P ih =>
      rw [List.cons_append, Lib.index]
      split
      · exact Int.le_refl 0
      · have : (Lib.index (P ++ sub) sub == -1) = false := beq_eq_false_iff_ne.2 (by omega)
        rw [this]
        simp only [Bool.false_eq_true, if_false]
        omega
  exact fun P => decide_eq_true (g P)
theorem ca_any (cs l : List UInt8) : decide (0 ≤ Lib.indexAny l cs) = l.any fun c => cs.contains c := by
  rcases cut_idx (fun c => cs.contains c) cs (fun _ => rfl) l with ⟨e1, e2⟩ | ⟨i, e1, _, e3⟩
  · rw [e1]
    have e4 := congrArg (fun x => x.2.2) e2
    unfold cutL at e4
    cases h : l.any fun c => cs.contains c
    · rfl
    · rw [if_pos h] at e4; cases e4
  · rw [e1]
    have e4 := congrArg (fun x => x.2.2) e3
    unfold cutL at e4
    cases h : l.any fun c => cs.contains c
    · rw [h] at e4; cases e4
    · exact decide_eq_true (by omega)
theorem ca_is (s cs : ByteArray) (b : Bool) (hs : s.size ≤ 1000000) (h2 : 2 ≤ cs.size) (h3 : cs.size ≤ 3) (ha : ∀ (j : Nat) b, cs.data.toList[j]? = some b → b.toNat < 128) (hb : (s.data.toList.any fun c => cs.data.toList.contains c) = b) (w : World) :
    Calls Tryz.prog 16 #[.string s, .string cs] w fun e w' => e = .returned (.bool b) ∧ Below w.heap.size w w' := by
  have HI := Lib.hid (ixa_is s cs hs h2 h3 ha)
  rw [← ca_any] at hb
  have HB := Lib.hid hb
  clear hb ha
  go_enter Tryz.func16, Tryz.ntmps16
  go_wp2_with (go_at_call 41; refine (HI.out _).mono ?_; rintro e w' ⟨rfl, hb'⟩)
  go_ret
  exact ⟨ret_bool (by first | exact HB.out | (rw [← HB.out])), hb'⟩
theorem con_is (s sub : ByteArray) (b : Bool) (hs : s.size ≤ 1000000) (hb : Lib.contains s.data.toList sub.data.toList = b) (w : World) (hG : Gl w) :
    Calls Tryz.prog 17 #[.string s, .string sub] w fun e w' => e = .returned (.bool b) ∧ Below w.heap.size w w' := by
  obtain ⟨m, hm⟩ := hG.max
  refine (Tryz.strings_Contains s sub m w (by omega) hm).mono ?_
  rintro e w' ⟨rfl, rfl⟩
  exact ⟨by rw [hb], Below.refl _ _⟩
theorem readD_ex (s : ByteArray) : ∃ (r : ByteArray) (c : Int), readD s.data.toList = (r.data.toList, c) := by
  obtain ⟨r, hr⟩ := str_ex (readD s.data.toList).1
  exact ⟨r, (readD s.data.toList).2, by rw [hr]⟩
theorem ok_code (l : List UInt8) : ((readD l).2 = 3 ↔ okW l = false) := by
  unfold readD
  cases okW l
  · simp
  · simp only [if_true]; split <;> simp
theorem norm_is {l t : List UInt8} (h : fltR l = (t, 0)) : isR t = true := by
  unfold isR
  rcases flt_norm h with rfl | rfl | rfl | h
  · rfl
  · rfl
  · rfl
  · rw [h]; simp
theorem dot_or {l : List UInt8} (h : okW l = true) : (hdB isDot (l2 l) || hdB isExp (l4 l)) = l.any fun c => ([46, 101, 69] : List UInt8).contains c := by
  cases ha : (hdB isDot (l2 l) || hdB isExp (l4 l))
  · symm
    rw [Bool.eq_false_iff]
    intro k
    obtain ⟨x, hx, hp⟩ := List.any_eq_true.1 k
    have hl := ok_chars h ha
    obtain ⟨_, _, f3, _⟩ := ok_facts h
    rw [hl] at hx
    rcases List.mem_append.1 hx with hx | hx
    · cases hm : hdB isMin l
      · rw [hm] at hx; cases hx
      · rw [hm] at hx
        have := List.mem_singleton.1 hx
        subst this
        cases hp
    · have hd := f3 x hx
      have := u8_allB (p := fun c => !dgB c || !([46, 101, 69] : List UInt8).contains c) (by decide +kernel) x
      rw [hd, hp] at this
      cases this
  · symm
    obtain ⟨lt, g⟩ := ok_fm h ha
    have ht := g.txt
    have he := g.le
    rw [List.any_eq_true]
    cases hp : hdB isDot (l2 l)
    · cases hx : hdB isExp (l4 l)
      · rw [hp, hx] at ha; cases ha
      · rw [hp, hx] at ht
        refine ⟨lt, by rw [ht]; simp, ?_⟩
        have := u8_allB (p := fun c => !isExp c || ([46, 101, 69] : List UInt8).contains c) (by decide +kernel) lt
        rw [he] at this
        exact this
    · rw [hp] at ht
      exact ⟨46, by rw [ht]; simp, rfl⟩
theorem any_plus (l : List UInt8) : (l.any fun c => ([43, 95] : List UInt8).contains c) = true ↔ (43 ∈ l ∨ 95 ∈ l) := by
  rw [List.any_eq_true]
  constructor
  · rintro ⟨x, hx, hp⟩
    simp at hp
    rcases hp with rfl | rfl
    · exact .inl hx
    · exact .inr hx
  · rintro (h | h)
    · exact ⟨43, h, rfl⟩
    · exact ⟨95, h, rfl⟩

set_option maxRecDepth 100000 in
set_option maxHeartbeats 8000000 in
theorem jsonlaw_walk (s : ByteArray) (w : World) (hG : Gl w) :
    Calls Tryz.prog 7 #[.string s] w fun e w' => e = .returned (.bool true) ∧ Below w.heap.size w w' := by
  have HL := Lib.hid (fun w' (hb : Below w.heap.size w w') => lives_any w' (hG.later hb))
  have HG := Lib.hid hG
  have hb : Hid (Below w.heap.size w w) := Below.refl w.heap.size w
  by_cases h5 : 300 < s.size
  · have b1 : decide ((300 : Int) < (s.size : Int)) = true := decide_eq_true (by omega)
    clear hG h5
    go_enter Tryz.func7, Tryz.ntmps7
    go_wp2_with (go_at_call 8; (with_reducible refine (HL.out _ hb.out).mono ?_); rintro e w1 ⟨rfl, hb1⟩)
    go_ret
    exact ⟨rfl, hb1⟩
  · have b1 : decide ((300 : Int) < (s.size : Int)) = false := decide_eq_false (by omega)
    obtain ⟨q, k, hq⟩ := readD_ex s
    obtain ⟨r, c, hr⟩ := fread_ex s
    have hrs := fread_len hr
    have R1 := Lib.hid (fun w hT => iread_is s q k (by omega) hq w hT)
    have R2 := Lib.hid (fun w hG => fread_is s r c (by omega) ((flt_eq _).trans hr) w hG)
    have hok := ok_code s.data.toList
    rw [hq] at hok
    have e0 : r.data.toList = [] → r.toList.isEmpty = true ∧ r.toList = [] := fun h => by rw [ByteArray.toList_eq, h]; exact ⟨rfl, rfl⟩
    by_cases hk : k = 3
    · have hno := hok.1 hk
      subst hk
      clear hok
      by_cases hc : c = 0
      · subst hc
        obtain ⟨k1, hk1⟩ : ∃ b, (s.data.toList.any fun c => (⟨#[43, 95]⟩ : ByteArray).data.toList.contains c) = b := ⟨_, rfl⟩
        obtain ⟨k2, hk2⟩ : ∃ b, Lib.contains s.data.toList (⟨#[105, 110, 102]⟩ : ByteArray).data.toList = b := ⟨_, rfl⟩
        obtain ⟨k3, hk3⟩ : ∃ b, Lib.contains s.data.toList (⟨#[110, 97, 110]⟩ : ByteArray).data.toList = b := ⟨_, rfl⟩
        have hor : (k1 || (k2 || k3)) = true := by
          rcases flt_other hno hr with h | ⟨P, h | h⟩
          · have : k1 = true := by rw [← hk1]; exact (any_plus _).2 h
            rw [this]; rfl
          · have : k2 = true := by rw [← hk2, h]; exact has_text (by unfold infL; simp) P
            rw [this]; simp
          · have : k3 = true := by rw [← hk3, h]; exact has_text (by unfold nanL; simp) P
            rw [this]; simp
        have P1 := Lib.hid (fun w hT => fis_is r true (by omega) ((is_eq _).trans (norm_is hr)) w hT)
        have A1 := Lib.hid (ca_is s ⟨#[43, 95]⟩ k1 (by omega) (by decide) (by decide) (ascii_of_all (by decide)) hk1)
        have B1 := Lib.hid (fun w hG => con_is s ⟨#[105, 110, 102]⟩ k2 (by omega) hk2 w hG)
        have B2 := Lib.hid (fun w hG => con_is s ⟨#[110, 97, 110]⟩ k3 (by omega) hk3 w hG)
        clear hG h5 hq hr hrs hno e0 hk1 hk2 hk3
        cases k1 <;> cases k2 <;> cases k3
        all_goals first
          | (exfalso; revert hor; decide)
          | (clear hor
             go_enter Tryz.func7, Tryz.ntmps7
             go_wp2_with (first
               | (go_at_call 15; (with_reducible refine (R1.out _ (HG.out.later hb.out).tab).mono ?_); rintro e w' ⟨rfl, hb'⟩; replace hb := Lib.hid (hb.out.trans (hb'.mono hb.out.size)); clear hb')
               | (go_at_call 12; (with_reducible refine (R2.out _ (HG.out.later hb.out)).mono ?_); rintro e w' ⟨rfl, hb'⟩; replace hb := Lib.hid (hb.out.trans (hb'.mono hb.out.size)); clear hb')
               | (go_at_call 13; (with_reducible refine (P1.out _ (HG.out.later hb.out).tab).mono ?_); rintro e w' ⟨rfl, hb'⟩; replace hb := Lib.hid (hb.out.trans (hb'.mono hb.out.size)); clear hb')
               | (go_at_call 16; (with_reducible refine (A1.out _).mono ?_); rintro e w' ⟨rfl, hb'⟩; replace hb := Lib.hid (hb.out.trans (hb'.mono hb.out.size)); clear hb')
               | (go_at_call 17; (first | (with_reducible refine (B1.out _ (HG.out.later hb.out)).mono ?_) | (with_reducible refine (B2.out _ (HG.out.later hb.out)).mono ?_)); rintro e w' ⟨rfl, hb'⟩; replace hb := Lib.hid (hb.out.trans (hb'.mono hb.out.size)); clear hb')
               | (go_at_call 8; (with_reducible refine (HL.out _ hb.out).mono ?_); rintro e w' ⟨rfl, hb'⟩; replace hb := Lib.hid (hb.out.trans (hb'.mono hb.out.size)); clear hb'))
             go_ret
             exact ⟨rfl, hb.out⟩)
      · have c0 : (c != 0) = true := by simp [hc]
        clear hG h5 hq hr hrs hno e0 hc
        go_enter Tryz.func7, Tryz.ntmps7
        go_wp2_with (first
          | (go_at_call 15; (with_reducible refine (R1.out _ (HG.out.later hb.out).tab).mono ?_); rintro e w' ⟨rfl, hb'⟩; replace hb := Lib.hid (hb.out.trans (hb'.mono hb.out.size)); clear hb')
          | (go_at_call 12; (with_reducible refine (R2.out _ (HG.out.later hb.out)).mono ?_); rintro e w' ⟨rfl, hb'⟩; replace hb := Lib.hid (hb.out.trans (hb'.mono hb.out.size)); clear hb')
          | (go_at_call 8; (with_reducible refine (HL.out _ hb.out).mono ?_); rintro e w' ⟨rfl, hb'⟩; replace hb := Lib.hid (hb.out.trans (hb'.mono hb.out.size)); clear hb'))
        go_ret
        exact ⟨rfl, hb.out⟩
    · have hyes : okW s.data.toList = true := by
        cases h : okW s.data.toList
        · exact absurd (hok.2 h) hk
        · rfl
      have k0 : (k == 3) = false := beq_eq_false_iff_ne.2 hk
      clear hok
      obtain ⟨v, hv⟩ : ∃ b, (s.data.toList.any fun c => (⟨#[46, 101, 69]⟩ : ByteArray).data.toList.contains c) = b := ⟨_, rfl⟩
      have A1 := Lib.hid (ca_is s ⟨#[46, 101, 69]⟩ v (by omega) (by decide) (by decide) (ascii_of_all (by decide)) hv)
      have hv' := (dot_or hyes).trans hv
      clear hv
      cases v
      · obtain ⟨h3, h4⟩ := flt_whole hyes hv'
        rw [hr] at h3
        injection h3 with h6 h7
        obtain ⟨o1, o2⟩ := e0 h6
        subst h7
        obtain ⟨z, hz⟩ := str_ex (readI s.data.toList).1
        obtain ⟨n, hn⟩ : ∃ n, (readI s.data.toList).2 = n := ⟨_, rfl⟩
        have I1 := Lib.hid (fun w hG => intread_is s z n (by omega) (by rw [hz, ← hn]) w hG)
        have n3 : (n != 3) = true := by rw [hn] at h4; simp [h4]
        clear hG h5 hq hr hrs e0 hk hyes hv' h4 h6 hz hn
        go_enter Tryz.func7, Tryz.ntmps7
        go_wp2_with (first
          | (go_at_call 15; (with_reducible refine (R1.out _ (HG.out.later hb.out).tab).mono ?_); rintro e w' ⟨rfl, hb'⟩; replace hb := Lib.hid (hb.out.trans (hb'.mono hb.out.size)); clear hb')
          | (go_at_call 12; (with_reducible refine (R2.out _ (HG.out.later hb.out)).mono ?_); rintro e w' ⟨rfl, hb'⟩; replace hb := Lib.hid (hb.out.trans (hb'.mono hb.out.size)); clear hb')
          | (go_at_call 16; (with_reducible refine (A1.out _).mono ?_); rintro e w' ⟨rfl, hb'⟩; replace hb := Lib.hid (hb.out.trans (hb'.mono hb.out.size)); clear hb')
          | (go_at_call 18; (with_reducible refine (I1.out _ (HG.out.later hb.out)).mono ?_); rintro e w' ⟨rfl, hb'⟩; replace hb := Lib.hid (hb.out.trans (hb'.mono hb.out.size)); clear hb')
          | (go_at_call 8; (with_reducible refine (HL.out _ hb.out).mono ?_); rintro e w' ⟨rfl, hb'⟩; replace hb := Lib.hid (hb.out.trans (hb'.mono hb.out.size)); clear hb'))
        go_ret
        exact ⟨rfl, hb.out⟩
      · have hrq := flt_json hyes hv'
        rw [hr, hq] at hrq
        injection hrq with h6 h7
        obtain rfl : r = q := str_eq h6
        obtain rfl : c = k := h7
        have he : (r.toList == r.toList) = true := beq_self_eq_true _
        have hne : (r.toList != r.toList) = false := by unfold bne; rw [he]; rfl
        have hs0 : 0 < s.size := by
          obtain ⟨f1, _⟩ := ok_facts hyes
          refine Nat.pos_of_ne_zero fun e => f1 ?_
          have : s.data.toList = [] := List.length_eq_zero_iff.1 (by rw [size_list]; exact e)
          rw [this]; rfl
        obtain ⟨M, hM⟩ : ∃ M : ByteArray, ⟨#[43]⟩ ++ s = M := ⟨_, rfl⟩
        have hMl : M.data.toList = 43 :: s.data.toList := by rw [← hM, app_list]; rfl
        have hMs : M.size = s.size + 1 := by
          have h1 : M.data.toList.length = M.size := rfl
          rw [← h1, hMl, List.length_cons, size_list]
        have y1 : ¬ 9223372036854775807 < 1 + s.size := by omega
        have P1 : c = 0 → Hid (∀ w, TAB w → Calls Tryz.prog 13 #[.string r] w fun e w' => e = .returned (.bool true) ∧ Below w.heap.size w w') := fun e w hT => by
          subst e
          exact fis_is r true (by omega) ((is_eq _).trans (norm_is hr)) w hT
        have hm : hdB isMin s.data.toList = (s[0] == 45) := by
          rw [show s.data.toList = s[0] :: s.data.toList.drop 1 from dr_at hs0]; rfl
        by_cases g : s[0] = 45
        · have g1 : (((s[0]'hs0).toNat : Int) == 45) = true := u8_yes g
          have F1 := Lib.hid (fails_yes6 M 3 (by omega) (by rw [hMl]; exact flt_two (by rw [hm, g]; rfl)))
          clear hG h5 hq hr hrs e0 hk hyes hv' h6 hm g hMl hMs
          by_cases hc : c = 0
          · replace P1 := P1 hc
            subst hc
            go_enter Tryz.func7, Tryz.ntmps7
            go_wp2_with (first
              | (go_at_call 15; (with_reducible refine (R1.out _ (HG.out.later hb.out).tab).mono ?_); rintro e w' ⟨rfl, hb'⟩; replace hb := Lib.hid (hb.out.trans (hb'.mono hb.out.size)); clear hb')
              | (go_at_call 12; (with_reducible refine (R2.out _ (HG.out.later hb.out)).mono ?_); rintro e w' ⟨rfl, hb'⟩; replace hb := Lib.hid (hb.out.trans (hb'.mono hb.out.size)); clear hb')
              | (go_at_call 13; (with_reducible refine (P1.out _ (HG.out.later hb.out).tab).mono ?_); rintro e w' ⟨rfl, hb'⟩; replace hb := Lib.hid (hb.out.trans (hb'.mono hb.out.size)); clear hb')
              | (go_at_call 16; (with_reducible refine (A1.out _).mono ?_); rintro e w' ⟨rfl, hb'⟩; replace hb := Lib.hid (hb.out.trans (hb'.mono hb.out.size)); clear hb')
              | (go_at_call 19; (with_reducible refine (F1.out _ (HG.out.later hb.out)).mono ?_); rintro e w' ⟨rfl, hb'⟩; replace hb := Lib.hid (hb.out.trans (hb'.mono hb.out.size)); clear hb')
              | (go_at_call 8; (with_reducible refine (HL.out _ hb.out).mono ?_); rintro e w' ⟨rfl, hb'⟩; replace hb := Lib.hid (hb.out.trans (hb'.mono hb.out.size)); clear hb'))
            go_ret
            exact ⟨rfl, hb.out⟩
          · have c0 : (c == 0) = false := beq_eq_false_iff_ne.2 hc
            clear P1
            go_enter Tryz.func7, Tryz.ntmps7
            go_wp2_with (first
              | (go_at_call 15; (with_reducible refine (R1.out _ (HG.out.later hb.out).tab).mono ?_); rintro e w' ⟨rfl, hb'⟩; replace hb := Lib.hid (hb.out.trans (hb'.mono hb.out.size)); clear hb')
              | (go_at_call 12; (with_reducible refine (R2.out _ (HG.out.later hb.out)).mono ?_); rintro e w' ⟨rfl, hb'⟩; replace hb := Lib.hid (hb.out.trans (hb'.mono hb.out.size)); clear hb')
              | (go_at_call 16; (with_reducible refine (A1.out _).mono ?_); rintro e w' ⟨rfl, hb'⟩; replace hb := Lib.hid (hb.out.trans (hb'.mono hb.out.size)); clear hb')
              | (go_at_call 19; (with_reducible refine (F1.out _ (HG.out.later hb.out)).mono ?_); rintro e w' ⟨rfl, hb'⟩; replace hb := Lib.hid (hb.out.trans (hb'.mono hb.out.size)); clear hb')
              | (go_at_call 8; (with_reducible refine (HL.out _ hb.out).mono ?_); rintro e w' ⟨rfl, hb'⟩; replace hb := Lib.hid (hb.out.trans (hb'.mono hb.out.size)); clear hb'))
            go_ret
            exact ⟨rfl, hb.out⟩
        · have g1 : (((s[0]'hs0).toNat : Int) == 45) = false := u8_no g
          have F1 := Lib.hid (fun w hG => fread_is M r c (by omega) ((flt_eq _).trans (by rw [hMl, flt_plus hyes hv' (by rw [hm]; simpa using g)]; exact hr)) w hG)
          clear hG h5 hq hr hrs e0 hk hyes hv' h6 hm g hMl hMs
          by_cases hc : c = 0
          · replace P1 := P1 hc
            subst hc
            go_enter Tryz.func7, Tryz.ntmps7
            go_wp2_with (first
              | (go_at_call 15; (with_reducible refine (R1.out _ (HG.out.later hb.out).tab).mono ?_); rintro e w' ⟨rfl, hb'⟩; replace hb := Lib.hid (hb.out.trans (hb'.mono hb.out.size)); clear hb')
              | (go_at_call 12; (first | (with_reducible refine (R2.out _ (HG.out.later hb.out)).mono ?_) | (with_reducible refine (F1.out _ (HG.out.later hb.out)).mono ?_)); rintro e w' ⟨rfl, hb'⟩; replace hb := Lib.hid (hb.out.trans (hb'.mono hb.out.size)); clear hb')
              | (go_at_call 13; (with_reducible refine (P1.out _ (HG.out.later hb.out).tab).mono ?_); rintro e w' ⟨rfl, hb'⟩; replace hb := Lib.hid (hb.out.trans (hb'.mono hb.out.size)); clear hb')
              | (go_at_call 16; (with_reducible refine (A1.out _).mono ?_); rintro e w' ⟨rfl, hb'⟩; replace hb := Lib.hid (hb.out.trans (hb'.mono hb.out.size)); clear hb')
              | (go_at_call 8; (with_reducible refine (HL.out _ hb.out).mono ?_); rintro e w' ⟨rfl, hb'⟩; replace hb := Lib.hid (hb.out.trans (hb'.mono hb.out.size)); clear hb'))
            go_ret
            exact ⟨by first | rfl | exact ret_bool (by simp), hb.out⟩
          · have c0 : (c == 0) = false := beq_eq_false_iff_ne.2 hc
            clear P1
            go_enter Tryz.func7, Tryz.ntmps7
            go_wp2_with (first
              | (go_at_call 15; (with_reducible refine (R1.out _ (HG.out.later hb.out).tab).mono ?_); rintro e w' ⟨rfl, hb'⟩; replace hb := Lib.hid (hb.out.trans (hb'.mono hb.out.size)); clear hb')
              | (go_at_call 12; (first | (with_reducible refine (R2.out _ (HG.out.later hb.out)).mono ?_) | (with_reducible refine (F1.out _ (HG.out.later hb.out)).mono ?_)); rintro e w' ⟨rfl, hb'⟩; replace hb := Lib.hid (hb.out.trans (hb'.mono hb.out.size)); clear hb')
              | (go_at_call 16; (with_reducible refine (A1.out _).mono ?_); rintro e w' ⟨rfl, hb'⟩; replace hb := Lib.hid (hb.out.trans (hb'.mono hb.out.size)); clear hb')
              | (go_at_call 8; (with_reducible refine (HL.out _ hb.out).mono ?_); rintro e w' ⟨rfl, hb'⟩; replace hb := Lib.hid (hb.out.trans (hb'.mono hb.out.size)); clear hb'))
            go_ret
            exact ⟨by first | rfl | exact ret_bool (by simp), hb.out⟩

end Go.Proofs.YtncldnghhpdolaaGreatDoor
