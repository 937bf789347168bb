/- Walks over the reference of chapter 02: Read; no statement of the seat is proved here. -/
import Derived.Test.YtncldnghhpdolaaGreatDoorDcRP
namespace Go.Proofs.YtncldnghhpdolaaGreatDoor
open Go.RowKit

theorem exp_in (l : List UInt8) : inB (expW (sW l)) = decide (natV 0 (powerL l) ≤ 1000000000) := by
  unfold inB expW
  show decide (-1000000000 ≤ (if signL l = [45] then -((natV 0 (powerL l) : Nat) : Int) else ((natV 0 (powerL l) : Nat) : Int)) ∧ (if signL l = [45] then -((natV 0 (powerL l) : Nat) : Int) else ((natV 0 (powerL l) : Nat) : Int)) ≤ 1000000000) = _
  rw [Bool.eq_iff_iff, decide_eq_true_iff, decide_eq_true_iff]
  split <;> omega
/-- A text's parts, cut out of it. -/
theorem Pl.whole {s : ByteArray} {q0 q1 q2 q3 q4 q5 q6 : Nat} (h : Pl s q0 q1 q2 q3 q4 q5 q6) : (s.extract q0 q1).data.toList = wholeL s.data.toList := by
  rw [ext_list, ← h.d0, h.e1, Nat.add_sub_cancel_left]; exact take_tw _ _
theorem Pl.part {s : ByteArray} {q0 q1 q2 q3 q4 q5 q6 : Nat} (h : Pl s q0 q1 q2 q3 q4 q5 q6) : (s.extract q2 q3).data.toList = partL s.data.toList := by
  rw [ext_list, ← h.d2, h.e3, Nat.add_sub_cancel_left]
  unfold partL; split
  · exact take_tw _ _
  · simp
theorem Pl.power {s : ByteArray} {q0 q1 q2 q3 q4 q5 q6 : Nat} (h : Pl s q0 q1 q2 q3 q4 q5 q6) : (s.data.toList.drop q5).take (q6 - q5) = powerL s.data.toList := by
  rw [← h.d5, h.e6, Nat.add_sub_cancel_left]
  unfold powerL; split
  · exact take_tw _ _
  · simp
theorem Pl.sign {s : ByteArray} {q0 q1 q2 q3 q4 q5 q6 : Nat} (h : Pl s q0 q1 q2 q3 q4 q5 q6) (hq : q5 < q6) : 0 < q5 ∧ ∀ k : q5 - 1 < s.size, (s[q5 - 1]'k == 45) = decide (signL s.data.toList = [45]) := by
  have hra : hdB isExp (l4 s.data.toList) = true := by
    cases e : hdB isExp (l4 s.data.toList)
    · have := h.e6; rw [powerL, e] at this; simp at this; omega
    · rfl
  have h4 := h.e4
  rw [one, hra] at h4
  have h4 : q4 = q3 + 1 := by simpa using h4
  have h5 := h.e5
  refine ⟨by omega, fun k => ?_⟩
  have hs : signL s.data.toList = (l5 s.data.toList).take (one isSig (l5 s.data.toList)) := by rw [signL, if_pos hra]
  cases e : hdB isSig (l5 s.data.toList)
  · have hs0 : signL s.data.toList = [] := by rw [hs, one, e]; rfl
    rw [hs0] at h5 ⊢
    have h5 : q5 = q4 := by simpa using h5
    obtain ⟨k3, hk⟩ := hd_yes h.d3 hra
    have e3 : q5 - 1 = q3 := by omega
    simp only [e3]
    have hx : ¬ (s[q3]'k3 == 45) = true := by
      intro q
      rw [beq_iff_eq] at q
      rw [q] at hk; exact absurd hk (by decide)
    simp at hx
    simp [hx]
  · obtain ⟨k4, hk⟩ := hd_yes h.d4 e
    have hs1 : signL s.data.toList = [s[q4]'k4] := by
      rw [hs, one, e, h.d4, List.drop_eq_getElem_cons (show q4 < s.data.toList.length from k4)]; rfl
    rw [hs1] at h5 ⊢
    have h5 : q5 = q4 + 1 := by simpa using h5
    have e3 : q5 - 1 = q4 := by omega
    simp only [e3]
    rw [Bool.eq_iff_iff]; simp
theorem Pl.sign0 {s : ByteArray} {q0 q1 q2 q3 q4 q5 q6 : Nat} (h : Pl s q0 q1 q2 q3 q4 q5 q6) (hok : okW s.data.toList = true) (hq : ¬ q5 < q6) : decide (signL s.data.toList = [45]) = false := by
  have hp : powerL s.data.toList = [] := List.length_eq_zero_iff.1 (by have := h.e6; omega)
  have hra : hdB isExp (l4 s.data.toList) = false := by
    unfold okW at hok
    rw [hp] at hok
    simp only [Bool.and_eq_true] at hok
    have := hok.2.2
    simpa using this
  rw [signL, hra, if_neg (by simp)]; decide
theorem power_of {s : ByteArray} {q0 q1 q2 q3 q4 q5 q6 : Nat} (h : Pl s q0 q1 q2 q3 q4 q5 q6) (hs : s.size ≤ 549755813888) (hok : okW s.data.toList = true) (b : Bool) (hb : inB (expW (sW s.data.toList)) = b) (w : World) :
    Calls Tryz.prog 50 #[.string s, .agg #[.int .i64 (q0 : Int), .int .i64 (q1 : Int), .int .i64 (q2 : Int), .int .i64 (q3 : Int), .int .i64 (q5 : Int), .int .i64 (q6 : Int)]] w fun e w' => e = .returned (.tuple #[.int .i64 (if b then expW (sW s.data.toList) else 0), .bool b]) ∧ Below w.heap.size w w' := by
  refine power_is s q0 q1 q2 q3 q5 q6 hs (by rw [h.e6]; omega) h.le (powerL s.data.toList) h.power (power_dg _) (decide (signL s.data.toList = [45])) h.sign (h.sign0 hok) _ b (by rw [← hb, exp_in]) ?_ w
  cases b
  · rfl
  · rw [if_pos rfl, if_pos rfl]
    show (if signL s.data.toList = [45] then _ else _) = _
    by_cases q : signL s.data.toList = [45]
    · rw [if_pos q, decide_eq_true q, if_pos rfl]; rfl
    · rw [if_neg q, decide_eq_false q, if_neg (by simp)]; rfl

theorem lstrip_yes {l : List UInt8} (h : hdB (· == 48) l = true) : lstrip l = lstrip (l.drop 1) := by
  cases l with
  | nil => cases h
  | cons a t => unfold lstrip; rw [List.dropWhile_cons, if_pos (show (a == 48) = true from h)]; rfl
theorem lstrip_no {l : List UInt8} (h : hdB (· == 48) l = false) : lstrip l = l := by
  cases l with
  | nil => rfl
  | cons a t => unfold lstrip; rw [List.dropWhile_cons, if_neg (by simpa [hdB] using h)]
theorem rep_snoc (l : List UInt8) (j : Nat) (h : l.getLast? = some 48) : l ++ List.replicate j 48 = l.dropLast ++ List.replicate (j + 1) 48 := by
  have hn : l ≠ [] := by intro e; rw [e] at h; cases h
  have hl : l.getLast hn = 48 := by rw [List.getLast?_eq_some_getLast hn] at h; exact Option.some.inj h
  conv => lhs; rw [← List.dropLast_concat_getLast hn, hl]
  rw [List.append_assoc, List.replicate_succ]; rfl
theorem rstrip_rep {l : List UInt8} (j : Nat) (h : l.getLast? ≠ some 48) : rstrip (l ++ List.replicate j 48) = l := by
  rw [rstrip_app, rstrip_zeros, if_pos rfl, rstrip_self h]
theorem last_at {s : ByteArray} (h : 0 < s.size) : s.data.toList.getLast? = some (s[s.size - 1]'(by omega)) := by
  rw [List.getLast?_eq_getElem?, size_list, List.getElem?_eq_getElem (by rw [size_list]; omega)]; rfl
theorem init_at {s : ByteArray} : (s.extract 0 (s.size - 1)).data.toList = s.data.toList.dropLast := by
  rw [ext_list, List.drop_zero, Nat.sub_zero, List.dropLast_eq_take, size_list]
theorem tail_at {s : ByteArray} : (s.extract 1 s.size).data.toList = s.data.toList.drop 1 := ext_end s 1

def strSize : Value → Nat
  | .string s => s.size
  | _ => 0
/-- Six cells, carried over. -/
theorem keep6 {w w' : World} {a b c d e f : Value} {T : TypeId} (hb : Below (w.alloc (.cells #[a, b, c, d, e, f] T)).heap.size (w.alloc (.cells #[a, b, c, d, e, f] T)) w') :
    w'.cell? ⟨w.heap.size, 0, none⟩ = some a ∧ w'.cell? ⟨w.heap.size, 1, none⟩ = some b ∧ w'.cell? ⟨w.heap.size, 2, none⟩ = some c ∧ w'.cell? ⟨w.heap.size, 3, none⟩ = some d := by
  have h := blk_later (heap_new1 w (.cells #[a, b, c, d, e, f] T)) hb (by simp)
  exact ⟨blk_cell h 0, blk_cell h 1, blk_cell h 2, blk_cell h 3⟩

set_option maxRecDepth 100000 in
set_option maxHeartbeats 8000000 in
theorem rread_is (s r : ByteArray) (c : Int) (hs : s.size ≤ 549755813888) (hr : readD s.data.toList = (r.data.toList, c)) (w : World) :
    Calls Tryz.prog 22 #[.string s] w fun x w' => x = .returned (.tuple #[.string r, .int .i64 c]) ∧ Below w.heap.size w w' := by
  obtain ⟨q0, q1, q2, q3, q4, q5, q6, hP⟩ := Pl.ex s
  cases hok : okW s.data.toList
  · have hx : r.data.toList = [] ∧ c = 3 := by
      rw [readD, hok] at hr; injection hr with h1 h2; exact ⟨h1.symm, h2.symm⟩
    obtain ⟨hx, rfl⟩ := hx
    obtain rfl := str_nil hx
    have HS : Hid (∀ w, Calls Tryz.prog 49 #[.string s] w fun e w' => ∃ x0 x1 x2 x3 x4 x5 : Int, e = .returned (.tuple #[.agg #[.int .i64 x0, .int .i64 x1, .int .i64 x2, .int .i64 x3, .int .i64 x4, .int .i64 x5], .bool false]) ∧ Below w.heap.size w w') := fun w =>
      (is_is s q0 q1 q2 q3 q4 q5 q6 hs hP w).mono fun e w' ⟨x0, x1, x2, x3, x4, x5, h1, _, h3⟩ => ⟨x0, x1, x2, x3, x4, x5, by rw [h1, hok], h3⟩
    clear hr hx hok hP
    go_enter Tryz.func22, Tryz.ntmps22
    go_wp2_with (go_at_call 49; (with_reducible refine (HS.out _).mono ?_); rintro x w1 ⟨x0, x1, x2, x3, x4, x5, rfl, hb1⟩; have hz1 := hb1.size)
    go_ret2
    exact ⟨rfl, hb1.alloc hz1 _⟩
  · have HS : Hid (∀ w, Calls Tryz.prog 49 #[.string s] w fun e w' => e = .returned (.tuple #[.agg #[.int .i64 (q0 : Int), .int .i64 (q1 : Int), .int .i64 (q2 : Int), .int .i64 (q3 : Int), .int .i64 (q5 : Int), .int .i64 (q6 : Int)], .bool true]) ∧ Below w.heap.size w w') := fun w =>
      (is_is s q0 q1 q2 q3 q4 q5 q6 hs hP w).mono fun e w' ⟨x0, x1, x2, x3, x4, x5, h1, h2, h3⟩ => by
        obtain ⟨rfl, rfl, rfl, rfl, rfl, rfl⟩ := h2 hok
        exact ⟨by rw [h1, hok], h3⟩
    obtain ⟨b, hb⟩ : ∃ b, inB (expW (sW s.data.toList)) = b := ⟨_, rfl⟩
    have HW := Lib.hid (fun w => power_of hP hs hok b hb w)
    cases b
    · have hx : r.data.toList = [] ∧ c = 7 := by
        rw [readD, hok, goodL, hb] at hr; injection hr with h1 h2; exact ⟨h1.symm, h2.symm⟩
      obtain ⟨hx, rfl⟩ := hx
      obtain rfl := str_nil hx
      rw [if_neg (by simp)] at HW
      clear hr hx hok hP hb
      go_enter Tryz.func22, Tryz.ntmps22
      go_wp2_with (first
        | (go_at_call 49; (with_reducible refine (HS.out _).mono ?_); rintro x w1 ⟨rfl, hb1⟩; have hz1 := hb1.size)
        | (go_at_call 50; (with_reducible refine (HW.out _).mono ?_); rintro x w2 ⟨rfl, hb2⟩))
      go_ret2
      exact ⟨rfl, (hb1.alloc hz1 _).trans (hb2.mono (by simp; omega))⟩
    · rw [if_pos rfl] at HW
      obtain ⟨n, hn⟩ : ∃ n, expW (sW s.data.toList) = n := ⟨_, rfl⟩
      have hnb := inB_t.1 hb
      rw [hn] at HW hnb
      obtain ⟨hn0, hn1⟩ := hnb
      have z1 : q0 ≤ q1 := by rw [hP.e1]; omega
      have z2 : q1 ≤ q2 := by rw [hP.e2]; omega
      have z3 : q2 ≤ q3 := by rw [hP.e3]; omega
      have z4 : q3 ≤ s.size := by have := hP.e4; have := hP.e5; have := hP.e6; have := hP.le; omega
      have HP := Lib.hid hP
      have HOK := Lib.hid hok
      have HG := Lib.hid hb
      have HN := Lib.hid hn
      have HRR := Lib.hid hr
      clear hP hok hb hn hr
      go_enter Tryz.func22, Tryz.ntmps22
      go_upto_region 7 with (first
        | (go_at_call 49; (with_reducible refine (HS.out _).mono ?_); rintro x w1 ⟨rfl, hb1⟩; have hz1 := hb1.size)
        | (go_at_call 50; (with_reducible refine (HW.out _).mono ?_); rintro x w2 ⟨rfl, hb2⟩; obtain ⟨k0, k1, k2, k3⟩ := keep6 hb2; have HB : Hid (Below w.heap.size w w2) := (hb1.alloc hz1 _).trans (hb2.mono (by simp; omega))))
      go_quiet (fail)
      go_wp2
      obtain ⟨ds, hds⟩ : ∃ ds : ByteArray, s.extract q0 q1 ++ s.extract q2 q3 = ds := ⟨_, rfl⟩
      have hdl : ds.size ≤ 1099511627776 := by
        rw [← hds, ByteArray.size_append, ByteArray.size_extract, ByteArray.size_extract]; omega
      rw [hds]
      have HDS : Hid (ds.data.toList = wholeL s.data.toList ++ partL s.data.toList) := by
        show _ = _
        rw [← hds, app_list, HP.out.whole, HP.out.part]
      clear hds k0 k1 k2 k3
      obtain ⟨n1, hn1'⟩ : ∃ n1, n1 = n - ((q3 : Int) - q2) := ⟨_, rfl⟩
      have hb1 : -1099511627776 ≤ n1 ∧ n1 ≤ 1099511627776 := by omega
      obtain ⟨y0, y1⟩ := hb1
      rw [← hn1']
      have HN1 := Lib.hid hn1'
      clear hn1'
      go_loop [6, 7] (fun n d => ∃ (D : ByteArray) (j : Nat), n = .int .i64 (n1 + j) ∧ d = .string D ∧ D.size + j ≤ 1099511627776 ∧ Hid (ds.data.toList = D.data.toList ++ List.replicate j 48)) (fun _ d => strSize d)
      case atStart => exact ⟨ds, 0, by simp, rfl, by omega, by show _ = _; simp⟩
      case round =>
        obtain ⟨D, j, rfl, rfl, hDj, hr⟩ := hrel
        by_cases hgo : ∃ h : 0 < D.size, (D[D.size - 1]'(by omega)).toNat = 48
        · obtain ⟨h0, h48⟩ := hgo
          have hl48 : D.data.toList.getLast? = some 48 := by
            rw [last_at h0, UInt8.toNat_inj.1 (show (D[D.size - 1]'(by omega)).toNat = (48 : UInt8).toNat from h48)]
          obtain ⟨k, hk⟩ : ∃ k, D.size = k + 1 := ⟨D.size - 1, by omega⟩
          have g1 : (((D[k]'(by omega)).toNat : Int) == 48) = true := by
            have e : D[D.size - 1]'(by omega) = D[k]'(by omega) := by congr 1; omega
            rw [e] at h48; simp [h48]
          have HD2 : Hid (ds.data.toList = (D.extract 0 k).data.toList ++ List.replicate (j + 1) 48) := by
            show _ = _
            have e : (D.extract 0 k).data.toList = D.data.toList.dropLast := by
              rw [← init_at, show D.size - 1 = k by omega]
            rw [e, hr.out, rep_snoc _ _ hl48]
          clear h48 hl48 hr
          go_wp2
          refine ⟨⟨D.extract 0 k, j + 1, by go_num, rfl, by rw [ByteArray.size_extract]; omega, HD2⟩, ?_⟩
          simp only [strSize, ByteArray.size_extract]; omega
        · have hlast : D.data.toList.getLast? ≠ some 48 := by
            intro q
            rcases Nat.eq_zero_or_pos D.size with h0 | h0
            · have : D.data.toList = [] := List.length_eq_zero_iff.1 (by rw [size_list]; exact h0)
              rw [this] at q; cases q
            · rw [last_at h0] at q
              exact hgo ⟨h0, by rw [Option.some.inj q]; rfl⟩
          have hE1 : rstrip ds.data.toList = D.data.toList := by rw [hr.out]; exact rstrip_rep j hlast
          have hE2 : ds.data.toList.length = D.data.toList.length + j := by rw [hr.out, List.length_append, List.length_replicate]
          have HE : Hid (rstrip ds.data.toList = D.data.toList ∧ ds.data.toList.length = D.data.toList.length + j) := ⟨hE1, hE2⟩
          have hx : D.size = 0 ∨ ∃ k, ∃ hk : D.size = k + 1, (((D[k]'(by omega)).toNat : Int) == 48) = false := by
            rcases Nat.eq_zero_or_pos D.size with h0 | h0
            · exact .inl h0
            · refine .inr ⟨D.size - 1, by omega, ?_⟩
              rw [beq_eq_false_iff_ne]
              intro q
              exact hgo ⟨h0, by omega⟩
          clear hlast hE1 hE2 hr hgo
          rcases hx with h0 | ⟨k, hk, g1⟩
          rotate_left
          all_goals (
            go_wp2
            go_loop [7] (fun d => ∃ D2 : ByteArray, d = .string D2 ∧ D2.size ≤ D.size ∧ Hid (lstrip D2.data.toList = lstrip (rstrip ds.data.toList))) (fun d => strSize d)
            case atStart => exact ⟨D, rfl, by omega, by show _ = _; rw [HE.out.1]⟩
            case round =>
              obtain ⟨D2, rfl, hD2, hr2⟩ := hrel
              by_cases hgo : ∃ h : 0 < D2.size, (D2[0]'h).toNat = 48
              · obtain ⟨h0', h48⟩ := hgo
                have hh : hdB (· == 48) D2.data.toList = true := by
                  rw [← List.drop_zero (l := D2.data.toList), List.drop_eq_getElem_cons (show 0 < D2.data.toList.length from h0')]
                  show (D2[0]'h0' == 48) = true
                  rw [beq_iff_eq]; exact UInt8.toNat_inj.1 h48
                have g2 : (((D2[0]'h0').toNat : Int) == 48) = true := by simp [h48]
                have HD3 : Hid (lstrip (D2.extract 1 D2.size).data.toList = lstrip (rstrip ds.data.toList)) := by
                  show _ = _
                  rw [tail_at, ← lstrip_yes hh]; exact hr2.out
                clear h48 hh hr2
                go_wp2
                refine ⟨⟨D2.extract 1 D2.size, rfl, by rw [ByteArray.size_extract]; omega, HD3⟩, ?_⟩
                simp only [strSize, ByteArray.size_extract]; omega
              · have hhd : hdB (· == 48) D2.data.toList = false := by
                  cases q : hdB (· == 48) D2.data.toList
                  · rfl
                  · exfalso
                    obtain ⟨h1, h2⟩ := hd_yes (q := 0) (s := D2) rfl q
                    exact hgo ⟨h1, by rw [beq_iff_eq.1 h2]; rfl⟩
                have hT : D2.data.toList = rstrip (lstrip ds.data.toList) := by
                  rw [← (strips _).1, ← hr2.out, lstrip_no hhd]
                have hok := HOK.out
                have hb := HG.out
                have hn := HN.out
                have hx2 : D2.size = 0 ∨ ∃ hk : 0 < D2.size, (((D2[0]'hk).toNat : Int) == 48) = false := by
                  rcases Nat.eq_zero_or_pos D2.size with h0 | h0
                  · exact .inl h0
                  · refine .inr ⟨h0, ?_⟩
                    rw [beq_eq_false_iff_ne]
                    intro q
                    exact hgo ⟨h0, by omega⟩
                clear hgo hhd hr2
                rcases hx2 with h2 | ⟨h2, g2⟩
                · have hD0 : D2 = ⟨#[]⟩ := str_nil (List.length_eq_zero_iff.1 (by rw [size_list]; exact h2))
                  subst hD0
                  have hz : dW (sW s.data.toList) = .zero := by
                    show normalD _ (wholeL s.data.toList ++ partL s.data.toList) _ = _
                    rw [← HDS.out, normalD, if_pos hT.symm]
                  have hres := HRR.out
                  rw [readD, hok, goodL, hb, hz] at hres
                  injection hres with r1 r2
                  obtain rfl := str_is r1.symm
                  obtain rfl : c = 0 := r2.symm
                  clear hok hb hn hz hT r1 r2
                  go_wp2
                  go_ret2
                  exact ⟨rfl, below_drewN HB.out _⟩
                · have hTne : rstrip (lstrip ds.data.toList) ≠ [] := by
                    rw [← hT]; intro q
                    have : D2.data.toList.length = 0 := by rw [q]; rfl
                    rw [size_list] at this; omega
                  have hcnt := (strips ds.data.toList).2 hTne
                  have hdW : dW (sW s.data.toList) = ⟨hdB isMin s.data.toList, D2.data.toList, n1 + j⟩ := by
                    show normalD _ (wholeL s.data.toList ++ partL s.data.toList) _ = _
                    rw [← HDS.out, normalD, if_neg hTne, ← hT, hn]
                    congr 1
                    have e1 := HN1.out
                    have e2 := HE.out.2
                    have e3 := HP.out.e3
                    have e4 := rstrip_len (lstrip ds.data.toList)
                    rw [HE.out.1, ← hT] at hcnt
                    rw [← hT] at e4
                    show n - ((partL s.data.toList).length : Int) + _ - _ = _
                    omega
                  obtain ⟨f1, f2⟩ := full_of (s := D2) (by rw [hT]; exact hTne)
                  have hres := HRR.out
                  obtain ⟨ie, hie⟩ : ∃ ie, inB (n1 + j) = ie := ⟨_, rfl⟩
                  rw [readD, hok, goodL, hb, hdW] at hres
                  simp only [hie, Bool.true_and] at hres
                  cases ie
                  · injection hres with r1 r2
                    obtain rfl := str_nil r1.symm
                    obtain rfl : c = 7 := r2.symm
                    have hcase : 1000000000 < n1 + j ∨ (¬ 1000000000 < n1 + j ∧ n1 + j < -1000000000) := by
                      have := of_decide_eq_false hie
                      omega
                    clear hok hb hn hdW hTne hT r1 r2 hcnt hie
                    rcases hcase with p1 | ⟨p1, p2⟩
                    · go_wp2
                      go_ret2
                      exact ⟨rfl, below_drewN HB.out _⟩
                    · go_wp2
                      go_ret2
                      exact ⟨rfl, below_drewN HB.out _⟩
                  · injection hres with r1 r2
                    obtain rfl : c = 0 := r2.symm
                    have hin := inB_t.1 hie
                    obtain ⟨hi0, hi1⟩ := hin
                    have hdz : (⟨hdB isMin s.data.toList, D2.data.toList, n1 + j⟩ : Dm) ≠ .zero := by
                      intro q
                      injection q with _ q2 _
                      have h8 := lstrip_head ds.data.toList
                      have h9 := rstrip_head hTne
                      rw [← hT, q2] at h9
                      rw [← h9] at h8
                      exact h8 rfl
                    rw [Dm.text, if_neg hdz] at r1
                    obtain ⟨u, hu⟩ := str_ex (Lib.itoa (n1 + j))
                    have husz : u.size ≤ 21 := by
                      rw [← size_list, hu]; exact Lib.itoa_length_le _ (by omega) (by omega)
                    have CI := Lib.hid (fun w => ritoa_is (n1 + j) (by omega) (by omega) u hu w)
                    have hs0 : 0 < s.size := by
                      have e1 := HP.out.e1
                      have : 0 < (wholeL s.data.toList).length := by
                        rw [List.length_pos_iff]
                        intro q
                        have := okW_bad hok
                        rw [q] at this; exact absurd this (by decide)
                      omega
                    obtain ⟨m, hm⟩ : ∃ m, hdB isMin s.data.toList = m := ⟨_, rfl⟩
                    rw [hm] at r1
                    cases m
                    · have g3 : (((s[0]'hs0).toNat : Int) == 45) = false := by
                        rcases hd_not (q := 0) (s := s) rfl hm with h | ⟨h, hh⟩
                        · omega
                        · exact (u8_beq _ 45).trans hh
                      have HR : Hid (r.data.toList = (D2 ++ ⟨#[101]⟩ ++ u : ByteArray).data.toList) := by
                        show _ = _
                        rw [← r1, app_list, app_list, hu]; simp
                      clear hok hb hn hdW hTne hT r1 r2 hcnt hie hdz hu hm
                      go_wp2_with (go_at_call 51; (with_reducible refine (CI.out _).mono ?_); rintro e w3 ⟨rfl, hb3⟩)
                      all_goals (
                        go_ret2
                        rw [str_of HR.out]
                        exact ⟨rfl, (below_drewN HB.out _).trans (hb3.mono (below_drewN HB.out _).size)⟩)
                    · have g3 : (((s[0]'hs0).toNat : Int) == 45) = true := by
                        obtain ⟨h, hh⟩ := hd_yes (q := 0) (s := s) rfl hm
                        exact (u8_beq _ 45).trans hh
                      have HR : Hid (r.data.toList = (⟨#[45]⟩ ++ D2 ++ ⟨#[101]⟩ ++ u : ByteArray).data.toList) := by
                        show _ = _
                        rw [← r1, app_list, app_list, app_list, hu]; simp
                      clear hok hb hn hdW hTne hT r1 r2 hcnt hie hdz hu hm
                      go_wp2_with (go_at_call 51; (with_reducible refine (CI.out _).mono ?_); rintro e w3 ⟨rfl, hb3⟩)
                      all_goals (
                        go_ret2
                        rw [str_of HR.out]
                        exact ⟨rfl, (below_drewN HB.out _).trans (hb3.mono (below_drewN HB.out _).size)⟩))

end Go.Proofs.YtncldnghhpdolaaGreatDoor
