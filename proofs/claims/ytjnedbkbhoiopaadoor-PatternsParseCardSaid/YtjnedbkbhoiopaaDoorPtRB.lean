/- The walk over the reference's word, and Word; no statement of the seat is proved here. -/
import Derived.Test.YtjnedbkbhoiopaaDoorPtRA
import Derived.Test.YtjnedbkbhoiopaaDoorTail2
namespace Go.Proofs.YtjnedbkbhoiopaaDoor
open Go.RowKit

/-- What the reference's word answers. -/
def rwordV (at_ : Nat) (o : ByteArray) (n : Nat) : Option Nat → Value
  | none => .tuple #[.string o, .int .i64 ((at_ + n : Nat) : Int), .int .i64 (-1)]
  | some j => .tuple #[.string ⟨#[]⟩, .int .i64 0, .int .i64 ((at_ + j : Nat) : Int)]

set_option maxRecDepth 100000 in
set_option maxHeartbeats 8000000 in
theorem rword_is (s : ByteArray) (i : Nat) (hi : i ≤ s.size) (hs : s.size ≤ 1000000) (o : List UInt8) (n : Nat) (b : Option Nat) (hR : wordL (s.data.toList.drop i) = (o, n, b)) (w : World) :
    Calls Tryd.prog 34 #[.string s, .int .i64 (i : Int)] w fun e w' => e = .returned (rwordV i ⟨o.toArray⟩ n b) ∧ Below w.heap.size w w' := by
  have HR := Lib.hid hR; clear hR
  obtain ⟨i0, hi0, hz0, hz1, hz2⟩ := info_parts byte_info
  have Hi := Lib.hid hi0; have Hz0 := Lib.hid hz0; have Hz1 := Lib.hid hz1; have Hz2 := Lib.hid hz2
  clear hi0 hz0 hz1 hz2
  go_enter Tryd.func34, Tryd.ntmps34
  go_wp2
  go_loopg [1, 7] (s.size - i) (fun g s1 s7 wr => ∃ (k : Nat) (q : List UInt8) (A : Option Addr) (c : Nat), s1 = .int .i64 ((i + k : Nat) : Int) ∧ s7 = .slice A q.length c ∧ i + k ≤ s.size ∧ q.length ≤ k ∧ Hid (g = s.size - (i + k)) ∧
    Hid (wr.ownsRow w.heap.size 5 1 (.slice A q.length c) q.length (byteVals q)) ∧ Hid (wApp q k (wordL (s.data.toList.drop (i + k))) = (o, n, b)) ∧ Hid (Below w.heap.size w wr))
  case atStart => exact ⟨0, [], none, 0, rfl, rfl, by omega, by simp, by show _ = _; omega, World.ownsRow_nil _ _ _ _, by
    show _ = _
    rw [Nat.add_zero, wApp_zero, HR.out], Below.refl _ _⟩
  case round =>
    obtain ⟨k, q, A, c, rfl, rfl, hk, hq, hg, HO, HW, HB⟩ := hrel
    have hbs := HB.out.size
    by_cases hlt : i + k < s.size
    · have hd : s.data.toList.drop (i + k) = s[i + k] :: s.data.toList.drop (i + k + 1) := List.drop_eq_getElem_cons (l := s.data.toList) (i := i + k) hlt
      by_cases h37 : s[i + k] = 37
      · have b37 : ((s[i + k].toNat : Int) == 37) = true := by rw [h37]; rfl
        by_cases p1 : i + k + 1 < s.size
        · have hd1 : s.data.toList.drop (i + k + 1) = s[i + k + 1] :: s.data.toList.drop (i + k + 2) := List.drop_eq_getElem_cons (l := s.data.toList) (i := i + k + 1) p1
          have D1 := Lib.hid (fun w => rdigit_is s[i + k + 1] w)
          have hx1 := digR_lt s[i + k + 1]
          by_cases ha : hexd s[i + k + 1] = true
          · have n1 : ¬ digR s[i + k + 1] < 0 := by rw [ha] at hx1; simpa using hx1
            by_cases p2 : i + k + 2 < s.size
            · have hd2 : s.data.toList.drop (i + k + 2) = s[i + k + 2] :: s.data.toList.drop (i + k + 3) := List.drop_eq_getElem_cons (l := s.data.toList) (i := i + k + 2) p2
              have D2 := Lib.hid (fun w => rdigit_is s[i + k + 2] w)
              have hx2 := digR_lt s[i + k + 2]
              by_cases hb : hexd s[i + k + 2] = true
              · have n2 : ¬ digR s[i + k + 2] < 0 := by rw [hb] at hx2; simpa using hx2
                have hR1 : Hid (wApp (q ++ [UInt8.ofNat (hexv s[i + k + 1] * 16 + hexv s[i + k + 2])]) (k + 3) (wordL (s.data.toList.drop (i + k + 3))) = (o, n, b)) := by
                  show _ = _
                  rw [← HW.out, hd, h37, hd1, hd2, wordL_hex ha hb, wApp_app]
                obtain ⟨va, vb, la, lb⟩ := digR_two _ _ ha hb
                obtain ⟨x, hx⟩ : ∃ x : UInt8, x = UInt8.ofNat (hexv s[i + k + 1] * 16 + hexv s[i + k + 2]) := ⟨_, rfl⟩
                have hxt : (x.toNat : Int) = 16 * (hexv s[i + k + 1] : Int) + (hexv s[i + k + 2] : Int) := by
                  rw [hx, UInt8.toNat_ofNat', Nat.mod_eq_of_lt (by omega)]; omega
                rw [← hx] at hR1
                have cv0 : IntKind.i64.wrap (16 * digR s[i + k + 1]) = 16 * digR s[i + k + 1] := IntWalk.i64_in _ (by omega)
                have cv1 : IntKind.i64.wrap (16 * digR s[i + k + 1] + digR s[i + k + 2]) = (x.toNat : Int) := by rw [IntWalk.i64_in _ (by omega)]; omega
                have hxl := x.toNat_lt
                have cv2 : IntKind.u8.wrap (x.toNat : Int) = (x.toNat : Int) := by rw [IntKind.wrap_u8]; omega
                have C1 : Hid (∀ m : Later wr, Calls Tryd.prog 54 #[.int .u8 (s[i + k + 1].toNat : Int)] m.at_ fun e w'' => e = .returned (.int .i64 (digR s[i + k + 1])) ∧ ∃ m' : Later wr, w'' = m'.at_) := fun m => (D1.out m.at_).mono fun e w' h => ⟨h.1, m, h.2.symm⟩
                have C2 : Hid (∀ m : Later wr, Calls Tryd.prog 54 #[.int .u8 (s[i + k + 2].toNat : Int)] m.at_ fun e w'' => e = .returned (.int .i64 (digR s[i + k + 2])) ∧ ∃ m' : Later wr, w'' = m'.at_) := fun m => (D2.out m.at_).mono fun e w' h => ⟨h.1, m, h.2.symm⟩
                have j1 : 0 ≤ (i : Int) + (k : Int) + 1 := by omega
                have j2 : 0 ≤ (i : Int) + (k : Int) + 2 := by omega
                have wj1 : IntKind.i64.wrap ((i : Int) + (k : Int) + 1) = (i : Int) + (k : Int) + 1 := IntWalk.i64_in _ (by omega)
                have wj2 : IntKind.i64.wrap ((i : Int) + (k : Int) + 2) = (i : Int) + (k : Int) + 2 := IntWalk.i64_in _ (by omega)
                clear hx va vb la lb hd hd1 hd2 ha hb h37 hx1 hx2 hxt
                go_wp2_with (go_at_call 54; (first | (with_reducible refine (D1.out _).mono ?_) | (with_reducible refine (D2.out _).mono ?_)); rintro x w' ⟨rfl, rfl⟩)
                refine wp_region_any (by kernel_rfl) ?_
                refine wpAny_mid 0 1 16 rfl (by decide) (by kernel_rfl) (by kernel_rfl) (fun _ _ _ _ _ h => h) ?_
                simp only [List.drop_zero, List.take_succ_cons, List.take_zero]
                repeat (go_big_quiet_step (fail))
                refine wpQuiet_nil ?_
                refine wpAny_head 1 14 3 wr rfl (by kernel_rfl) (Below.refl _ _).drew ?_
                simp only [List.drop_succ_cons, List.drop_zero, List.take_succ_cons, List.take_zero]
                repeat (go_big_quiet_step ((go_at_call 54; (first | (with_reducible exact C1.out _) | (with_reducible exact C2.out _)))))
                refine wpQuiet_nil ?_
                intro w2 hw2
                obtain ⟨⟨w2', hb2⟩, e4⟩ := hw2
                have e5 : w2 = w2' := e4
                subst e5
                clear e4 C1 C2
                refine wpAny_rest 14 rfl (by kernel_rfl) ?_
                simp only [List.drop_succ_cons, List.drop_zero]
                have HO2 := Lib.hid (own_keep HO.out hb2 (Nat.le_refl _))
                have HB2 := Lib.hid (onB HB.out hb2)
                have hs2 := HB2.out.size
                clear hb2
                go_wp2_with (at_builtin; refine wpList_app1 _ rfl _ _ 72 rfl w.heap.size 5 i0 _ 1 1 Tryd.underlying72 Hi.out Hz0.out Hz1.out Hz2.out rfl (by decide) A q.length c (byteVals q) rfl HO2.out [.int .u8 (x.toNat : Int)] _ rfl rfl (fun u hu => by simp at hu; subst hu; rfl) (by omega) (by decide) (by omega) ?_; intro A' c' w3 hown3 hc3 hb3)
                go_roundg (s.size - (i + (k + 3)))
                case measure => have := hg.out; omega
                case rel =>
                  refine ⟨k + 3, q ++ [x], A', c', by go_num, by rw [List.length_append]; rfl, by omega, by rw [List.length_append]; show q.length + 1 ≤ _; omega, rfl, ?_, hR1, HB2.out.trans hb3⟩
                  show World.ownsRow _ _ _ _ _ _ _
                  rw [List.length_append]
                  simpa [byteVals] using hown3
              · have n2 : digR s[i + k + 2] < 0 := by
                  have hbf : hexd s[i + k + 2] = false := by simpa using hb
                  rw [hbf] at hx2; simpa using hx2
                have hR1 : Hid (([], 0, some (k + 2)) = (o, n, b)) := by
                  show _ = _
                  rw [← HW.out, hd, h37]
                  rw [hd1, wordL_bad2 ha (by rw [hd2]; rintro _ ⟨⟩; simpa using hb)]; rfl
                clear hd hd1 hd2 hb hx1 hx2 h37 ha
                go_wp2_with (go_at_call 54; (first | (with_reducible refine (D1.out _).mono ?_) | (with_reducible refine (D2.out _).mono ?_)); rintro x w' ⟨rfl, rfl⟩)
                exact bodyPost_ret (v := .tuple #[.string ⟨#[]⟩, .int .i64 0, .int .i64 ((i : Int) + (k : Int) + 2)]) (by simp [results, Tryd.results34, go_sem]) rfl ⟨by cases hR1.out; simp [rwordV]; try omega, HB.out⟩
            · have hR1 : Hid (([], 0, some (k + 2)) = (o, n, b)) := by
                show _ = _
                rw [← HW.out, hd, h37]
                rw [hd1, List.drop_eq_nil_of_le (show s.data.toList.length ≤ i + k + 2 by show s.size ≤ _; omega), wordL_bad2 ha (by rintro _ ⟨⟩)]; rfl
              clear hd hd1 hx1 h37 ha
              go_wp2_with (go_at_call 54; (with_reducible refine (D1.out _).mono ?_); rintro x w' ⟨rfl, rfl⟩)
              exact bodyPost_ret (v := .tuple #[.string ⟨#[]⟩, .int .i64 0, .int .i64 ((i : Int) + (k : Int) + 2)]) (by simp [results, Tryd.results34, go_sem]) rfl ⟨by cases hR1.out; simp [rwordV]; try omega, HB.out⟩
          · have n1 : digR s[i + k + 1] < 0 := by
              have haf : hexd s[i + k + 1] = false := by simpa using ha
              rw [haf] at hx1; simpa using hx1
            have hR1 : Hid (([], 0, some (k + 1)) = (o, n, b)) := by
              show _ = _
              rw [← HW.out, hd, h37]
              rw [wordL_bad1 (by rw [hd1]; rintro _ ⟨⟩; simpa using ha)]; rfl
            clear hd hd1 hx1 h37 ha
            go_wp2_with (go_at_call 54; (with_reducible refine (D1.out _).mono ?_); rintro x w' ⟨rfl, rfl⟩)
            exact bodyPost_ret (v := .tuple #[.string ⟨#[]⟩, .int .i64 0, .int .i64 ((i : Int) + (k : Int) + 1)]) (by simp [results, Tryd.results34, go_sem]) rfl ⟨by cases hR1.out; simp [rwordV]; try omega, HB.out⟩
        · have hR1 : Hid (([], 0, some (k + 1)) = (o, n, b)) := by
            show _ = _
            rw [← HW.out, hd, h37]
            rw [List.drop_eq_nil_of_le (show s.data.toList.length ≤ i + k + 1 by show s.size ≤ _; omega)]; rfl
          clear hd h37
          go_wp2
          exact bodyPost_ret (v := .tuple #[.string ⟨#[]⟩, .int .i64 0, .int .i64 ((i : Int) + (k : Int) + 1)]) (by simp [results, Tryd.results34, go_sem]) rfl ⟨by cases hR1.out; simp [rwordV]; try omega, HB.out⟩
      · have b37 : ((s[i + k].toNat : Int) == 37) = false := by
          simp only [beq_eq_false_iff_ne, ne_eq]
          intro e; exact h37 (UInt8.toNat_inj.1 (by simpa using (by omega : s[i + k].toNat = 37)))
        have HD := Lib.hid hd; clear hd
        obtain ⟨sp, hsp⟩ : ∃ sp, spec s[i + k] = sp := ⟨_, rfl⟩
        have SP := Lib.hid (fun w => rspecial_is s[i + k] sp hsp w)
        have HS := Lib.hid hsp
        clear hsp
        cases sp
        · clear h37
          have hR1 : Hid (wApp (q ++ [s[i + k]]) (k + 1) (wordL (s.data.toList.drop (i + k + 1))) = (o, n, b)) := by
            show _ = _
            rw [← HW.out, HD.out, wordL_plain HS.out, wApp_app]
          go_wp2_with (first
            | (go_at_call 38; (with_reducible refine (SP.out _).mono ?_); rintro x w' ⟨rfl, rfl⟩)
            | (at_builtin; refine wpList_app1 _ rfl _ _ 72 rfl w.heap.size 5 i0 _ 1 1 Tryd.underlying72 Hi.out Hz0.out Hz1.out Hz2.out rfl (by decide) A q.length c (byteVals q) rfl HO.out [.int .u8 (s[i + k].toNat : Int)] _ rfl rfl (fun u hu => by simp at hu; subst hu; rfl) (by omega) (by decide) (by omega) ?_; intro A' c' w1 hown1 hc1 hb1))
          go_roundg (s.size - (i + (k + 1)))
          case measure => have := hg.out; omega
          case rel =>
            refine ⟨k + 1, q ++ [s[i + k]], A', c', by go_num, by rw [List.length_append]; rfl, by omega, by rw [List.length_append]; show q.length + 1 ≤ _; omega, rfl, ?_, hR1, HB.out.trans hb1⟩
            show World.ownsRow _ _ _ _ _ _ _
            rw [List.length_append]
            simpa [byteVals] using hown1
        · have hR1 : Hid ((q, k, none) = (o, n, b)) := by
            show _ = _
            rw [← HW.out, HD.out, wordL_stop HS.out h37]; simp [wApp]
          clear h37
          obtain ⟨_, hBS⟩ := own_bs HO.out
          have hBS' : BS wr wr.heap.size A q := hBS
          have CV := Lib.hid (conv_bs wr 72 9 5 Tryd.underlying72 Tryd.underlying5 Tryd.underlying9 hBS' c)
          have cv := CV.out
          go_wp2_with (first
            | (go_at_call 38; (with_reducible refine (SP.out _).mono ?_); rintro x w' ⟨rfl, rfl⟩))
          exact bodyPost_ret (v := .tuple #[.string ⟨q.toArray⟩, .int .i64 ((i : Int) + (k : Int)), .int .i64 (-1)]) (by simp [results, Tryd.results34, go_sem]) rfl ⟨by cases hR1.out; simp [rwordV], HB.out⟩
    · have hkm : i + k = s.size := by omega
      have hR1 : Hid ((q, k, none) = (o, n, b)) := by
        show _ = _
        rw [← HW.out, List.drop_eq_nil_of_le (by show s.size ≤ i + k; omega), wordL_nil]; simp [wApp]
      clear hkm
      obtain ⟨_, hBS⟩ := own_bs HO.out
      have hBS' : BS wr wr.heap.size A q := hBS
      have CV := Lib.hid (conv_bs wr 72 9 5 Tryd.underlying72 Tryd.underlying5 Tryd.underlying9 hBS' c)
      have cv := CV.out
      go_wp2
      exact bodyPost_ret (v := .tuple #[.string ⟨q.toArray⟩, .int .i64 ((i : Int) + (k : Int)), .int .i64 (-1)]) (by simp [results, Tryd.results34, go_sem]) rfl ⟨by cases hR1.out; simp [rwordV], HB.out⟩

end Go.Proofs.YtjnedbkbhoiopaaDoor
