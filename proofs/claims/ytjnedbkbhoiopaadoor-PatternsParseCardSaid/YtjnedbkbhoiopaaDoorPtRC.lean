/- The walk over the reference's Spell and Word; no statement of the seat is proved here. -/
import Derived.Test.YtjnedbkbhoiopaaDoorPtRB
namespace Go.Proofs.YtjnedbkbhoiopaaDoor
open Go.RowKit

set_option maxRecDepth 100000 in
set_option maxHeartbeats 2000000 in
theorem rwhole_is (s : ByteArray) (hs : s.size ≤ 1000000) (X : List UInt8) (Y : Bool) (h : wholeL s.data.toList = (X, Y)) (w : World) :
    Calls Tryd.prog 14 #[.string s] w fun e w' => e = .returned (.tuple #[.string ⟨X.toArray⟩, .bool Y]) ∧ Below w.heap.size w w' := by
  obtain ⟨⟨o, n, b⟩, hw⟩ : ∃ x, wordL s.data.toList = x := ⟨_, rfl⟩
  have wc : ∀ w, Calls Tryd.prog 34 #[.string s, .int .i64 0] w fun e w' => e = .returned (rwordV 0 ⟨o.toArray⟩ n b) ∧ Below w.heap.size w w' := fun w => rword_is s 0 (by omega) hs o n b hw w
  have WC := Lib.hid wc
  clear wc
  unfold wholeL at h
  rw [hw] at h
  have hle := (wordL_le s.data.toList.length s.data.toList (Nat.le_refl _)).1
  rw [hw, bal] at hle
  cases b with
  | some k =>
    cases h
    clear hw hle
    unfold rwordV at WC
    rw [Nat.zero_add] at WC
    have hk0 : (0 : Int) ≤ (k : Int) := by omega
    go_enter Tryd.func14, Tryd.ntmps14
    go_wp2_with (go_at_call 34; (with_reducible refine (WC.out _).mono ?_); rintro e w1 ⟨rfl, hb1⟩)
    exact bodyPost_ret (v := .tuple #[.string ⟨#[]⟩, .bool false]) (by simp [results, Tryd.results14, go_sem]) rfl ⟨rfl, hb1⟩
  | none =>
    have hsz := bal s
    dsimp only at h hle
    rw [hsz] at h
    clear hw hsz
    unfold rwordV at WC
    rw [show ((0 + n : Nat) : Int) = (n : Int) by omega] at WC
    by_cases hn : n < s.size
    · rw [if_pos hn] at h
      cases h
      have hni : ((n : Int) == (s.size : Int)) = false := by rw [beq_eq_false_iff_ne]; omega
      have hni' : ¬ (n : Int) = (s.size : Int) := by omega
      clear hn hle
      go_enter Tryd.func14, Tryd.ntmps14
      go_wp2_with (go_at_call 34; (with_reducible refine (WC.out _).mono ?_); rintro e w1 ⟨rfl, hb1⟩)
      exact bodyPost_ret (v := .tuple #[.string ⟨#[]⟩, .bool false]) (by simp [results, Tryd.results14, go_sem]) rfl ⟨rfl, hb1⟩
    · rw [if_neg hn] at h
      cases h
      obtain rfl : n = s.size := by omega
      clear hn hle
      go_enter Tryd.func14, Tryd.ntmps14
      go_wp2_with (go_at_call 34; (with_reducible refine (WC.out _).mono ?_); rintro e w1 ⟨rfl, hb1⟩)
      exact bodyPost_ret (v := .tuple #[.string ⟨X.toArray⟩, .bool true]) (by simp [results, Tryd.results14, go_sem]) rfl ⟨rfl, hb1⟩

set_option maxRecDepth 100000 in
theorem hex_ixR (v : Nat) (h : v < 16) : ∀ W : World, (Instr.index 9 (.string ⟨#[48, 49, 50, 51, 52, 53, 54, 55, 56, 57, 97, 98, 99, 100, 101, 102]⟩) (.int .u8 (v : Int))).run Tryd.prog W = .ok (.int .u8 ((hexc v).toNat : Int)) W := by
  have hv : v = 0 ∨ v = 1 ∨ v = 2 ∨ v = 3 ∨ v = 4 ∨ v = 5 ∨ v = 6 ∨ v = 7 ∨ v = 8 ∨ v = 9 ∨ v = 10 ∨ v = 11 ∨ v = 12 ∨ v = 13 ∨ v = 14 ∨ v = 15 := by omega
  rcases hv with rfl | rfl | rfl | rfl | rfl | rfl | rfl | rfl | rfl | rfl | rfl | rfl | rfl | rfl | rfl | rfl
  all_goals exact fun W => by kernel_rfl
theorem spell_snoc (s : ByteArray) (k : Nat) (h : k < s.size) : spellL (s.data.toList.take (k + 1)) = spellL (s.data.toList.take k) ++ spellC s[k] := by
  have hl : k < s.data.toList.length := h
  rw [List.take_succ_eq_append_getElem hl]
  unfold spellL
  rw [List.flatMap_append, List.flatMap_cons, List.flatMap_nil, List.append_nil]; rfl

set_option maxRecDepth 100000 in
set_option maxHeartbeats 8000000 in
theorem rspell_is (s : ByteArray) (hs : s.size ≤ 1000000) (w : World) :
    Calls Tryd.prog 16 #[.string s] w fun e w' => e = .returned (.string ⟨(spellL s.data.toList).toArray⟩) ∧ Below w.heap.size w w' := by
  obtain ⟨i0, hi0, hz0, hz1, hz2⟩ := info_parts byte_info
  have Hi := Lib.hid hi0; have Hz0 := Lib.hid hz0; have Hz1 := Lib.hid hz1; have Hz2 := Lib.hid hz2
  clear hi0 hz0 hz1 hz2
  go_enter Tryd.func16, Tryd.ntmps16
  go_wp2
  go_loopg [4, 5] s.size (fun g s4 s5 wr => ∃ (k m : Nat) (A : Option Addr) (c : Nat), s5 = .int .i64 (k : Int) ∧ s4 = .slice A m c ∧ k ≤ s.size ∧ m ≤ 3 * k ∧ Hid (m = (spellL (s.data.toList.take k)).length) ∧ Hid (g = s.size - k) ∧
    Hid (wr.ownsRow w.heap.size 5 1 (.slice A m c) m (byteVals (spellL (s.data.toList.take k)))) ∧ Hid (Below w.heap.size w wr))
  case atStart => exact ⟨0, 0, none, 0, rfl, rfl, by omega, by omega, rfl, by show _ = _; omega, World.ownsRow_nil _ _ _ _, Below.refl _ _⟩
  case round =>
    obtain ⟨k, m, A, c, rfl, rfl, hk, hm, hml, hg, HO, HB⟩ := hrel
    have hbs := HB.out.size
    by_cases hlt : k < s.size
    · obtain ⟨sp, hsp⟩ : ∃ sp, spec s[k] = sp := ⟨_, rfl⟩
      have SP := Lib.hid (fun w => rspecial_is s[k] sp hsp w)
      have hsn := Lib.hid (spell_snoc s k hlt)
      have hx := s[k].toNat_lt
      have hsc : spellC s[k] = if sp || decide (128 ≤ s[k].toNat) then [37, hexc (s[k].toNat / 16), hexc (s[k].toNat % 16)] else [s[k]] := by unfold spellC; rw [hsp]
      have HSC := Lib.hid hsc
      clear hsp hsc
      by_cases hbig : (sp || decide (128 ≤ s[k].toNat)) = true
      · have hs3 : Hid (spellC s[k] = [37, hexc (s[k].toNat / 16), hexc (s[k].toNat % 16)]) := by show _ = _; rw [HSC.out, if_pos hbig]
        have HN : Hid (∀ u ∈ byteVals [37, hexc (s[k].toNat / 16), hexc (s[k].toNat % 16)], u.oneCell' = true) := by
          intro u hu; simp [byteVals] at hu; rcases hu with rfl | rfl | rfl <;> rfl
        have hix1 := fun W => hex_ixR (s[k].toNat / 16) (by omega) W
        have hix2 := fun W => hex_ixR (s[k].toNat % 16) (by omega) W
        rw [Int.natCast_ediv] at hix1
        rw [Int.natCast_emod] at hix2
        simp only [Int.cast_ofNat_Int] at hix1 hix2
        have hgo : sp = true ∨ (sp = false ∧ 128 ≤ (s[k].toNat : Int)) := by
          cases sp
          · right; simp at hbig; exact ⟨rfl, by omega⟩
          · left; rfl
        clear hbig
        rcases hgo with rfl | ⟨rfl, h128⟩
        all_goals (
          go_wp2_with (go_at_call 38; (with_reducible refine (SP.out _).mono ?_); rintro x w' ⟨rfl, rfl⟩)
          refine wp_region_any (by kernel_rfl) ?_
          refine wpAny_mid 0 13 3 rfl (by decide) (by kernel_rfl) (by kernel_rfl) (fun _ _ _ _ _ h => h) ?_
          simp only [List.drop_zero, List.take_succ_cons, List.take_zero]
          repeat (go_big_quiet_step (fail))
          refine wpQuiet_nil ?_
          refine wpAny_rest 13 rfl (by kernel_rfl) ?_
          simp only [List.drop_succ_cons, List.drop_zero]
          have HOd : Hid (wr.drew.ownsRow w.heap.size 5 1 (.slice A m c) m (byteVals (spellL (s.data.toList.take k)))) := HO.out
          have HBd := Lib.hid HB.out.drew
          have hbsd := HBd.out.size
          change wpList _ _ _ _ _ wr.drew
          generalize wr.drew = w2 at HOd HBd hbsd ⊢
          clear hix1 hix2
          go_wp2_with (at_builtin; refine wpList_append_own_at _ rfl _ _ 72 rfl w.heap.size 5 i0 _ 1 1 Tryd.underlying72 Hi.out Hz0.out Hz1.out Hz2.out rfl (by decide) (.slice A m c) m (byteVals (spellL (s.data.toList.take k))) rfl (own_keep HOd.out (below_new1 w2 _) (Nat.le_refl _)) ⟨w2.heap.size, 0, none⟩ 3 3 (byteVals [37, hexc (s[k].toNat / 16), hexc (s[k].toNat % 16)]) (by simp [Act.eval]) rfl (news_at (heap_new1 w2 _)) HN.out (by simp only [maxLen]; omega) (by omega) (by simp; omega) ?_; intro v' w3 hown3 hg3 _ hloc3; obtain ⟨A', c', rfl, hc3⟩ := own_slice hown3; have hb3 := below_grown hg3 (own_ge HOd.out) ((Below.refl _ _).alloc hbsd _) (by simp; omega); clear hg3 hloc3)
          go_roundg (s.size - (k + 1))
          case measure => have := hg.out; omega
          case rel =>
            refine ⟨k + 1, m + 3, A', c', by go_num, rfl, by omega, by omega, ?_, rfl, ?_, HBd.out.trans hb3⟩
            · show _ = _
              rw [hsn.out, hs3.out, List.length_append, ← hml.out]; rfl
            · show World.ownsRow _ _ _ _ _ _ _
              rw [hsn.out, hs3.out, byteVals_app]
              exact hown3)
      · have hs1 : Hid (spellC s[k] = [s[k]]) := by show _ = _; rw [HSC.out, if_neg hbig]
        obtain rfl : false = sp := by cases sp with | false => rfl | true => simp at hbig
        have h128 : ¬ 128 ≤ (s[k].toNat : Int) := by simp at hbig; omega
        clear hbig
        go_wp2_with (first
          | (go_at_call 38; (with_reducible refine (SP.out _).mono ?_); rintro x w' ⟨rfl, rfl⟩)
          | (at_builtin; refine wpList_app1 _ rfl _ _ 72 rfl w.heap.size 5 i0 _ 1 1 Tryd.underlying72 Hi.out Hz0.out Hz1.out Hz2.out rfl (by decide) A m c (byteVals (spellL (s.data.toList.take k))) rfl HO.out [.int .u8 (s[k].toNat : Int)] _ rfl rfl (fun u hu => by simp at hu; subst hu; rfl) (by omega) (by decide) (by omega) ?_; intro A' c' w1 hown1 hc1 hb1))
        go_roundg (s.size - (k + 1))
        case measure => have := hg.out; omega
        case rel =>
          refine ⟨k + 1, m + 1, A', c', by go_num, rfl, by omega, by omega, ?_, rfl, ?_, HB.out.trans hb1⟩
          · show _ = _
            rw [hsn.out, hs1.out, List.length_append, ← hml.out]; rfl
          · show World.ownsRow _ _ _ _ _ _ _
            rw [hsn.out, hs1.out, byteVals_app]
            exact hown1
    · obtain rfl : s.size = k := by omega
      have htk : s.data.toList.take s.size = s.data.toList := List.take_of_length_le (Nat.le_of_eq (bal s))
      rw [htk] at hml HO
      have hBS := (own_bs HO.out).2
      have hBS' : BS wr wr.heap.size A (spellL s.data.toList) := hBS
      have cv := conv_bs (P := Tryd.prog) wr 72 9 5 Tryd.underlying72 Tryd.underlying5 Tryd.underlying9 hBS' c
      rw [← hml.out] at cv
      clear hml htk
      go_wp2
      go_ret
      exact ⟨rfl, HB.out⟩

end Go.Proofs.YtjnedbkbhoiopaaDoor
