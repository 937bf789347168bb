/- ints.Read; no statement of the seat is proved here. -/
import Derived.Test.YtncldnghhpdolaaGreatDoorInF
import Derived.Test.YtncldnghhpdolaaGreatDoorLat
import Derived.Deep.RegionWith
import Derived.Deep.Cut
import Derived.Deep.DeepCutAuto
namespace Go.Proofs.YtncldnghhpdolaaGreatDoor
open Go.RowKit

/-- How a text is taken, in bytes. -/
structure Taken (s : ByteArray) (q : Nat) (m : Bool) (SG DG : ByteArray) : Prop where
  base : Base4 q
  way : wayI s.data.toList = (q, m, DG.data.toList)
  sign : (SG.data.toList = [] ∧ m = false) ∨ (SG.data.toList = [43] ∧ m = false) ∨ (SG.data.toList = [45] ∧ m = true)
  plain : q ≠ 10 → SG.data.toList = [] ∧ m = false
  small : DG.size ≤ s.size
  kind : (q ≠ 10 ∧ 2 ≤ s.size ∧ (begB q).size = 2 ∧ SG = ⟨#[]⟩ ∧ s.extract 2 s.size = DG) ∨
    (q = 10 ∧ ∃ h : 0 < s.size, (s[0].toNat = 43 ∨ s[0].toNat = 45) ∧ s.extract 0 1 = SG ∧ s.extract 1 s.size = DG) ∨
    (q = 10 ∧ SG = ⟨#[]⟩ ∧ s = DG ∧ (s.size = 0 ∨ ∃ h : 0 < s.size, s[0].toNat ≠ 43 ∧ s[0].toNat ≠ 45))
theorem ext_drop (s : ByteArray) (k : Nat) : (s.extract k s.size).data.toList = s.data.toList.drop k := by
  rw [ByteArray.data_extract, Array.toList_extract]
  simp only [List.take_drop]
  rw [List.take_of_length_le (by rw [size_list]; omega)]
theorem taken_ex (s : ByteArray) : ∃ q m SG DG, Taken s q m SG DG := by
  have two : ∀ (x : UInt8) (q : Nat), s.data.toList.take 2 = [48, x] → Base4 q → q ≠ 10 → (begB q).size = 2 → wayI s.data.toList = (q, false, s.data.toList.drop 2) → ∃ q m SG DG, Taken s q m SG DG := by
    intro x q h hq h10 hb hw
    have h2 : 2 ≤ s.size := by
      have := congrArg List.length h
      rw [List.length_take, size_list] at this
      simp at this; omega
    exact ⟨q, false, ⟨#[]⟩, s.extract 2 s.size, hq, by rw [hw, ext_drop], .inl ⟨rfl, rfl⟩, fun _ => ⟨rfl, rfl⟩, by rw [ByteArray.size_extract]; omega, .inl ⟨h10, h2, hb, rfl, rfl⟩⟩
  have sg : ∀ (x : UInt8) (m : Bool), s.data.toList.head? = some x → ((x = 43 ∧ m = false) ∨ (x = 45 ∧ m = true)) → wayI s.data.toList = (10, m, s.data.toList.drop 1) → ∃ q m SG DG, Taken s q m SG DG := by
    intro x m h hx hw
    cases hl : s.data.toList with
    | nil => rw [hl] at h; cases h
    | cons c l =>
      rw [hl] at h
      obtain rfl : c = x := by simpa using h
      have hz : 0 < s.size := by rw [← size_list, hl]; simp
      have h0 := get0 hl hz
      have he : (s.extract 0 1).data.toList = [c] := by
        rw [ByteArray.data_extract, Array.toList_extract, hl]; simp
      refine ⟨10, m, s.extract 0 1, s.extract 1 s.size, .inr (.inr (.inl rfl)), by rw [hw, ext_drop], ?_, fun h => absurd rfl h, by rw [ByteArray.size_extract]; omega, .inr (.inl ⟨rfl, hz, ?_, rfl, rfl⟩)⟩
      · rw [he]
        rcases hx with ⟨rfl, rfl⟩ | ⟨rfl, rfl⟩
        · exact .inr (.inl ⟨rfl, rfl⟩)
        · exact .inr (.inr ⟨rfl, rfl⟩)
      · rw [h0]
        rcases hx with ⟨rfl, _⟩ | ⟨rfl, _⟩
        · exact .inl rfl
        · exact .inr rfl
  by_cases c1 : s.data.toList.take 2 = [48, 120]
  · exact two 120 16 c1 (by unfold Base4; simp) (by decide) rfl (by unfold wayI; rw [if_pos c1])
  · by_cases c2 : s.data.toList.take 2 = [48, 111]
    · exact two 111 8 c2 (by unfold Base4; simp) (by decide) rfl (by unfold wayI; rw [if_neg c1, if_pos c2])
    · by_cases c3 : s.data.toList.take 2 = [48, 98]
      · exact two 98 2 c3 (by unfold Base4; simp) (by decide) rfl (by unfold wayI; rw [if_neg c1, if_neg c2, if_pos c3])
      · by_cases c4 : s.data.toList.head? = some 43
        · exact sg 43 false c4 (.inl ⟨rfl, rfl⟩) (by unfold wayI; rw [if_neg c1, if_neg c2, if_neg c3, if_pos c4])
        · by_cases c5 : s.data.toList.head? = some 45
          · exact sg 45 true c5 (.inr ⟨rfl, rfl⟩) (by unfold wayI; rw [if_neg c1, if_neg c2, if_neg c3, if_neg c4, if_pos c5])
          · refine ⟨10, false, ⟨#[]⟩, s, .inr (.inr (.inl rfl)), by unfold wayI; rw [if_neg c1, if_neg c2, if_neg c3, if_neg c4, if_neg c5], .inl ⟨rfl, rfl⟩, fun h => absurd rfl h, Nat.le_refl _, .inr (.inr ⟨rfl, rfl, rfl, ?_⟩)⟩
            cases hl : s.data.toList with
            | nil => left; rw [← size_list, hl]; rfl
            | cons c l =>
              right
              have hz : 0 < s.size := by rw [← size_list, hl]; simp
              have h0 := get0 hl hz
              rw [hl] at c4 c5
              refine ⟨hz, ?_, ?_⟩
              · rw [h0]; intro e; exact c4 (by rw [show c = 43 from UInt8.toNat_inj.1 e]; rfl)
              · rw [h0]; intro e; exact c5 (by rw [show c = 45 from UInt8.toNat_inj.1 e]; rfl)
theorem head_at {s : ByteArray} (h : 0 < s.size) : s.data.toList.head? = some s[0] := by
  cases hl : s.data.toList with
  | nil => rw [← size_list, hl] at h; cases h
  | cons c l => rw [get0 hl h]; rfl
/-- A nought ahead where it may not be? -/
def zeroB (q : Nat) (l : List UInt8) : Bool := decide (q = 10 ∧ 1 < l.length ∧ l.head? = some 48)
theorem readW_bad {q : Nat} (hq : Base4 q) {m : Bool} {l : List UInt8} (h : (!(rightB (dgs q) l) || zeroB q l) = true) : readW q m l = ([], 3) := by
  unfold readW
  by_cases h0 : l = [] ∨ (q = 10 ∧ 1 < l.length ∧ l.head? = some 48)
  · rw [if_pos h0]
  · rw [if_neg h0, right_scan hq (fun e => h0 (.inl e))]
    have hz : zeroB q l = false := decide_eq_false fun e => h0 (.inr e)
    rw [hz, Bool.or_false] at h
    have : rightB (dgs q) l = false := by simpa using h
    rw [this]; rfl
theorem readW_good {q : Nat} (hq : Base4 q) {m : Bool} {l : List UInt8} (h : (!(rightB (dgs q) l) || zeroB q l) = false) :
    readW q m l = if limI m < valQ q 0 (lowless l) then ([], 8) else (Lib.itoa (signI m (valQ q 0 (lowless l))), 0) := by
  rw [Bool.or_eq_false_iff] at h
  have hr : rightB (dgs q) l = true := by simpa using h.1
  have hne : l ≠ [] := fun e => by rw [e, right_nil] at hr; cases hr
  unfold readW
  rw [if_neg (fun e => e.elim hne (fun e => of_decide_eq_false h.2 e)), right_scan hq hne, hr]
  rfl


set_option maxRecDepth 100000 in
set_option maxHeartbeats 4000000 in
theorem intread_is (s r : ByteArray) (c : Int) (hs : s.size ≤ 50000) (hr : readI s.data.toList = (r.data.toList, c)) (w : World) (hG : Gl w) :
    Calls Tryz.prog 18 #[.string s] w fun e w' => e = .returned (.tuple #[.string r, .int .i64 c]) ∧ Below w.heap.size w w' := by
  obtain ⟨q, m, SG, DG, ht⟩ := taken_ex s
  have hQ := Lib.hid ht.base
  have hDz := ht.small
  have HT := Lib.hid ht
  have HO := Lib.hid (of_is s (by omega) q (by rw [ht.way]) w hG)
  have HR : Hid (readW q m DG.data.toList = (r.data.toList, c)) := by unfold readI at hr; rw [ht.way] at hr; exact hr
  have hk := ht.kind
  clear ht hr
  have HG := Lib.hid hG
  clear hG
  go_enter Tryz.func18, Tryz.ntmps18
  go_upto_region 2 with (go_at_call 43; refine HO.out.mono ?_; rintro e w1 ⟨rfl, hb1⟩; dsimp only [radV])
  clear HO
  obtain ⟨N, hN⟩ : ∃ N, w1.heap.size = N := ⟨_, rfl⟩
  have HB2 : Hid (Below w.heap.size w (w1.alloc (.cells #[.string (begB q), .int .i64 (q : Int), .string (digB q)] 55))) := hb1.trans ((below_new1 _ _).mono hb1.size)
  have hrow := heap_new1 w1 (.cells #[.string (begB q), .int .i64 (q : Int), .string (digB q)] 55)
  have hNz : N < (w1.alloc (.cells #[.string (begB q), .int .i64 (q : Int), .string (digB q)] 55)).heap.size := by simp; omega
  rw [hN] at hrow ⊢
  generalize w1.alloc (.cells #[.string (begB q), .int .i64 (q : Int), .string (digB q)] 55) = w2 at HB2 hrow hNz ⊢
  clear hb1 hN
  have e0 : ∀ n : Later w2, n.at_.cell? ⟨N, 0, none⟩ = some (.string (begB q)) := fun n => (n.below.cell (p := ⟨N, 0, none⟩) hNz).trans (cell_of hrow rfl).1
  have e1 : ∀ n : Later w2, n.at_.cell? ⟨N, 1, none⟩ = some (.int .i64 (q : Int)) := fun n => (n.below.cell (p := ⟨N, 1, none⟩) hNz).trans (cell_of hrow rfl).1
  have e2 : ∀ n : Later w2, n.at_.cell? ⟨N, 2, none⟩ = some (.string (digB q)) := fun n => (n.below.cell (p := ⟨N, 2, none⟩) hNz).trans (cell_of hrow rfl).1
  clear hrow hNz
  have C1 : Hid (∀ n : Later w2, Calls Tryz.prog 44 #[] n.at_ fun e w'' => e = .returned (.agg #[.string (begB 10), .int .i64 10, .string (digB 10)]) ∧ ∃ m : Later w2, w'' = m.at_) := fun n => calls_later ((tens_is n.at_).mono fun e w' h => ⟨h.1, n.below.trans (h.2.mono n.below.size)⟩)
  have q1 := eq_ten hQ.out
  obtain ⟨DX, hDX⟩ : ∃ DX, s.extract (begB q).size s.size = DX := ⟨_, rfl⟩
  have hzb : (begB q).size ≤ s.size := by
    rcases hk with ⟨_, h2, hz, _⟩ | ⟨rfl, _⟩ | ⟨rfl, _⟩
    · omega
    · show 0 ≤ _; omega
    · show 0 ≤ _; omega
  obtain ⟨sg, hk, hk2⟩ : ∃ sg : Bool, ((q ≠ 10 ∧ sg = false) ∨ (q = 10 ∧ ∃ h : 0 < s.size, (s[0].toNat = 43 ∨ s[0].toNat = 45) ∧ sg = true) ∨
      (q = 10 ∧ sg = false ∧ (s.size = 0 ∨ ∃ h : 0 < s.size, s[0].toNat ≠ 43 ∧ s[0].toNat ≠ 45))) ∧ ((sg = false ∧ SG = ⟨#[]⟩ ∧ DX = DG) ∨ (sg = true ∧ 0 < s.size ∧ s.extract 0 1 = SG ∧ s.extract 1 s.size = DG)) := by
    rcases hk with ⟨h1, h2, hz, h3, h4⟩ | ⟨rfl, h, hc, h1, h2⟩ | ⟨rfl, h1, h2, h3⟩
    · exact ⟨false, .inl ⟨h1, rfl⟩, .inl ⟨rfl, h3, by rw [← hDX, hz, h4]⟩⟩
    · exact ⟨true, .inr (.inl ⟨rfl, h, hc, rfl⟩), .inr ⟨rfl, h, h1, h2⟩⟩
    · exact ⟨false, .inr (.inr ⟨rfl, rfl, h3⟩), .inl ⟨rfl, h1, by rw [← hDX, ← h2]; exact ByteArray.extract_zero_size⟩⟩
  refine wp_region_later w2 (by kernel_rfl) (by kernel_rfl) (Below.refl _ _) ?_
  repeat (go_big_quiet_step (fail))
  refine wpQuiet_nil ?_
  rintro _ ⟨⟨w3, hb3⟩, rfl⟩
  clear hDX hzb
  go_wp2_with fail
  go_cut [32] from 16 to 32 (fun s32 w' => s32 = .bool sg ∧ Hid (Below w2.heap.size w2 w'))
  case first =>
    clear hk2
    rcases hk with ⟨h10, rfl⟩ | ⟨rfl, h0, hc, rfl⟩ | ⟨rfl, rfl, hc⟩
    · have hd : decide (q = 10) = false := decide_eq_false h10
      rw [hd] at q1
      clear h10 hd
      refine wp_region_later w2 (by kernel_rfl) (by kernel_rfl) hb3 ?_
      repeat (go_big_quiet_step ((go_at_call 44; with_reducible exact C1.out _)))
      refine wpQuiet_nil ?_
      rintro _ ⟨⟨w4, hb4⟩, rfl⟩
      go_wp2_with fail
      go_meet
      case rel => exact ⟨rfl, hb4⟩
    · have hd : decide ((10 : Nat) = 10) = true := rfl
      rw [hd] at q1
      have hne : s.toList.isEmpty = false := by
        rw [ByteArray.toList_eq]
        rcases s with ⟨⟨l⟩⟩
        cases l
        · simp [ByteArray.size] at h0
        · rfl
      have hx := s[0].toNat_lt
      rcases (show (s[0].toNat = 43) ∨ (s[0].toNat ≠ 43 ∧ s[0].toNat = 45) by omega) with b | ⟨b, b'⟩
      · have g1 : ((s[0].toNat : Int) == 43) = true := by simp; omega
        clear b hc
        refine wp_region_later w2 (by kernel_rfl) (by kernel_rfl) hb3 ?_
        repeat (go_big_quiet_step ((go_at_call 44; with_reducible exact C1.out _)))
        refine wpQuiet_nil ?_
        rintro _ ⟨⟨w4, hb4⟩, rfl⟩
        go_wp2_with fail
        go_meet
        case rel => exact ⟨rfl, hb4⟩
      · have g1 : ((s[0].toNat : Int) == 43) = false := by simp; omega
        have g2 : ((s[0].toNat : Int) == 45) = true := by simp; omega
        clear b b' hc
        refine wp_region_later w2 (by kernel_rfl) (by kernel_rfl) hb3 ?_
        repeat (go_big_quiet_step ((go_at_call 44; with_reducible exact C1.out _)))
        refine wpQuiet_nil ?_
        rintro _ ⟨⟨w4, hb4⟩, rfl⟩
        go_wp2_with fail
        go_meet
        case rel => exact ⟨rfl, hb4⟩
    · have hd : decide ((10 : Nat) = 10) = true := rfl
      rw [hd] at q1
      rcases hc with h0 | ⟨h0, b, b'⟩
      · have hne : s.toList.isEmpty = true := by
          rw [ByteArray.toList_eq]
          rcases s with ⟨⟨l⟩⟩
          cases l
          · rfl
          · simp [ByteArray.size] at h0
        clear h0
        refine wp_region_later w2 (by kernel_rfl) (by kernel_rfl) hb3 ?_
        repeat (go_big_quiet_step ((go_at_call 44; with_reducible exact C1.out _)))
        refine wpQuiet_nil ?_
        rintro _ ⟨⟨w4, hb4⟩, rfl⟩
        go_wp2_with fail
        go_meet
        case rel => exact ⟨rfl, hb4⟩
      · have hne : s.toList.isEmpty = false := by
          rw [ByteArray.toList_eq]
          rcases s with ⟨⟨l⟩⟩
          cases l
          · simp [ByteArray.size] at h0
          · rfl
        have hx := s[0].toNat_lt
        have g1 : ((s[0].toNat : Int) == 43) = false := by simp; omega
        have g2 : ((s[0].toNat : Int) == 45) = false := by simp; omega
        clear b b'
        refine wp_region_later w2 (by kernel_rfl) (by kernel_rfl) hb3 ?_
        repeat (go_big_quiet_step ((go_at_call 44; with_reducible exact C1.out _)))
        refine wpQuiet_nil ?_
        rintro _ ⟨⟨w4, hb4⟩, rfl⟩
        go_wp2_with fail
        go_meet
        case rel => exact ⟨rfl, hb4⟩
  case rest =>
    obtain ⟨rfl, hbc⟩ := hcut
    clear hk hb3
    go_upto_if 32 with (fail)
    go_cut [5, 6] from 33 to 36 (fun s5 s6 w' => s5 = .string SG ∧ s6 = .string DG ∧ Hid (Below w2.heap.size w2 w'))
    case first =>
      rcases hk2 with ⟨rfl, rfl, rfl⟩ | ⟨rfl, h0, hS, hD⟩
      · go_wp2
        go_meet
        case rel => exact ⟨rfl, rfl, hbc⟩
      · go_wp2_with fail
        refine wp_region_later w2 (by kernel_rfl) (by kernel_rfl) hbc.out ?_
        repeat (go_big_quiet_step (fail))
        refine wpQuiet_nil ?_
        rintro _ ⟨⟨w5, hb5⟩, rfl⟩
        go_wp2_with fail
        go_meet
        case rel => exact ⟨rfl, rfl, hb5⟩
    case rest =>
      obtain ⟨rfl, rfl, hbd⟩ := hcut
      clear hk2 hbc
      obtain ⟨rb, hrb⟩ : ∃ b, Hid (rightB (dgs q) DG.data.toList = b) := ⟨_, rfl⟩
      obtain ⟨zb, hzb⟩ : ∃ b, Hid (zeroB q DG.data.toList = b) := ⟨_, rfl⟩
      have C2 : Hid (∀ n : Later w2, Calls Tryz.prog 45 #[.agg #[.string (begB q), .int .i64 (q : Int), .string (digB q)], .string DG] n.at_ fun e w'' => e = .returned (.bool rb) ∧ ∃ m : Later w2, w'' = m.at_) :=
        fun n => calls_later ((rgt_is hQ.out DG (by omega) n.at_).mono fun e w' h => ⟨h.1.trans (by rw [hrb.out]), n.below.trans (h.2.mono n.below.size)⟩)
      go_wp2_with fail
      go_cut [55] from 37 to 55 (fun s55 w' => s55 = .bool (!rb || zb) ∧ Hid (Below w2.heap.size w2 w'))
      case first =>
        cases rb
        · clear hzb
          refine wp_region_later w2 (by kernel_rfl) (by kernel_rfl) hbd.out ?_
          repeat (go_big_quiet_step (first | (go_at_call 45; with_reducible exact C2.out _) | (go_at_call 44; with_reducible exact C1.out _)))
          refine wpQuiet_nil ?_
          rintro _ ⟨⟨w5, hb5⟩, rfl⟩
          go_wp2_with fail
          go_meet
          case rel => exact ⟨rfl, hb5⟩
        · by_cases h10 : q = 10
          · have hd : decide (q = 10) = true := decide_eq_true h10
            rw [hd] at q1
            by_cases hl : 1 < DG.size
            · have bl : decide ((1 : Int) < (DG.size : Int)) = true := decide_eq_true (by omega)
              have hx := DG[0].toNat_lt
              have h0 : 0 < DG.size := by omega
              by_cases h48 : DG[0].toNat = 48
              · have g1 : ((DG[0].toNat : Int) == 48) = true := by simp; omega
                have hz : zb = true := by rw [← hzb.out]; exact decide_eq_true ⟨h10, hl, by rw [head_at (by omega : 0 < DG.size), show DG[0] = 48 from UInt8.toNat_inj.1 h48]⟩
                subst hz
                clear h48 h10 hd
                refine wp_region_later w2 (by kernel_rfl) (by kernel_rfl) hbd.out ?_
                repeat (go_big_quiet_step (first | (go_at_call 45; with_reducible exact C2.out _) | (go_at_call 44; with_reducible exact C1.out _)))
                refine wpQuiet_nil ?_
                rintro _ ⟨⟨w5, hb5⟩, rfl⟩
                go_wp2_with fail
                go_meet
                case rel => exact ⟨rfl, hb5⟩
              · have g1 : ((DG[0].toNat : Int) == 48) = false := by simp; omega
                have hz : zb = false := by rw [← hzb.out]; exact decide_eq_false fun e => h48 (by rw [head_at (by omega : 0 < DG.size)] at e; rw [Option.some.inj e.2.2]; rfl)
                subst hz
                clear h48 h10 hd
                refine wp_region_later w2 (by kernel_rfl) (by kernel_rfl) hbd.out ?_
                repeat (go_big_quiet_step (first | (go_at_call 45; with_reducible exact C2.out _) | (go_at_call 44; with_reducible exact C1.out _)))
                refine wpQuiet_nil ?_
                rintro _ ⟨⟨w5, hb5⟩, rfl⟩
                go_wp2_with fail
                go_meet
                case rel => exact ⟨rfl, hb5⟩
            · have bl : decide ((1 : Int) < (DG.size : Int)) = false := decide_eq_false (by omega)
              have hz : zb = false := by rw [← hzb.out]; exact decide_eq_false fun e => hl e.2.1
              subst hz
              clear h10 hd
              refine wp_region_later w2 (by kernel_rfl) (by kernel_rfl) hbd.out ?_
              repeat (go_big_quiet_step (first | (go_at_call 45; with_reducible exact C2.out _) | (go_at_call 44; with_reducible exact C1.out _)))
              refine wpQuiet_nil ?_
              rintro _ ⟨⟨w5, hb5⟩, rfl⟩
              go_wp2_with fail
              go_meet
              case rel => exact ⟨rfl, hb5⟩
          · have hd : decide (q = 10) = false := decide_eq_false h10
            rw [hd] at q1
            have hz : zb = false := by rw [← hzb.out]; exact decide_eq_false fun e => h10 e.1
            subst hz
            clear h10 hd
            refine wp_region_later w2 (by kernel_rfl) (by kernel_rfl) hbd.out ?_
            repeat (go_big_quiet_step (first | (go_at_call 45; with_reducible exact C2.out _) | (go_at_call 44; with_reducible exact C1.out _)))
            refine wpQuiet_nil ?_
            rintro _ ⟨⟨w5, hb5⟩, rfl⟩
            go_wp2_with fail
            go_meet
            case rel => exact ⟨rfl, hb5⟩
      case rest =>
        obtain ⟨rfl, hbe⟩ := hcut
        clear C1 C2 q1 hbd
        have HW := Lib.hid (HB2.out.trans (hbe.out.mono HB2.out.size))
        cases hbad : (!rb || zb)
        · have hrg : rightB (dgs q) DG.data.toList = true := by
            rw [hrb.out]; cases rb
            · simp at hbad
            · rfl
          have HV := HR.out
          rw [readW_good hQ.out (by rw [hrb.out, hzb.out]; exact hbad)] at HV
          obtain ⟨LD, hLD⟩ := str_ex (lowless DG.data.toList)
          have hLz : LD.size ≤ DG.size := by rw [← size_list, hLD, ← size_list]; exact List.length_filter_le _ _
          have hSz : SG.size ≤ 1 := by
            rw [← size_list]
            rcases HT.out.sign with ⟨e, _⟩ | ⟨e, _⟩ | ⟨e, _⟩ <;> rw [e] <;> simp
          have hSi : Signed q m (SG ++ LD) LD := by
            refine ⟨hQ.out, ?_, by rw [hLD]; exact lowless_ne hrg, by rw [hLD]; exact right_digits hQ.out _ hrg, by rw [ByteArray.size_append]; omega⟩
            rw [app_list]
            rcases HT.out.sign with ⟨e, h⟩ | ⟨e, h⟩ | ⟨e, h⟩ <;> rw [e]
            · exact .inl ⟨rfl, h⟩
            · exact .inr (.inl ⟨rfl, h⟩)
            · exact .inr (.inr ⟨rfl, h⟩)
          have HSi := Lib.hid hSi
          clear hSi hrb hzb HT
          obtain ⟨eb, heb⟩ := HG.out.rng
          rw [← hLD] at HV
          by_cases hv : limI m < valQ q 0 LD.data.toList
          · rw [if_pos hv] at HV
            injection HV with h1 h2
            subst h2
            have hr0 : r = ⟨#[]⟩ := str_eq h1.symm
            subst hr0
            clear h1
            have HRp : Hid (∀ w', Below w2.heap.size w2 w' → Calls Tryz.prog 33 #[.string DG, .string ⟨#[95]⟩, .string ⟨#[]⟩] w' fun e w'' => e = .returned (.string LD) ∧ Below w2.heap.size w2 w'') :=
              fun w' hb => (rep_is DG LD (by omega) hLD w' (HG.out.later (HB2.out.trans (hb.mono HB2.out.size)))).mono fun e w'' h => ⟨h.1, hb.trans (h.2.mono hb.size)⟩
            have HPi : Hid (∀ w', Below w2.heap.size w2 w' → Calls Tryz.prog 46 #[.string (SG ++ LD), .int .i64 (q : Int), .int .i64 64] w' fun e w'' => (∃ z N, e = .returned (.tuple #[.int .i64 z, .iface 120 (.pointer (some ⟨N, 0, none⟩))]) ∧ w''.cell? ⟨N, 2, none⟩ = some (.iface 159 (.pointer (some eb)))) ∧ Below w2.heap.size w2 w'') :=
              fun w' hb => (pint_rng HSi.out hv w' eb (HG.out.later (HB2.out.trans (hb.mono HB2.out.size))) (((HB2.out.trans (hb.mono HB2.out.size)).cell (p := ⟨0, 0, none⟩) (by have := HG.out.big; dsimp only; omega)).trans heb)).mono fun e w'' h => ⟨h.1, hb.trans (h.2.mono hb.size)⟩
            have E1 : Hid (∀ w', Below w2.heap.size w2 w' → w'.cell? ⟨N, 1, none⟩ = some (.int .i64 (q : Int))) := fun w' hb => e1 ⟨w', hb⟩
            have E0 : Hid (∀ w', Below w2.heap.size w2 w' → w'.cell? ⟨0, 0, none⟩ = some (.iface 159 (.pointer (some eb)))) := fun w' hb => ((HB2.out.trans (hb.mono HB2.out.size)).cell (p := ⟨0, 0, none⟩) (by have := HG.out.big; dsimp only; omega)).trans heb
            have hbD := hbe.out.drew
            have d1 := E1.out _ hbD
            clear e0 e1 e2 heb hv
            go_wp2_with fail
            go_cut [7, 8] from 56 to 65 (fun s7 s8 w' => (∃ z, s7 = .int .i64 z) ∧ ∃ K, s8 = .iface 120 (.pointer (some ⟨K, 0, none⟩)) ∧ w'.cell? ⟨K, 2, none⟩ = some (.iface 159 (.pointer (some eb))) ∧ Hid (Below w2.heap.size w2 w'))
            case first =>
              go_region_with (first
                | (go_at_call 33; refine (HRp.out _ hbD).mono ?_; rintro e wx ⟨rfl, hbx⟩; have dx := E1.out _ hbx)
                | (go_at_call 46; refine (HPi.out _ hbx).mono ?_; rintro e wy ⟨⟨z, K, rfl, hK⟩, hby⟩))
              all_goals (try go_wp2_with fail)
              all_goals go_meet
              all_goals exact ⟨⟨_, rfl⟩, K, rfl, hK, hby⟩
            case rest =>
              obtain ⟨⟨z, rfl⟩, K, rfl, hK, hbf⟩ := hcut
              have d0 := E0.out _ hbf.out
              have HIs := Lib.hid (is_num K eb)
              go_wp2_with (go_at_call 47; refine (HIs.out _ hK).mono ?_; rintro e w6 ⟨rfl, rfl⟩)
              go_ret2
              exact ⟨rfl, HB2.out.trans (hbf.out.mono HB2.out.size)⟩
          · rw [if_neg hv] at HV
            obtain ⟨z, hz⟩ : ∃ z, signI m (valQ q 0 LD.data.toList) = z := ⟨_, rfl⟩
            have C3 : Hid (∀ n : Later w2, Calls Tryz.prog 33 #[.string DG, .string ⟨#[95]⟩, .string ⟨#[]⟩] n.at_ fun e w'' => e = .returned (.string LD) ∧ ∃ m : Later w2, w'' = m.at_) :=
              fun n => calls_later ((rep_is DG LD (by omega) hLD n.at_ (HG.out.later (HB2.out.trans (n.below.mono HB2.out.size)))).mono fun e w' h => ⟨h.1, n.below.trans (h.2.mono n.below.size)⟩)
            have C4 : Hid (∀ n : Later w2, Calls Tryz.prog 46 #[.string (SG ++ LD), .int .i64 (q : Int), .int .i64 64] n.at_ fun e w'' => e = .returned (.tuple #[.int .i64 z, .nilIface]) ∧ ∃ m : Later w2, w'' = m.at_) :=
              fun n => calls_later ((pint_ok HSi.out hv n.at_).mono fun e w' h => ⟨h.1.trans (by rw [hz]), n.below.trans (h.2.mono n.below.size)⟩)
            go_wp2_with fail
            refine wp_region_later w2 (by kernel_rfl) (by kernel_rfl) hbe.out ?_
            repeat (go_big_quiet_step (first | (go_at_call 33; with_reducible exact C3.out _) | (go_at_call 46; with_reducible exact C4.out _)))
            refine wpQuiet_nil ?_
            rintro _ ⟨⟨w5, hb5⟩, rfl⟩
            have HW5 := HB2.out.trans (hb5.mono HB2.out.size)
            have hG5 := HG.out.later HW5
            have d0 := (HW5.cell (p := ⟨0, 0, none⟩) (by have := HG.out.big; dsimp only; omega)).trans heb
            injection HV with h1 h2
            subst h2
            rw [hz] at h1
            have hzr : I64 z := by
              unfold I64; rw [← hz]
              unfold limI at hv; unfold signI
              cases m <;> simp at hv ⊢ <;> omega
            have HF := Lib.hid (fmt_is z hzr r h1.symm _ hG5.tab)
            have HIs := Lib.hid (is_nil eb)
            clear hv hzr h1 hz
            go_wp2_with (first
              | (go_at_call 47; refine (HIs.out _).mono ?_; rintro e w6 ⟨rfl, rfl⟩)
              | (go_at_call 48; refine HF.out.mono ?_; rintro e w7 ⟨rfl, hb7⟩))
            go_ret2
            exact ⟨rfl, HW5.trans (hb7.mono HW5.size)⟩
        · have HV := HR.out
          rw [readW_bad hQ.out (by rw [hrb.out, hzb.out]; exact hbad)] at HV
          injection HV with h1 h2
          subst h2
          have hr0 : r = ⟨#[]⟩ := str_eq h1.symm
          subst hr0
          go_wp2
          go_ret2
          exact ⟨rfl, HW.out⟩

end Go.Proofs.YtncldnghhpdolaaGreatDoor
