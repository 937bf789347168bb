/- The reference's Read; no statement of the seat is proved here. -/
import Derived.Test.YtghjiddcbbnhpaaGreatDoorInG
import Derived.Test.YtghjiddcbbnhpaaGreatDoorInT
namespace Go.Proofs.YtghjiddcbbnhpaaGreatDoor
open Go.RowKit

theorem take2 {s : ByteArray} (h : 2 ≤ s.size) : s.data.toList.take 2 = [s[0], s[1]] := by
  cases hl : s.data.toList with
  | nil => rw [← size_list, hl] at h; simp at h
  | cons a l =>
    cases l with
    | nil => rw [← size_list, hl] at h; simp at h
    | cons b l =>
      have e1 : s[0] = a := (show s.data.toList[0]'(by rw [hl]; simp) = a by simp [hl])
      have e2 : s[1] = b := (show s.data.toList[1]'(by rw [hl]; simp) = b by simp [hl])
      rw [e1, e2]; rfl
def preB (l : List UInt8) : Bool := decide (l.take 2 = [48, 120] ∨ l.take 2 = [48, 111] ∨ l.take 2 = [48, 98])
theorem pre_short {s : ByteArray} (h : ¬ 2 ≤ s.size) : preB s.data.toList = false := decide_eq_false fun e => by
  have hl : ∀ x : UInt8, s.data.toList.take 2 ≠ [48, x] := fun x e => by
    have := congrArg List.length e
    rw [List.length_take, size_list] at this
    simp at this; omega
  rcases e with e | e | e <;> exact hl _ e
theorem pre_at {s : ByteArray} (h : 2 ≤ s.size) : preB s.data.toList = decide (s[0].toNat = 48 ∧ (s[1].toNat = 120 ∨ s[1].toNat = 111 ∨ s[1].toNat = 98)) := by
  unfold preB
  rw [take2 h]
  have e : ∀ (c : UInt8) (n : UInt8), c = n ↔ c.toNat = n.toNat := fun c n => UInt8.toNat_inj.symm
  simp only [List.cons.injEq, and_true, e]
  exact decide_eq_decide.2 ⟨by rintro (⟨a, b⟩ | ⟨a, b⟩ | ⟨a, b⟩) <;> simp_all, by rintro ⟨a, b | b | b⟩ <;> simp_all⟩
/-- Read at once as wrong? -/
def badB (q : Nat) (l : List UInt8) : Bool := decide (l = [] ∨ (q = 10 ∧ 1 < l.length ∧ l.head? = some 48))
theorem readW_badB {q : Nat} {m : Bool} {l : List UInt8} (h : badB q l = true) : readW q m l = ([], 3) := by
  unfold readW; rw [if_pos (of_decide_eq_true h)]
theorem readW_scan {q : Nat} {m : Bool} {l : List UInt8} (h : badB q l = false) : readW q m l = match scanQ q false l 0 with
    | none => ([], 3)
    | some n => if limI m < n then ([], 8) else (Lib.itoa (signI m n), 0) := by
  unfold readW
  rw [if_neg (of_decide_eq_false h)]
  cases scanQ q false l 0 <;> rfl
theorem strip_len : ∀ l : List UInt8, (stripZ l).length ≤ l.length
  | [] => Nat.le_refl _
  | c :: l => by
    rw [stripZ]
    split
    · have := strip_len l; simp; omega
    · exact Nat.le_refl _
theorem times_len {q d : Nat} (hq : q ≤ 16) (hd : d < 16) {l : List UInt8} (h : ∀ c ∈ l, dgB c = true) : (timesL q d l).length ≤ l.length + 2 := by
  unfold timesL
  have h1 := strip_len (headD (mulL q d l).2 ++ (mulL q d l).1)
  rw [List.length_append, mul_len] at h1
  have h2 := headD_len (mul_carry q d hq hd l h)
  omega
theorem lim8 : Lib.decDigits 9223372036854775808 = [57, 50, 50, 51, 51, 55, 50, 48, 51, 54, 56, 53, 52, 55, 55, 53, 56, 48, 56] := dec_natV _ [57, 50, 50, 51, 51, 55, 50, 48, 51, 54, 56, 53, 52, 55, 55, 53, 56, 48, 56] rfl (by simp) (by decide) (by decide)
theorem lim7 : Lib.decDigits 9223372036854775807 = [57, 50, 50, 51, 51, 55, 50, 48, 51, 54, 56, 53, 52, 55, 55, 53, 56, 48, 55] := dec_natV _ [57, 50, 50, 51, 51, 55, 50, 48, 51, 54, 56, 53, 52, 55, 55, 53, 56, 48, 55] rfl (by simp) (by decide) (by decide)
theorem scan_at {q : Nat} {p : Bool} {l : List UInt8} {k n : Nat} {R : Option Nat} (h : scanQ q p (l.drop k) n = R) (hk : k < l.length) :
    (l[k] = 95 ∧ (p = false ∨ k + 1 = l.length) ∧ R = none) ∨ (l[k] = 95 ∧ p = true ∧ k + 1 ≠ l.length ∧ scanQ q false (l.drop (k + 1)) n = R) ∨ (l[k] ≠ 95 ∧ digV l[k] < q ∧ scanQ q true (l.drop (k + 1)) (n * q + digV l[k]) = R) ∨ (l[k] ≠ 95 ∧ q ≤ digV l[k] ∧ R = none) := by
  rw [List.drop_eq_getElem_cons hk, scanQ] at h
  have hnil : l.drop (k + 1) = [] ↔ k + 1 = l.length := by rw [List.drop_eq_nil_iff]; omega
  by_cases h1 : l[k] = 95
  · rw [if_pos h1] at h
    by_cases h2 : p = false ∨ l.drop (k + 1) = []
    · rw [if_pos h2] at h
      exact .inl ⟨h1, h2.imp id hnil.1, h.symm⟩
    · rw [if_neg h2] at h
      refine .inr (.inl ⟨h1, ?_, fun e => h2 (.inr (hnil.2 e)), h⟩)
      cases p
      · exact absurd (.inl rfl) h2
      · rfl
  · rw [if_neg h1] at h
    by_cases h2 : digV l[k] < q
    · rw [if_pos h2] at h; exact .inr (.inr (.inl ⟨h1, h2, h⟩))
    · rw [if_neg h2] at h; exact .inr (.inr (.inr ⟨h1, by omega, h.symm⟩))

set_option maxRecDepth 100000 in
set_option maxHeartbeats 4000000 in
theorem rread_is (s r : ByteArray) (c : Int) (hs : s.size ≤ 50000) (hr : readI s.data.toList = (r.data.toList, c)) (w : World) :
    Calls Tryz.prog 10 #[.string s] w fun e w' => e = .returned (.tuple #[.string r, .int .i64 c]) ∧ Below w.heap.size w w' := by
  obtain ⟨pre, hpre⟩ : ∃ b, Hid (preB s.data.toList = b) := ⟨_, rfl⟩
  go_enter Tryz.func10, Tryz.ntmps10
  go_upto_region 3 with (fail)
  go_cut [31] from 9 to 31 (fun s31 w' => s31 = .bool pre ∧ w' = w)
  case first =>
    by_cases hz : 2 ≤ s.size
    · have b0 : decide ((2 : Int) ≤ (s.size : Int)) = true := decide_eq_true (by omega)
      have hp := hpre.out
      rw [pre_at hz] at hp
      have h0 : 0 < s.size := by omega
      have h1 : 1 < s.size := by omega
      have x0 := s[0].toNat_lt
      have x1 := s[1].toNat_lt
      by_cases e0 : s[0].toNat = 48
      · have g0 : ((s[0].toNat : Int) == 48) = true := by simp; omega
        by_cases e1 : s[1].toNat = 120
        · have g1 : ((s[1].toNat : Int) == 120) = true := by simp; omega
          have hv : pre = true := hp.symm.trans (decide_eq_true ⟨e0, .inl e1⟩)
          subst hv; clear hp e0 e1
          go_wp2
          go_meet
          case rel => exact ⟨rfl, rfl⟩
        · have g1 : ((s[1].toNat : Int) == 120) = false := by simp; omega
          by_cases e2 : s[1].toNat = 111
          · have g2 : ((s[1].toNat : Int) == 111) = true := by simp; omega
            have hv : pre = true := hp.symm.trans (decide_eq_true ⟨e0, .inr (.inl e2)⟩)
            subst hv; clear hp e0 e1 e2
            go_wp2
            go_meet
            case rel => exact ⟨rfl, rfl⟩
          · have g2 : ((s[1].toNat : Int) == 111) = false := by simp; omega
            by_cases e3 : s[1].toNat = 98
            · have g3 : ((s[1].toNat : Int) == 98) = true := by simp; omega
              have hv : pre = true := hp.symm.trans (decide_eq_true ⟨e0, .inr (.inr e3)⟩)
              subst hv; clear hp e0 e1 e2 e3
              go_wp2
              go_meet
              case rel => exact ⟨rfl, rfl⟩
            · have g3 : ((s[1].toNat : Int) == 98) = false := by simp; omega
              have hv : pre = false := hp.symm.trans (decide_eq_false (by omega))
              subst hv; clear hp e0 e1 e2 e3
              go_wp2
              go_meet
              case rel => exact ⟨rfl, rfl⟩
      · have g0 : ((s[0].toNat : Int) == 48) = false := by simp; omega
        have hv : pre = false := hp.symm.trans (decide_eq_false fun e => e0 e.1)
        subst hv; clear hp e0
        go_wp2
        go_meet
        case rel => exact ⟨rfl, rfl⟩
    · have b0 : decide ((2 : Int) ≤ (s.size : Int)) = false := decide_eq_false (by omega)
      have hv : pre = false := hpre.out.symm.trans (pre_short hz)
      subst hv
      go_wp2
      go_meet
      case rel => exact ⟨rfl, rfl⟩
  case rest =>
    obtain ⟨rfl, hw⟩ := hcut
    have hw := hw.symm; subst hw
    obtain ⟨q, m, DG, hway, hbase, hDz⟩ : ∃ q m, ∃ DG : ByteArray, wayI s.data.toList = (q, m, DG.data.toList) ∧ Hid (Base4 q) ∧ DG.size ≤ s.size := by
      obtain ⟨q, m, SG, DG, ht⟩ := taken_ex s
      exact ⟨q, m, DG, ht.way, ht.base, ht.small⟩
    have HR : Hid (readW q m DG.data.toList = (r.data.toList, c)) := by unfold readI at hr; rw [hway] at hr; exact hr
    clear hr
    go_upto_if 31 with (fail)
    go_cut [0, 4, 5] from 32 to 57 (fun s0 s4 s5 w' => s0 = .string DG ∧ s4 = .int .i64 (q : Int) ∧ s5 = .bool m ∧ w' = w)
    case first =>
      have hp := hpre.out
      cases pre
      · have hno : ¬ (s.data.toList.take 2 = [48, 120] ∨ s.data.toList.take 2 = [48, 111] ∨ s.data.toList.take 2 = [48, 98]) := of_decide_eq_false hp
        have hw : wayI s.data.toList = if s.data.toList.head? = some 43 then (10, false, s.data.toList.drop 1) else if s.data.toList.head? = some 45 then (10, true, s.data.toList.drop 1) else (10, false, s.data.toList) := by
          unfold wayI
          rw [if_neg (fun e => hno (.inl e)), if_neg (fun e => hno (.inr (.inl e))), if_neg (fun e => hno (.inr (.inr e)))]
        rw [hway] at hw
        clear hp hno hway hpre
        by_cases h0 : 0 < s.size
        · have b0 : decide ((0 : Int) < (s.size : Int)) = true := decide_eq_true (by omega)
          have x0 := s[0].toNat_lt
          rw [head_at h0] at hw
          by_cases e0 : s[0].toNat = 43
          · have g0 : ((s[0].toNat : Int) == 43) = true := by simp; omega
            have g1 : ((s[0].toNat : Int) == 45) = false := by simp; omega
            rw [if_pos (by rw [show s[0] = 43 from UInt8.toNat_inj.1 e0])] at hw
            injection hw with h1 h2; injection h2 with h2 h3
            subst h1 h2
            have hD : s.extract 1 s.size = DG := str_eq (by rw [ext_drop, h3])
            clear e0 h3
            go_wp2
            go_meet
            case rel => exact ⟨rfl, rfl, rfl, rfl⟩
          · have g0 : ((s[0].toNat : Int) == 43) = false := by simp; omega
            rw [if_neg (fun e => e0 (by rw [Option.some.inj e]; rfl))] at hw
            by_cases e1 : s[0].toNat = 45
            · have g1 : ((s[0].toNat : Int) == 45) = true := by simp; omega
              rw [if_pos (by rw [show s[0] = 45 from UInt8.toNat_inj.1 e1])] at hw
              injection hw with h1 h2; injection h2 with h2 h3
              subst h1 h2
              have hD : s.extract 1 s.size = DG := str_eq (by rw [ext_drop, h3])
              clear e0 e1 h3
              go_wp2
              go_meet
              case rel => exact ⟨rfl, rfl, rfl, rfl⟩
            · have g1 : ((s[0].toNat : Int) == 45) = false := by simp; omega
              rw [if_neg (fun e => e1 (by rw [Option.some.inj e]; rfl))] at hw
              injection hw with h1 h2; injection h2 with h2 h3
              subst h1 h2
              obtain rfl : s = DG := str_eq h3.symm
              clear e0 e1 h3
              go_wp2
              go_meet
              case rel => exact ⟨rfl, rfl, rfl, rfl⟩
        · have b0 : decide ((0 : Int) < (s.size : Int)) = false := decide_eq_false (by omega)
          have hnil : s.data.toList = [] := List.length_eq_zero_iff.1 (by rw [size_list]; omega)
          rw [hnil] at hw
          injection hw with h1 h2; injection h2 with h2 h3
          subst h1 h2
          obtain rfl : s = DG := str_eq (by rw [hnil, h3])
          clear h3 hnil
          go_wp2
          go_meet
          case rel => exact ⟨rfl, rfl, rfl, rfl⟩
      · have hz : 2 ≤ s.size := Classical.byContradiction fun e => by rw [pre_short e] at hp; cases hp
        have h1 : 1 < s.size := by omega
        have x1 := s[1].toNat_lt
        rw [pre_at hz] at hp
        have hp := of_decide_eq_true hp
        have h48 : s[0] = 48 := UInt8.toNat_inj.1 hp.1
        have hD : ∀ q', wayI s.data.toList = (q', false, s.data.toList.drop 2) → q = q' ∧ m = false ∧ s.extract 2 s.size = DG := by
          intro q' e
          rw [hway] at e
          injection e with e1 e2; injection e2 with e2 e3
          exact ⟨e1, e2, str_eq (by rw [ext_drop, e3])⟩
        have hw : ∀ (x : UInt8), s[1] = x → s.data.toList.take 2 = [48, x] := fun x e => by rw [take2 hz, h48, e]
        by_cases e1 : s[1].toNat = 120
        · have g1 : ((s[1].toNat : Int) == 120) = true := by simp; omega
          have g2 : ((s[1].toNat : Int) == 111) = false := by simp; omega
          obtain ⟨rfl, rfl, hD⟩ := hD 16 (by unfold wayI; rw [if_pos (hw 120 (UInt8.toNat_inj.1 e1))])
          clear hw hp h48 e1
          go_wp2
          go_meet
          case rel => exact ⟨rfl, rfl, rfl, rfl⟩
        · have g1 : ((s[1].toNat : Int) == 120) = false := by simp; omega
          have n1 : s.data.toList.take 2 ≠ [48, 120] := fun e => e1 (by rw [take2 hz] at e; injection e with _ e; injection e with e _; rw [e]; rfl)
          by_cases e2 : s[1].toNat = 111
          · have g2 : ((s[1].toNat : Int) == 111) = true := by simp; omega
            obtain ⟨rfl, rfl, hD⟩ := hD 8 (by unfold wayI; rw [if_neg n1, if_pos (hw 111 (UInt8.toNat_inj.1 e2))])
            clear hw hp h48 e1 e2 n1
            go_wp2
            go_meet
            case rel => exact ⟨rfl, rfl, rfl, rfl⟩
          · have g2 : ((s[1].toNat : Int) == 111) = false := by simp; omega
            have n2 : s.data.toList.take 2 ≠ [48, 111] := fun e => e2 (by rw [take2 hz] at e; injection e with _ e; injection e with e _; rw [e]; rfl)
            obtain ⟨rfl, rfl, hD⟩ := hD 2 (by unfold wayI; rw [if_neg n1, if_neg n2, if_pos (hw 98 (UInt8.toNat_inj.1 (show s[1].toNat = 98 by omega)))])
            clear hw hp h48 e1 e2 n1 n2
            go_wp2
            go_meet
            case rel => exact ⟨rfl, rfl, rfl, rfl⟩
    case rest =>
      obtain ⟨rfl, rfl, rfl, hw⟩ := hcut
      have hw := hw.symm; subst hw
      clear hway hpre
      have hq16 : 2 ≤ q ∧ q ≤ 16 := by have := hbase.out; unfold Base4 at this; omega
      obtain ⟨bad, hbad⟩ : ∃ b, Hid (badB q DG.data.toList = b) := ⟨_, rfl⟩
      go_upto_region 13 with (fail)
      go_cut [74] from 58 to 74 (fun s74 w' => s74 = .bool bad ∧ w' = w)
      case first =>
        have hb := hbad.out
        by_cases h0 : DG.size = 0
        · have b0 : ((DG.size : Int) == 0) = true := by rw [beq_iff_eq]; omega
          have hv : bad = true := hb.symm.trans (decide_eq_true (.inl (List.length_eq_zero_iff.1 h0)))
          subst hv; clear hb h0
          go_wp2
          go_meet
          case rel => exact ⟨rfl, rfl⟩
        · have b0 : ((DG.size : Int) == 0) = false := by rw [beq_eq_false_iff_ne]; omega
          have hne : DG.data.toList ≠ [] := fun e => h0 (by rw [← size_list, e]; rfl)
          by_cases h10 : q = 10
          · have b1 : ((q : Int) == 10) = true := by simp; omega
            by_cases hl : 1 < DG.size
            · have b2 : decide ((1 : Int) < (DG.size : Int)) = true := decide_eq_true (by omega)
              have hl0 : 0 < DG.size := by omega
              have x0 := DG[0].toNat_lt
              by_cases e0 : DG[0].toNat = 48
              · have g0 : ((DG[0].toNat : Int) == 48) = true := by simp; omega
                have hv : bad = true := hb.symm.trans (decide_eq_true (.inr ⟨h10, hl, by rw [head_at hl0, show DG[0] = 48 from UInt8.toNat_inj.1 e0]⟩))
                subst hv; clear hb h0 e0 hne h10
                go_wp2
                go_meet
                case rel => exact ⟨rfl, rfl⟩
              · have g0 : ((DG[0].toNat : Int) == 48) = false := by simp; omega
                have hv : bad = false := hb.symm.trans (decide_eq_false fun e => e.elim hne fun e => e0 (by have := e.2.2; rw [head_at hl0] at this; rw [Option.some.inj this]; rfl))
                subst hv; clear hb h0 e0 hne h10
                go_wp2
                go_meet
                case rel => exact ⟨rfl, rfl⟩
            · have b2 : decide ((1 : Int) < (DG.size : Int)) = false := decide_eq_false (by omega)
              have hv : bad = false := hb.symm.trans (decide_eq_false fun e => e.elim hne fun e => hl e.2.1)
              subst hv; clear hb h0 hne h10
              go_wp2
              go_meet
              case rel => exact ⟨rfl, rfl⟩
          · have b1 : ((q : Int) == 10) = false := by simp; omega
            have hv : bad = false := hb.symm.trans (decide_eq_false fun e => e.elim hne fun e => h10 e.1)
            subst hv; clear hb h0 hne h10
            go_wp2
            go_meet
            case rel => exact ⟨rfl, rfl⟩
      case rest =>
        obtain ⟨rfl, hw⟩ := hcut
        have hw := hw.symm; subst hw
        go_upto_if 74 with (fail)
        cases bad
        · have HV := HR.out
          rw [readW_scan hbad.out] at HV
          obtain ⟨R, hR⟩ : ∃ R, scanQ q false DG.data.toList 0 = R := ⟨_, rfl⟩
          rw [hR] at HV
          have HRR := Lib.hid hR
          have HV2 := Lib.hid HV
          clear HR hbad hR HV
          have hdl := size_list DG
          have HDG : Hid (∀ (k : Nat) (h : k < DG.size) (w : World), Calls Tryz.prog 28 #[.int .u8 (DG[k].toNat : Int), .int .i64 (q : Int)] w fun e w' => e = .returned (.int .i64 (digR q DG[k])) ∧ w = w') := fun k h w => digit_is DG[k] q hbase.out w
          have HTM := Lib.hid (fun S T d hs hd hdg ht w => times_is hbase.out S T d hs hd hdg ht w)
          go_wp2_with fail
          go_loopg [6, 7] (DG.size + 1) (fun g s6 s7 wr => ∃ (k n : Nat) (p : Bool) (S : ByteArray), s7 = .int .i64 (k : Int) ∧ s6 = .string S ∧ k ≤ DG.size ∧ S.size ≤ 2 * k + 1 ∧ Hid (g = DG.size + 1 - k) ∧ Hid (S.data.toList = Lib.decDigits n) ∧
            Hid (p = decide (k ≠ 0 ∧ DG.data.toList[k - 1]? ≠ some 95)) ∧ Hid (scanQ q p (DG.data.toList.drop k) n = R) ∧ Hid (Below w.heap.size w wr))
          case atStart => exact ⟨0, 0, false, ⟨#[48]⟩, rfl, rfl, Nat.zero_le _, Nat.le_refl _, rfl, dec_zero.symm, rfl, HRR.out, Below.refl _ _⟩
          case round =>
            obtain ⟨k, n, p, S, rfl, rfl, hk, hSz, hg, hS, hp, hsc, hlow⟩ := hrel
            by_cases hlt : k < DG.size
            · have hst := scan_at hsc.out (by omega)
              have he : DG.data.toList[k]'(by omega) = DG[k] := rfl
              rw [he] at hst
              have bk : decide ((k : Int) < (DG.size : Int)) = true := decide_eq_true (by omega)
              have xk := DG[k].toNat_lt
              rcases hst with ⟨e1, e2, hRn⟩ | ⟨e1, e2, e3, e4⟩ | ⟨e1, e2, e3⟩ | ⟨e1, e2, hRn⟩
              · have g1 : ((DG[k].toNat : Int) == 95) = true := by rw [e1]; rfl
                clear e1
                by_cases hk0 : k = 0
                · subst hk0
                  clear e2
                  have HV3 := HV2.out
                  rw [hRn] at HV3
                  injection HV3 with h1 h2
                  subst h2
                  obtain rfl : r = ⟨#[]⟩ := str_eq h1.symm
                  clear h1 hRn HV2
                  go_wp2_with (go_at_call 28; refine (HDG.out _).mono ?_; rintro e w2 ⟨rfl, rfl⟩)
                  go_ret2
                  exact ⟨rfl, hlow.out⟩
                · have b1 : ((k : Int) == 0) = false := by rw [beq_eq_false_iff_ne]; omega
                  by_cases hk1 : k + 1 = DG.size
                  · have b2 : (((k : Int) + 1) == (DG.size : Int)) = true := by rw [beq_iff_eq]; omega
                    clear e2 hk1
                    have HV3 := HV2.out
                    rw [hRn] at HV3
                    injection HV3 with h1 h2
                    subst h2
                    obtain rfl : r = ⟨#[]⟩ := str_eq h1.symm
                    clear h1 hRn HV2
                    go_wp2_with (go_at_call 28; refine (HDG.out _).mono ?_; rintro e w2 ⟨rfl, rfl⟩)
                    go_ret2
                    exact ⟨rfl, hlow.out⟩
                  · obtain ⟨j, rfl⟩ : ∃ j, k = j + 1 := ⟨k - 1, by omega⟩
                    have hjl : j < DG.size := by omega
                    have hj : DG[j].toNat = 95 := by
                      have h1 := hp.out
                      rw [e2.resolve_right (by omega)] at h1
                      have h2 := of_decide_eq_false h1.symm
                      have h3 : DG.data.toList[j + 1 - 1]? = some 95 := Classical.byContradiction fun e => h2 ⟨hk0, e⟩
                      rw [Nat.add_sub_cancel, List.getElem?_eq_getElem (by omega)] at h3
                      have h4 : DG[j] = 95 := Option.some.inj h3
                      rw [h4]; rfl
                    have g2 : ((DG[j].toNat : Int) == 95) = true := by rw [hj]; rfl
                    have b1 : (((j : Int) + 1) == 0) = false := by rw [beq_eq_false_iff_ne]; omega
                    have b2 : (((j : Int) + 1 + 1) == (DG.size : Int)) = false := by rw [beq_eq_false_iff_ne]; omega
                    have b3 : (((j : Int) + 2) == (DG.size : Int)) = false := by rw [beq_eq_false_iff_ne]; omega
                    clear e2 hj hk1
                    have HV3 := HV2.out
                    rw [hRn] at HV3
                    injection HV3 with h1 h2
                    subst h2
                    obtain rfl : r = ⟨#[]⟩ := str_eq h1.symm
                    clear h1 hRn HV2
                    go_wp2_with (go_at_call 28; refine (HDG.out _).mono ?_; rintro e w2 ⟨rfl, rfl⟩)
                    go_ret2
                    exact ⟨rfl, hlow.out⟩
              · have g1 : ((DG[k].toNat : Int) == 95) = true := by rw [e1]; rfl
                have hpp := hp.out
                rw [e2] at hpp
                have h2 := of_decide_eq_true hpp.symm
                obtain ⟨j, rfl⟩ : ∃ j, k = j + 1 := ⟨k - 1, by omega⟩
                have hjl : j < DG.size := by omega
                have xj := DG[j].toNat_lt
                have h3 : DG[j].toNat ≠ 95 := fun e => h2.2 (by
                  rw [Nat.add_sub_cancel, List.getElem?_eq_getElem (by omega)]
                  exact congrArg some (UInt8.toNat_inj.1 e))
                have g2 : ((DG[j].toNat : Int) == 95) = false := by rw [beq_eq_false_iff_ne]; omega
                have b1 : (((j : Int) + 1) == 0) = false := by rw [beq_eq_false_iff_ne]; omega
                have b2 : (((j : Int) + 1 + 1) == (DG.size : Int)) = false := by rw [beq_eq_false_iff_ne]; omega
                have b3 : (((j : Int) + 2) == (DG.size : Int)) = false := by rw [beq_eq_false_iff_ne]; omega
                have hNX : Hid (false = decide (j + 1 + 1 ≠ 0 ∧ DG.data.toList[j + 1 + 1 - 1]? ≠ some 95)) := by
                  refine (decide_eq_false fun e => e.2 ?_).symm
                  rw [Nat.add_sub_cancel, List.getElem?_eq_getElem (by omega)]
                  exact congrArg some e1
                have HE4 := Lib.hid e4
                clear e1 e2 e3 e4 hpp h2 h3 he
                go_wp2
                go_roundg (DG.size + 1 - (j + 1 + 1))
                case measure => have := hg.out; omega
                case rel => exact ⟨j + 1 + 1, n, false, S, by go_num, rfl, by omega, by omega, rfl, hS, hNX, HE4.out, hlow⟩
              · have g1 : ((DG[k].toNat : Int) == 95) = false := by
                  rw [beq_eq_false_iff_ne]; intro e
                  exact e1 (UInt8.toNat_inj.1 (show DG[k].toNat = 95 by omega))
                have hdr : digR q DG[k] = (digV DG[k] : Int) := by unfold digR; rw [if_pos e2]
                obtain ⟨T, hT⟩ := str_ex (timesL q (digV DG[k]) S.data.toList)
                have hdS : ∀ c ∈ S.data.toList, dgB c = true := by rw [hS.out]; exact dec_dg n
                have hTz : T.size ≤ S.size + 2 := by
                  rw [← size_list, hT, ← size_list]
                  exact times_len hq16.2 (by omega) hdS
                have HC := Lib.hid (HTM.out S T (digV DG[k]) (by omega) (by omega) hdS hT)
                have HT2 : Hid (T.data.toList = Lib.decDigits (n * q + digV DG[k])) := by show _ = _; rw [hT, hS.out, times_dec]
                have hNX : Hid (true = decide (k + 1 ≠ 0 ∧ DG.data.toList[k + 1 - 1]? ≠ some 95)) := by
                  refine (decide_eq_true ⟨by omega, ?_⟩).symm
                  rw [Nat.add_sub_cancel, List.getElem?_eq_getElem (by omega)]
                  exact fun e => e1 (Option.some.inj e)
                have HE3 := Lib.hid e3
                have HDk : Hid (∀ w, Calls Tryz.prog 28 #[.int .u8 (DG[k].toNat : Int), .int .i64 (q : Int)] w fun e w' => e = .returned (.int .i64 (digV DG[k] : Int)) ∧ w = w') := fun w => by have := HDG.out k hlt w; rwa [hdr] at this
                generalize digV DG[k] = dv at HC HT2 HE3 HDk e2
                clear e1 e3 hT hdS hdr he
                go_wp2_with (first
                  | (go_at_call 28; refine (HDk.out _).mono ?_; rintro e w2 ⟨rfl, rfl⟩)
                  | (go_at_call 29; refine (HC.out _).mono ?_; rintro e w3 ⟨rfl, hb3⟩))
                go_roundg (DG.size + 1 - (k + 1))
                case measure => have := hg.out; omega
                case rel => exact ⟨k + 1, n * q + dv, true, T, by go_num, rfl, by omega, by omega, rfl, HT2, hNX, HE3.out, hlow.out.trans (hb3.mono hlow.out.size)⟩
              · have g1 : ((DG[k].toNat : Int) == 95) = false := by
                  rw [beq_eq_false_iff_ne]; intro e
                  exact e1 (UInt8.toNat_inj.1 (show DG[k].toNat = 95 by omega))
                have hdr : digR q DG[k] = -1 := by unfold digR; rw [if_neg (by omega)]
                have HDk : Hid (∀ w, Calls Tryz.prog 28 #[.int .u8 (DG[k].toNat : Int), .int .i64 (q : Int)] w fun e w' => e = .returned (.int .i64 (-1)) ∧ w = w') := fun w => by have := HDG.out k hlt w; rwa [hdr] at this
                clear e1 e2 hdr he
                have HV3 := HV2.out
                rw [hRn] at HV3
                injection HV3 with h1 h2
                subst h2
                obtain rfl : r = ⟨#[]⟩ := str_eq h1.symm
                clear h1 hRn HV2
                go_wp2_with (go_at_call 28; refine (HDk.out _).mono ?_; rintro e w2 ⟨rfl, rfl⟩)
                go_ret2
                exact ⟨rfl, hlow.out⟩
            · have bk : decide ((k : Int) < (DG.size : Int)) = false := decide_eq_false (by omega)
              have hRn : R = some n := by have := hsc.out; rw [List.drop_of_length_le (by omega)] at this; exact this.symm
              have HV3 := HV2.out
              rw [hRn] at HV3
              have HV4 := Lib.hid HV3
              clear HV3 hRn HV2 HRR hsc
              cases m
              · by_cases hv : 9223372036854775807 < n
                · have HV5 := HV4.out
                  have HO := Lib.hid (over_is S ⟨#[57, 50, 50, 51, 51, 55, 50, 48, 51, 54, 56, 53, 52, 55, 55, 53, 56, 48, 55]⟩ true (by
                    show overL S.data.toList [57, 50, 50, 51, 51, 55, 50, 48, 51, 54, 56, 53, 52, 55, 55, 53, 56, 48, 55] = true
                    rw [← lim7, hS.out, over_dec]; exact decide_eq_true hv))
                  simp only at HV5
                  rw [if_pos (show limI false < n from hv)] at HV5
                  injection HV5 with h1 h2
                  subst h2
                  obtain rfl : r = ⟨#[]⟩ := str_eq h1.symm
                  clear h1 hv HV4
                  go_wp2_with (go_at_call 30; refine (HO.out _).mono ?_; rintro e w2 ⟨rfl, rfl⟩)
                  go_ret2
                  exact ⟨rfl, hlow.out⟩
                · have HV5 := HV4.out
                  have HO := Lib.hid (over_is S ⟨#[57, 50, 50, 51, 51, 55, 50, 48, 51, 54, 56, 53, 52, 55, 55, 53, 56, 48, 55]⟩ false (by
                    show overL S.data.toList [57, 50, 50, 51, 51, 55, 50, 48, 51, 54, 56, 53, 52, 55, 55, 53, 56, 48, 55] = false
                    rw [← lim7, hS.out, over_dec]; exact decide_eq_false hv))
                  simp only at HV5
                  rw [if_neg (show ¬ limI false < n from hv)] at HV5
                  injection HV5 with h1 h2
                  subst h2
                  obtain rfl : r = S := str_eq (by rw [← h1, hS.out, itoa_pos (by unfold signI; simp)]; unfold signI; simp)
                  clear h1 hv HV4
                  go_wp2_with (go_at_call 30; refine (HO.out _).mono ?_; rintro e w2 ⟨rfl, rfl⟩)
                  go_ret2
                  exact ⟨rfl, hlow.out⟩
              · by_cases hv : 9223372036854775808 < n
                · have HV5 := HV4.out
                  have HO := Lib.hid (over_is S ⟨#[57, 50, 50, 51, 51, 55, 50, 48, 51, 54, 56, 53, 52, 55, 55, 53, 56, 48, 56]⟩ true (by
                    show overL S.data.toList [57, 50, 50, 51, 51, 55, 50, 48, 51, 54, 56, 53, 52, 55, 55, 53, 56, 48, 56] = true
                    rw [← lim8, hS.out, over_dec]; exact decide_eq_true hv))
                  simp only at HV5
                  rw [if_pos (show limI true < n from hv)] at HV5
                  injection HV5 with h1 h2
                  subst h2
                  obtain rfl : r = ⟨#[]⟩ := str_eq h1.symm
                  clear h1 hv HV4
                  go_wp2_with (go_at_call 30; refine (HO.out _).mono ?_; rintro e w2 ⟨rfl, rfl⟩)
                  go_ret2
                  exact ⟨rfl, hlow.out⟩
                · have HV5 := HV4.out
                  have HO := Lib.hid (over_is S ⟨#[57, 50, 50, 51, 51, 55, 50, 48, 51, 54, 56, 53, 52, 55, 55, 53, 56, 48, 56]⟩ false (by
                    show overL S.data.toList [57, 50, 50, 51, 51, 55, 50, 48, 51, 54, 56, 53, 52, 55, 55, 53, 56, 48, 56] = false
                    rw [← lim8, hS.out, over_dec]; exact decide_eq_false hv))
                  simp only at HV5
                  rw [if_neg (show ¬ limI true < n from hv)] at HV5
                  injection HV5 with h1 h2
                  subst h2
                  by_cases hn0 : n = 0
                  · have hE : (S.toList == [48]) = true := by rw [ByteArray.toList_eq, hS.out, hn0, dec_zero]; rfl
                    obtain rfl : r = S := str_eq (by rw [← h1, hS.out, hn0]; unfold signI; rfl)
                    clear h1 hv HV4 hn0
                    go_wp2_with (go_at_call 30; refine (HO.out _).mono ?_; rintro e w2 ⟨rfl, rfl⟩)
                    go_ret2
                    exact ⟨rfl, hlow.out⟩
                  · have hE : (S.toList == [48]) = false := by
                      rw [ByteArray.toList_eq, hS.out, beq_eq_false_iff_ne]
                      intro e
                      have e2 := natV_dec n
                      rw [e] at e2
                      exact hn0 e2.symm
                    obtain rfl : r = ⟨#[45]⟩ ++ S := str_eq (by rw [← h1, app_list, hS.out, itoa_neg (by unfold signI; simp; omega)]; unfold signI; simp)
                    clear h1 hv HV4 hn0
                    go_wp2_with (go_at_call 30; refine (HO.out _).mono ?_; rintro e w2 ⟨rfl, rfl⟩)
                    go_ret2
                    exact ⟨rfl, hlow.out⟩
        · have HV := HR.out
          rw [readW_badB hbad.out] at HV
          injection HV with h1 h2
          subst h2
          obtain rfl : r = ⟨#[]⟩ := str_eq h1.symm
          clear HR
          go_wp2
          go_ret2
          exact ⟨rfl, Below.refl _ _⟩

end Go.Proofs.YtghjiddcbbnhpaaGreatDoor
