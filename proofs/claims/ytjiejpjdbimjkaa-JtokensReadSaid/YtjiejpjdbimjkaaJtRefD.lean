/- Walks over the reference of chapter 08: Next at strings, and at no token; no statement of the seat is proved here. -/
import Derived.Test.YtjiejpjdbimjkaaJtRefC
namespace Go.Proofs.Ytjiejpjdbimjkaa
open Go.RowKit

theorem hex_take {l : List UInt8} {s : Nat} (n : Nat) (hn : n ≤ 4) (h : ∀ m, m < n → isHex (atR l (s + m)) = true) : runL isHex (l.take (s + 4)) s = runL isHex (l.take (s + 4)) (s + n) := by
  induction n with
  | zero => rfl
  | succ n ih =>
    rw [ih (by omega) (fun m hm => h m (by omega))]
    have hx := h n (by omega)
    have hlt := (runR_yes zero_not.2.2.1 hx).1
    rw [atR_lt hlt] at hx
    rw [runL_yes (l := l.take (s + 4)) (by simp; omega) (by simpa using hx)]
    rfl
theorem hex_end {l : List UInt8} {s n : Nat} (hn : n < 4) (h : ∀ m, m < n → isHex (atR l (s + m)) = true) (h2 : isHex (atR l (s + n)) = false) : runL isHex (l.take (s + 4)) s = s + n := by
  rw [hex_take n (by omega) h]
  by_cases hlt : s + n < (l.take (s + 4)).length
  · have hlt' : s + n < l.length := by simp at hlt; omega
    rw [atR_lt hlt'] at h2
    exact runL_no hlt (by simpa using h2)
  · exact runL_end hlt
theorem hex_all {l : List UInt8} {s : Nat} (h : ∀ m, m < 4 → isHex (atR l (s + m)) = true) : runL isHex (l.take (s + 4)) s = s + 4 := by
  rw [hex_take 4 (by omega) h]
  exact runL_end (by simp; omega)
theorem esc_chain {l : List UInt8} {k : Nat} (h : k < l.length) : (!isAt l k [34, 92, 47, 98, 102, 110, 114, 116]) = (((l[k].toNat : Int) != 34) && ((l[k].toNat : Int) != 92) && ((l[k].toNat : Int) != 47) && ((l[k].toNat : Int) != 98) && ((l[k].toNat : Int) != 102) && ((l[k].toNat : Int) != 110) && ((l[k].toNat : Int) != 114) && ((l[k].toNat : Int) != 116)) := by
  rw [isAt_lt h]
  have hb : ∀ n : Nat, n < 256 → ((l[k].toNat : Int) != (n : Int)) = !(l[k] == UInt8.ofNat n) := fun n hn => by rw [bne, byteEq _ n hn]
  have h1 := hb 34 (by omega); have h2 := hb 92 (by omega); have h3 := hb 47 (by omega); have h4 := hb 98 (by omega); have h5 := hb 102 (by omega); have h6 := hb 110 (by omega); have h7 := hb 114 (by omega); have h8 := hb 116 (by omega)
  simp only [Int.cast_ofNat_Int] at h1 h2 h3 h4 h5 h6 h7 h8
  rw [h1, h2, h3, h4, h5, h6, h7, h8]
  simp only [List.contains_cons, List.contains_nil, Bool.or_false, Bool.not_or, Bool.and_assoc]
  rfl

set_option maxRecDepth 100000 in
set_option maxHeartbeats 2000000 in
theorem rnext_none (A : Option Addr) (l : List UInt8) (c : Nat) (k : Nat) (hk : k < l.length) (_hl : l.length ≤ 4611686018427387904) (hsp : isSpace l[k] = false) (hmk : isMark l[k] = false) (hle : isLetter l[k] = false) (hnu : isNum l[k] = false) (hqu : isQuote l[k] = false) (w : World) (hB : BS w w.heap.size A l) :
    Calls Try.prog 11 #[.slice A l.length c, .int .i64 k] w fun e w' => e = .returned (nextM l k).rval ∧ Below w.heap.size w w' := by
  have HN : Hid (nextM l k = ⟨0, 0, 0, 3, k⟩) := by
    show _ = _
    rw [nextM_in hk, nextF, if_neg (by simp [hsp]), if_neg (by simp [hmk]), if_neg (by simp [hle]), if_neg (by simp [hnu]), if_neg (by simp [hqu])]; rfl
  obtain ⟨a, rfl, ha, hc⟩ := hB k hk
  clear hB
  have hca : ∀ o p, ((w.alloc o).alloc p).cell? (a.add k) = some (.int .u8 ((l[k].toNat : Nat) : Int)) := fun o p => cell_later (below_new2 w o p) hc
  have HD := Lib.hid rspace_tells
  have HG := Lib.hid rdigit_tells
  have hkl : ¬ l.length ≤ k := by omega
  obtain ⟨m1, m2, m3, m4, m5, m6⟩ := mark_chain_not hmk
  have hx : (l[k].toNat : Int) < 97 ∨ 97 ≤ (l[k].toNat : Int) ∧ 122 < (l[k].toNat : Int) := by rw [letter_le] at hle; simp at hle; omega
  have q34 : ((l[k].toNat : Int) == 34) = false := hqu
  have hnu' := hnu
  rw [isNum, Bool.or_eq_false_iff] at hnu'
  obtain ⟨n45, ndig⟩ := hnu'
  clear hnu hle hqu
  rcases hx with x1 | ⟨x1, x2⟩
  all_goals (
    go_enter Try.func11, Try.ntmps11
    go_wp2_with (first | (go_at_call 18; refine (HD.out _ _).mono ?_; rintro e w' ⟨rfl, rfl⟩) | (go_at_call 20; refine (HG.out _ _).mono ?_; rintro e w' ⟨rfl, rfl⟩) | (go_at_call 17; refine (syntax_any _ _).mono ?_; rintro e w1 ⟨rfl, hb1⟩; obtain ⟨hx, hbw⟩ := RxB.call hb1; obtain ⟨c1, c2, c3, c4, c5, f1, f2, f3, f4, f5, hltn⟩ := hx.facts; clear hx hb1))
    exact bodyPost_ret (v := .tuple #[.agg #[.int .i64 0, .int .i64 0, .int .i64 0], .agg #[.int .i64 3, .int .i64 (k)]]) (by simp [results, Try.results11, go_sem, c1, c2, c3, c4, c5]) rfl ⟨rret _ _ _ _ _ _ HN.out, ((((hbw.setCell (Nat.le_refl _) _).setCell (Nat.le_refl _) _).setCell (Nat.le_refl _) _).setCell (by simp) _).setCell (by simp) _⟩)

end Go.Proofs.Ytjiejpjdbimjkaa
