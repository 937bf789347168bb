/- The reference's run of chapter 06; no statement of the seat is proved here. -/
import Derived.Test.YtncldnghhpdolaaGreatDoorFlA
namespace Go.Proofs.YtncldnghhpdolaaGreatDoor
open Go.RowKit

/-- What the reference's run has read, at a place. -/
structure RS (s : ByteArray) (t : List UInt8) (n k : Nat) (o : List UInt8) (p : Bool) : Prop where
  le : k ≤ s.size
  out : o ++ lowless ((s.data.toList.drop k).take (runE p (s.data.toList.drop k))) = t
  num : k + runE p (s.data.toList.drop k) = n
  beh : (p = true ∧ o ≠ [] ∧ ∃ h : k - 1 < s.size, 0 < k ∧ s[k - 1] ≠ 95) ∨ (p = false ∧ (o = [] ∨ ∃ h : k - 1 < s.size, 0 < k ∧ s[k - 1] = 95))
theorem RS.start {s : ByteArray} {i n : Nat} {t : List UInt8} (hi : i ≤ s.size) (hn : i + runE false (s.data.toList.drop i) = n) (ht : t = runD (s.data.toList.drop i)) : RS s t n i [] false :=
  ⟨hi, ht.symm, hn, .inr ⟨rfl, .inl rfl⟩⟩
theorem dr_at {s : ByteArray} {k : Nat} (h : k < s.size) : s.data.toList.drop k = s[k] :: s.data.toList.drop (k + 1) := List.drop_eq_getElem_cons (show k < s.data.toList.length from h)
theorem RS.stop {s : ByteArray} {n k : Nat} {t o : List UInt8} {p : Bool} (h : RS s t n k o p) (he : runE p (s.data.toList.drop k) = 0) : k = n ∧ o = t := by
  have h1 := h.num
  have h2 := h.out
  rw [he] at h1 h2
  exact ⟨h1, by simpa [lowless] using h2⟩
theorem RS.dig {s : ByteArray} {n k : Nat} {t o : List UInt8} {p : Bool} (h : RS s t n k o p) (hk : k < s.size) (hd : dgB s[k] = true) : RS s t n (k + 1) (o ++ [s[k]]) true := by
  have h1 := h.num
  have h2 := h.out
  rw [dr_at hk, runE, if_pos hd] at h1 h2
  rw [Nat.add_comm 1, List.take_succ_cons, low_cons (dg_ne95 hd)] at h2
  refine ⟨by omega, by simpa using h2, by omega, .inl ⟨rfl, by simp, by simpa using hk, by omega, ?_⟩⟩
  simpa using dg_ne95 hd
theorem RS.mark {s : ByteArray} {n k : Nat} {t o : List UInt8} (h : RS s t n k o true) (hk : k < s.size) (hc : s[k] = 95) (hk1 : k + 1 < s.size) (hd : dgB s[k + 1] = true) : RS s t n (k + 1) o false := by
  have h1 := h.num
  have h2 := h.out
  have h3 : hdB dgB (s.data.toList.drop (k + 1)) = true := by rw [dr_at hk1]; exact hd
  have h4 : ¬ dgB s[k] = true := by rw [hc]; decide
  rw [dr_at hk, runE, if_neg h4, if_pos ⟨hc, rfl, h3⟩] at h1 h2
  rw [Nat.add_comm 1, List.take_succ_cons, hc] at h2
  refine ⟨by omega, ?_, by omega, .inr ⟨rfl, .inr ⟨by simpa using hk, by omega, by simpa using hc⟩⟩⟩
  rw [← h2]
  congr 1
theorem run_no {s : ByteArray} {k : Nat} {p : Bool} (hk : k < s.size) (hd : dgB s[k] = false) (h : ¬ (s[k] = 95 ∧ p = true ∧ hdB dgB (s.data.toList.drop (k + 1)) = true)) : runE p (s.data.toList.drop k) = 0 := by
  rw [dr_at hk, runE, if_neg (by rw [hd]; simp), if_neg h]

set_option maxRecDepth 100000 in
set_option maxHeartbeats 8000000 in
theorem rrun_is (s t : ByteArray) (i n : Nat) (v : Int) (hv : v = (i : Int)) (hs : s.size ≤ 1000000) (hi : i ≤ s.size) (hn : i + runE false (s.data.toList.drop i) = n) (ht : t.data.toList = runD (s.data.toList.drop i)) (w : World) :
    Calls Tryz.prog 21 #[.string s, .int .i64 v] w fun e w' => e = .returned (.tuple #[.int .i64 (n : Int), .string t]) ∧ w' = w := by
  subst hv
  have H0 := RS.start hi hn ht
  clear hn ht
  go_enter Tryz.func21, Tryz.ntmps21
  go_wp2
  go_loop [1, 6] (fun v1 v6 => ∃ (k : Nat) (o : ByteArray) (p : Bool), v1 = .int .i64 k ∧ v6 = .string o ∧ k ≤ s.size ∧ o.size ≤ k ∧ Hid (RS s t.data.toList n k o.data.toList p)) (fun v1 v6 => s.size - (intOf v1).toNat)
  case atStart => exact ⟨i, ⟨#[]⟩, false, rfl, rfl, hi, Nat.zero_le _, H0⟩
  case round =>
    obtain ⟨k, o, p, rfl, rfl, hk, hok, HR⟩ := hrel
    by_cases h1 : k < s.size
    · by_cases hd : dgB s[k] = true
      · have d := dgB_t.1 hd
        have d1 : decide ((48 : Int) ≤ ((s[k]'h1).toNat : Int)) = true := decide_eq_true (by omega)
        have d2 : decide (((s[k]'h1).toNat : Int) ≤ 57) = true := decide_eq_true (by omega)
        have HN := Lib.hid (HR.out.dig h1 hd)
        have s1 : (0 : Int) ≤ (k : Int) + 1 := by omega
        have s2 : (k : Int) + 1 ≤ (s.size : Int) := by omega
        have s3 : (k : Int) ≤ (k : Int) + 1 := by omega
        have s4 : ¬ 9223372036854775807 < o.size + (min (k + 1) s.size - k) := by omega
        have x1 : (s.extract k (k + 1)).data.toList = [s[k]'h1] := by
          rw [ext_list, dr_at h1, show k + 1 - k = 1 by omega]; rfl
        have s5 : (o ++ s.extract k (k + 1)).size ≤ k + 1 := by
          have h5 : (s.extract k (k + 1)).size = 1 := by rw [ByteArray.size_extract]; omega
          have h6 : (o ++ s.extract k (k + 1)).size = o.size + (s.extract k (k + 1)).size := by rw [ByteArray.size_append]
          omega
        rw [← x1, ← app_list] at HN
        clear d hd HR x1
        go_wp2
        go_round
        case rel => exact ⟨k + 1, _, true, by go_num, rfl, by omega, s5, HN⟩
        case measure => simp [intOf]; omega
      · have hd : dgB s[k] = false := by simpa using hd
        have hex : (s[k] = 95 ∧ p = true ∧ hdB dgB (s.data.toList.drop (k + 1)) = true) ∨ ¬ (s[k] = 95 ∧ p = true ∧ hdB dgB (s.data.toList.drop (k + 1)) = true) := Classical.em _
        rcases hex with ⟨hc, rfl, hn⟩ | hex
        · -- a mark that counts
          have hk1 : k + 1 < s.size := by
            refine Nat.lt_of_not_le fun h => ?_
            rw [List.drop_eq_nil_of_le (show s.data.toList.length ≤ k + 1 from h)] at hn; cases hn
          have hd1 : dgB s[k + 1] = true := by rw [dr_at hk1] at hn; exact hn
          have HN := Lib.hid (HR.out.mark h1 hc hk1 hd1)
          rcases HR.out.beh with ⟨_, h6, h7, h8, h9⟩ | ⟨h6, _⟩
          · have d := dgB_t.1 hd1
            have d1 : decide ((48 : Int) ≤ ((s[k]'h1).toNat : Int)) = true := by rw [hc]; rfl
            have d2 : decide (((s[k]'h1).toNat : Int) ≤ 57) = false := by rw [hc]; rfl
            have d3 : (((s[k]'h1).toNat : Int) == 95) = true := by rw [hc]; rfl
            have o1 := full_of h6
            have d4 : (((s[k - 1]'h7).toNat : Int) != 95) = true := by
              rw [bne_iff_ne]; intro e; exact h9 (UInt8.toNat_inj.1 (by simpa using Int.ofNat.inj e))
            have d5 : decide ((k : Int) + 1 < (s.size : Int)) = true := decide_eq_true (by omega)
            have d6 : decide ((48 : Int) ≤ ((s[k + 1]'hk1).toNat : Int)) = true := decide_eq_true (by omega)
            have d7 : decide (((s[k + 1]'hk1).toNat : Int) ≤ 57) = true := decide_eq_true (by omega)
            have s1 : (0 : Int) ≤ (k : Int) - 1 := by omega
            have s2 : (k : Int) - 1 < (s.size : Int) := by omega
            have s3 : ((k : Int) - 1).toNat = k - 1 := by omega
            have s4 : IntKind.i64.wrap ((k : Int) - 1) = (k : Int) - 1 := IntWalk.i64_in _ (by omega)
            have s5 : (0 : Int) ≤ (k : Int) + 1 := by omega
            have s6 : (k : Int) + 1 < (s.size : Int) := by omega
            clear hd hn hc hd1 HR h6 h9 d
            go_wp2
            go_round
            case rel => exact ⟨k + 1, _, false, by go_num, rfl, by omega, by omega, HN⟩
            case measure => simp [intOf]; omega
          · cases h6
        · have he := run_no h1 hd hex
          obtain ⟨rfl, e2⟩ := HR.out.stop he
          obtain rfl : o = t := str_eq e2
          have fin : ∀ x : UInt8, (x.toNat : Int) = 95 → x = 95 := fun x e => UInt8.toNat_inj.1 (by simpa using Int.ofNat.inj e)
          have hB := HR.out.beh
          have lo := fun x : UInt8 => dgB_t (c := x)
          clear HR he H0 hi e2
          by_cases c95 : s[k] = 95
          · have d1 : decide ((48 : Int) ≤ ((s[k]'h1).toNat : Int)) = true := by rw [c95]; rfl
            have d2 : decide (((s[k]'h1).toNat : Int) ≤ 57) = false := by rw [c95]; rfl
            have d3 : (((s[k]'h1).toNat : Int) == 95) = true := by rw [c95]; rfl
            by_cases h0 : o.data.toList = []
            · have o1 : o.toList.isEmpty = true := by rw [ByteArray.toList_eq, h0]; rfl
              have o2 : o.toList = [] := by rw [ByteArray.toList_eq, h0]
              clear hB h0 hex hd c95 lo fin
              go_wp2
              go_ret2
              exact ⟨rfl, rfl⟩
            · have o1 := full_of h0
              obtain ⟨h7, h8⟩ : ∃ h7 : k - 1 < s.size, 0 < k := by
                rcases hB with ⟨_, _, h7, h8, _⟩ | ⟨_, h | ⟨h7, h8, _⟩⟩
                · exact ⟨h7, h8⟩
                · exact absurd h h0
                · exact ⟨h7, h8⟩
              have s1 : (0 : Int) ≤ (k : Int) - 1 := by omega
              have s2 : (k : Int) - 1 < (s.size : Int) := by omega
              have s3 : ((k : Int) - 1).toNat = k - 1 := by omega
              have s4 : IntKind.i64.wrap ((k : Int) - 1) = (k : Int) - 1 := IntWalk.i64_in _ (by omega)
              by_cases hq : s[k - 1] = 95
              · have d4 : (((s[k - 1]'h7).toNat : Int) != 95) = false := by rw [hq]; rfl
                clear hB h0 hex hd c95 lo fin hq
                go_wp2
                go_ret2
                exact ⟨rfl, rfl⟩
              · have d4 : (((s[k - 1]'h7).toNat : Int) != 95) = true := by
                  rw [bne_iff_ne]; exact fun e => hq (fin _ e)
                have hpt : p = true := by
                  rcases hB with ⟨h, _⟩ | ⟨_, h | ⟨_, _, h⟩⟩
                  · exact h
                  · exact absurd h h0
                  · exact absurd h hq
                have s5 : (0 : Int) ≤ (k : Int) + 1 := by omega
                by_cases hk1 : k + 1 < s.size
                · have d5 : decide ((k : Int) + 1 < (s.size : Int)) = true := decide_eq_true (by omega)
                  have s6 : (k : Int) + 1 < (s.size : Int) := by omega
                  have hn : ¬ dgB s[k + 1] = true := fun h => hex ⟨c95, hpt, by rw [dr_at hk1]; exact h⟩
                  by_cases hn1 : 48 ≤ (s[k + 1]'hk1).toNat
                  · have d6 : decide ((48 : Int) ≤ ((s[k + 1]'hk1).toNat : Int)) = true := decide_eq_true (by omega)
                    have d7 : decide (((s[k + 1]'hk1).toNat : Int) ≤ 57) = false := decide_eq_false (fun h => hn ((lo _).2 ⟨hn1, by omega⟩))
                    clear hB h0 hex hd c95 lo fin hq hpt hn hn1
                    go_wp2
                    go_ret2
                    exact ⟨rfl, rfl⟩
                  · have d6 : decide ((48 : Int) ≤ ((s[k + 1]'hk1).toNat : Int)) = false := decide_eq_false (by omega)
                    clear hB h0 hex hd c95 lo fin hq hpt hn hn1
                    go_wp2
                    go_ret2
                    exact ⟨rfl, rfl⟩
                · have d5 : decide ((k : Int) + 1 < (s.size : Int)) = false := decide_eq_false (by omega)
                  clear hB h0 hex hd c95 lo fin hq hpt
                  go_wp2
                  go_ret2
                  exact ⟨rfl, rfl⟩
          · have d3 : (((s[k]'h1).toNat : Int) == 95) = false := beq_eq_false_iff_ne.2 fun e => c95 (fin _ e)
            by_cases hn1 : 48 ≤ (s[k]'h1).toNat
            · have d1 : decide ((48 : Int) ≤ ((s[k]'h1).toNat : Int)) = true := decide_eq_true (by omega)
              have d2 : decide (((s[k]'h1).toNat : Int) ≤ 57) = false := decide_eq_false (fun h => by
                have := (lo s[k]).2 ⟨hn1, by omega⟩
                rw [this] at hd; cases hd)
              clear hB hex hd c95 lo fin hn1
              go_wp2
              go_ret2
              exact ⟨rfl, rfl⟩
            · have d1 : decide ((48 : Int) ≤ ((s[k]'h1).toNat : Int)) = false := decide_eq_false (by omega)
              clear hB hex hd c95 lo fin hn1
              go_wp2
              go_ret2
              exact ⟨rfl, rfl⟩
    · have he : runE p (s.data.toList.drop k) = 0 := by rw [List.drop_eq_nil_of_le (show s.data.toList.length ≤ k from Nat.le_of_not_lt h1)]; rfl
      obtain ⟨rfl, e2⟩ := HR.out.stop he
      obtain rfl : o = t := str_eq e2
      clear he HR
      go_wp2
      go_ret2
      exact ⟨rfl, rfl⟩

end Go.Proofs.YtncldnghhpdolaaGreatDoor
