/- Walks over package patterns: fine, wrongRoot, whatever, same; no statement of the seat is proved here. -/
import Derived.Test.YtjnedbkbhoiopaaDoorPtB
namespace Go.Proofs.YtjnedbkbhoiopaaDoor
open Go.RowKit

theorem fine_is (a b : Int) (x : Bool) (hx : (decide (a = 0) && decide (b = 0)) = x) (w : World) :
    Calls Tryd.prog 30 #[.agg #[.int .i64 a, .int .i64 b]] w fun e w' => e = .returned (.bool x) ∧ Below w.heap.size w w' := by
  subst hx
  go_enter Tryd.func30, Tryd.ntmps30
  go_wp2
  all_goals (
    go_ret
    exact ⟨ret_boo (by simp_all), below_new1 _ _⟩)

theorem whatever_is (s : ByteArray) (w : World) : Calls Tryd.prog 46 #[.string s] w fun e w' => e = .returned (.bool true) ∧ w = w' := by
  go_enter Tryd.func46, Tryd.ntmps46
  go_wp2
  go_ret
  exact ⟨rfl, rfl⟩

theorem same_is (s : ByteArray) (w : World) : Calls Tryd.prog 47 #[.string s] w fun e w' =>
    e = .returned (.func (.func 58) #[] #[.pointer (some ⟨w.heap.size, 0, none⟩)]) ∧ w' = w.alloc (.cells #[.string s] 9) := by
  have hmf : ∀ (fn : Fn) (first cap : Array Value) (w : World), (Instr.makeFunc fn first cap).run Tryd.prog w = .ok (.func fn first cap) w := fun _ _ _ _ => rfl
  go_enter Tryd.func47, Tryd.ntmps47
  go_wp2
  go_ret
  exact ⟨rfl, rfl⟩

theorem same1_is (s t : ByteArray) (B : Nat) (x : Bool) (hx : (s.toList == t.toList) = x) (w : World) (hc : w.cell? ⟨B, 0, none⟩ = some (.string t)) :
    Calls Tryd.prog 58 #[.string s, .pointer (some ⟨B, 0, none⟩)] w fun e w' => e = .returned (.bool x) ∧ w = w' := by
  go_enter Tryd.func58, Tryd.ntmps58
  go_wp2
  go_ret
  exact ⟨rfl, rfl⟩

theorem has_one (l : List UInt8) (c : UInt8) : Lib.hasPrefix l [c] = decide (l[0]? = some c) := by
  rw [Bool.eq_iff_iff, decide_eq_true_iff]
  unfold Lib.hasPrefix
  cases l with
  | nil => simp
  | cons a t => simp; exact ⟨fun h => h.symm, fun h => h.symm⟩
theorem hasP (s : ByteArray) (c : UInt8) (x : Bool) (hx : decide (s.data.toList[0]? = some c) = x) (w : World) :
    Calls Tryd.prog 43 #[.string s, .string ⟨#[c]⟩] w fun e w' => e = .returned (.bool x) ∧ w = w' := by
  have h := Tryd.strings_HasPrefix s ⟨#[c]⟩ w
  subst hx
  rw [show (⟨#[c]⟩ : ByteArray).data.toList = [c] from rfl, has_one] at h
  exact h.mono fun _ _ ⟨h1, h2⟩ => ⟨h1, h2.symm⟩
theorem wrongRoot_is (s : ByteArray) (i : Nat) (n : Nat) (hn : (if i = 0 ∧ s.data.toList[0]? = some 46 then 1 else 0) = n) (w : World) :
    Calls Tryd.prog 27 #[.string s, .int .i64 (i : Int)] w fun e w' => e = .returned (.int .i64 (n : Int)) ∧ w = w' := by
  obtain ⟨x, hx⟩ : ∃ x, decide (s.data.toList[0]? = some 46) = x := ⟨_, rfl⟩
  have HP := Lib.hid (fun w => hasP s 46 x hx w)
  by_cases hi : i = 0
  · have e : n = if x = true then 1 else 0 := by rw [← hn, ← hx]; simp [hi]
    subst hi
    clear hn hx
    subst e
    cases x
    all_goals (
      go_enter Tryd.func27, Tryd.ntmps27
      go_wp2_with (go_at_call 43; (with_reducible refine (HP.out _).mono ?_); rintro e w' ⟨rfl, rfl⟩)
      go_ret
      exact ⟨rfl, rfl⟩)
  · have e : n = 0 := by rw [← hn, if_neg fun h => hi h.1]
    subst e
    have b1 : ((i : Int) == 0) = false := by simp; omega
    clear hn hx
    go_enter Tryd.func27, Tryd.ntmps27
    go_wp2
    go_ret
    exact ⟨rfl, rfl⟩

end Go.Proofs.YtjnedbkbhoiopaaDoor
