/- Walks over package patterns: special, wrong, fine, whatever, same; no statement of the seat is proved here. -/
import Derived.Test.YtjnedbkbhoiopaaDoorPtP
import Derived.Test.YtjnedbkbhoiopaaDoorPu8
import Derived.Test.YtjnedbkbhoiopaaDoorLat
namespace Go.Proofs.YtjnedbkbhoiopaaDoor
open Go.RowKit

theorem ixS (set : ByteArray) (c : Int) (x : UInt8) (hc : c = (x.toNat : Int)) (v : Int) (hv : Lib.indexByte set.data.toList x = v) (w : World) :
    Calls Tryd.prog 52 #[.string set, .int .u8 c] w fun e w' => e = .returned (.int .i64 v) ∧ w = w' := by
  have h := Tryd.strings_IndexByte set c w
  subst hc hv
  have e : ((x.toNat : Int)).toNat.toUInt8 = x := by simp
  rw [e] at h
  exact h.mono fun _ _ ⟨h1, h2⟩ => ⟨h1, h2.symm⟩
theorem marks_has : ∀ x : UInt8, decide (0 ≤ Lib.indexByte [37, 47, 91, 93, 61, 42] x) = ([37, 47, 91, 93, 61, 42] : List UInt8).contains x := u8_all (by decide +kernel)
theorem ret_boo {a b : Bool} (h : a = b) : Ending.returned (.bool a) = .returned (.bool b) := by rw [h]

theorem special_any (c : UInt8) (b : Bool) (hb : spec c = b) (w : World) :
    Calls Tryd.prog 35 #[.int .u8 ((c.toNat : Nat) : Int)] w fun e w' => e = .returned (.bool b) ∧ w = w' := by
  obtain ⟨v, hv⟩ : ∃ v, Lib.indexByte [37, 47, 91, 93, 61, 42] c = v := ⟨_, rfl⟩
  have hm := marks_has c
  rw [hv] at hm
  have HC := Lib.hid (fun w => ixS ⟨#[37, 47, 91, 93, 61, 42]⟩ _ c rfl v hv w)
  rw [spec, ← hm] at hb
  have HS := Lib.hid hb
  clear hb hm hv
  by_cases h1 : c.toNat ≤ 32
  · have hb : true = b := by rw [← HS.out]; simp [h1]
    subst hb
    go_enter Tryd.func35, Tryd.ntmps35
    go_wp2
    go_ret
    exact ⟨rfl, rfl⟩
  · by_cases h2 : c.toNat = 127
    · have hb : true = b := by rw [← HS.out]; simp [h2]
      subst hb
      have b2 : ((c.toNat : Int) == 127) = true := by simp; omega
      go_enter Tryd.func35, Tryd.ntmps35
      go_wp2
      go_ret
      exact ⟨rfl, rfl⟩
    · have hb : decide (0 ≤ v) = b := by rw [← HS.out]; simp [h1, h2]
      have HB := Lib.hid hb
      clear HS hb
      have b1 : decide ((c.toNat : Int) ≤ 32) = false := decide_eq_false (by omega)
      have b2 : ((c.toNat : Int) == 127) = false := by simp; omega
      go_enter Tryd.func35, Tryd.ntmps35
      go_wp2_with (go_at_call 52; (with_reducible refine (HC.out _).mono ?_); rintro e w' ⟨rfl, rfl⟩)
      go_ret
      exact ⟨ret_boo HB.out, rfl⟩

theorem wrong_any (k : Int) (w : World) : Calls Tryd.prog 26 #[.int .i64 k] w fun e w' => e = .returned (.agg #[.int .i64 3, .int .i64 k]) ∧ Below w.heap.size w w' := by
  go_enter Tryd.func26, Tryd.ntmps26
  go_wp2
  exact bodyPost_ret (v := .agg #[.int .i64 3, .int .i64 k]) (by simp [results, Tryd.results26, go_sem]) rfl ⟨rfl, below_new1 _ _⟩

end Go.Proofs.YtjnedbkbhoiopaaDoor
