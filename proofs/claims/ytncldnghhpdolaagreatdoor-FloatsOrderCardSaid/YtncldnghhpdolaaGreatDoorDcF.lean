/- Walks over package decimals: Parts, sign, size, Less; no statement of the seat is proved here. -/
import Derived.Test.YtncldnghhpdolaaGreatDoorDcE
import Derived.LoopN
namespace Go.Proofs.YtncldnghhpdolaaGreatDoor
open Go.RowKit

/-- What parse says, as its callers are told it. -/
def Told (l : List UInt8) (m : Bool) (ds : ByteArray) (e : Int) (b : Bool) : Prop := if b then parseD l = some ⟨m, ds.data.toList, e⟩ else parseD l = none ∧ m = false ∧ ds = ⟨#[]⟩ ∧ e = 0
theorem Told.ex (l : List UInt8) : ∃ m ds e b, Told l m ds e b := by
  cases h : parseD l with
  | none => exact ⟨false, ⟨#[]⟩, 0, false, by rw [Told, if_neg (by simp)]; exact ⟨h, rfl, rfl, rfl⟩⟩
  | some d =>
    obtain ⟨ds, hds⟩ := str_ex d.digits
    exact ⟨d.minus, ds, d.exp, true, by rw [Told, if_pos rfl, h, hds]⟩
theorem ret4 {m : Bool} {ds : ByteArray} {e : Int} {b : Bool} : Ending.returned (.tuple #[.bool m, .string ds, .int .i64 e, .bool b]) = .returned (.tuple #[.bool m, .string ds, .int .i64 e, .bool b]) := rfl

set_option maxHeartbeats 1000000 in
theorem parts_is (s ds : ByteArray) (m : Bool) (e : Int) (b : Bool) (hs : s.size ≤ 549755813888) (hp : Told s.data.toList m ds e b) (w : World) (hT : TAB w) :
    Calls Tryz.prog 52 #[.string s] w fun x w' => x = .returned (.tuple #[.bool m, .string ds, .int .i64 e, .bool b]) ∧ Below w.heap.size w w' := by
  have HP := Lib.hid (fun w hT => parse_is s ds m e b hs hp w hT)
  have HT := Lib.hid hT
  clear hp hT
  go_enter Tryz.func52, Tryz.ntmps52
  go_upto_region 2 with (go_at_call 53; (with_reducible refine (HP.out _ HT.out).mono ?_); rintro x w1 ⟨rfl, hb1⟩)
  go_quiet (fail)
  go_wp2
  exact bodyPost_ret (v := .tuple #[.bool m, .string ds, .int .i64 e, .bool b]) (by simp [results, Tryz.results52, go_sem]) rfl ⟨rfl, below_drewN (hb1.alloc hb1.size _) _⟩

theorem sign_is (m : Bool) (ds : ByteArray) (e : Int) (v : Int) (hv : (Dm.mk m ds.data.toList e).sg = v) (w : World) :
    Calls Tryz.prog 54 #[.agg #[.bool m, .string ds, .int .i64 e]] w fun x w' => x = .returned (.int .i64 v) ∧ Below w.heap.size w w' := by
  subst hv
  unfold Dm.sg
  by_cases h : ds.data.toList = [48]
  · rw [if_pos h]
    obtain rfl := str_is h
    clear h
    go_enter Tryz.func54, Tryz.ntmps54
    go_wp2
    go_ret
    exact ⟨rfl, below_new1 _ _⟩
  · rw [if_neg h]
    have g1 : (ds.toList == [48]) = false := by rw [ByteArray.toList_eq]; simpa using h
    have g2 : ¬ ds.toList = [48] := by rw [ByteArray.toList_eq]; exact h
    clear h
    cases m
    · go_enter Tryz.func54, Tryz.ntmps54
      go_wp2
      go_ret
      exact ⟨rfl, below_new1 _ _⟩
    · go_enter Tryz.func54, Tryz.ntmps54
      go_wp2
      go_ret
      exact ⟨rfl, below_new1 _ _⟩

/-- cmp.Or of two numbers that lie in a row. -/
theorem or_is (a b v : Int) (hv : (if a = 0 then b else a) = v) (B c : Nat) (w : World) (h0 : w.cell? ⟨B, 0, none⟩ = some (.int .i64 a)) (h1 : w.cell? ⟨B, 1, none⟩ = some (.int .i64 b)) :
    Calls Tryz.prog 80 #[.slice (some ⟨B, 0, none⟩) 2 c] w fun x w' => x = .returned (.int .i64 v) ∧ w = w' := by
  by_cases ha : a = 0
  · rw [if_pos ha] at hv
    subst hv
    have ga : (a != 0) = false := by simp [ha]
    clear ha
    by_cases hb : b = 0
    · have gb : (b != 0) = false := by simp [hb]
      subst hb
      go_enter Tryz.func80, Tryz.ntmps80
      go_wp2
      refine wp_loop_rounds 3 ?_
      rw [rounds_succ]; go_wp2
      rw [rounds_succ]; go_wp2
      rw [rounds_succ]; go_wp2
      go_ret
      exact ⟨rfl, rfl⟩
    · have gb : (b != 0) = true := by simp [hb]
      go_enter Tryz.func80, Tryz.ntmps80
      go_wp2
      refine wp_loop_rounds 3 ?_
      rw [rounds_succ]; go_wp2
      rw [rounds_succ]; go_wp2
      go_ret
      exact ⟨rfl, rfl⟩
  · rw [if_neg ha] at hv
    subst hv
    have ga : (a != 0) = true := by simp [ha]
    go_enter Tryz.func80, Tryz.ntmps80
    go_wp2
    refine wp_loop_rounds 3 ?_
    rw [rounds_succ]; go_wp2
    go_ret
    exact ⟨rfl, rfl⟩

end Go.Proofs.YtncldnghhpdolaaGreatDoor
