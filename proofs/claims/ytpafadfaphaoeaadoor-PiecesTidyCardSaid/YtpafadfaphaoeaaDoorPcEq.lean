/- Two arrays of three integers that are the same compare as equal; no statement of the seat is proved here. -/
import Derived.Test.YtpafadfaphaoeaaDoorBase
import Derived.ChangeKeysEq
namespace Go.Proofs.YtpafadfaphaoeaaDoor
open Go.RowKit

theorem arr_eq (z0 z1 z2 : Int) (W : World) : (Op.equalIn 10000 42 (.agg #[.int .i64 z0, .int .i64 z1, .int .i64 z2]) (.agg #[.int .i64 z0, .int .i64 z1, .int .i64 z2])).run Tryd.prog W = .ok true W := by
  obtain ⟨i, hi, _⟩ := Option.map_eq_some_iff.1 (show (Tryd.prog.info? 3).map (fun i => (i.zero, i.size, i.bytes)) = some (some (.int .i64 0), 1, 8) by kernel_rfl)
  have hc : Tryd.prog.cellsOf 3 = 1 := by kernel_rfl
  have he : Tryd.prog.plainKey 3 = true := by kernel_rfl
  have hp : ∀ (xs : Array Value) (k : Nat) (a : Value), xs[k]? = some a → (part 3 xs k).run Tryd.prog W = .ok a W := fun xs k a h => run_part_plain W he h
  have hq : ∀ z : Int, (Op.equalIn 9999 3 (.int .i64 z) (.int .i64 z)).run Tryd.prog W = .ok true W := fun z => by
    have := run_equalIn_int (P := Tryd.prog) W 9998 3 .i64 .i64 z z Tryd.underlying3
    simpa using this
  rw [run_equalIn_array W 9999 _ _ Tryd.underlying42 hi, hc]
  simp only [show List.range 3 = [0, 1, 2] from rfl, Op.eqItems, Sem.run_bind, Nat.mul_one]
  have h0 := hp #[.int .i64 z0, .int .i64 z1, .int .i64 z2] 0 (.int .i64 z0) rfl
  have h1 := hp #[.int .i64 z0, .int .i64 z1, .int .i64 z2] 1 (.int .i64 z1) rfl
  have h2 := hp #[.int .i64 z0, .int .i64 z1, .int .i64 z2] 2 (.int .i64 z2) rfl
  simp only [h0, h1, h2, hq, Result.andThen_ok, Bool.not_true, Bool.false_eq_true, if_false, Sem.run_bind, Sem.run_pure]

end Go.Proofs.YtpafadfaphaoeaaDoor
