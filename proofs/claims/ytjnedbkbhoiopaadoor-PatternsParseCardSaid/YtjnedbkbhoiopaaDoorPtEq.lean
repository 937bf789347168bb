/- Two steps compared; no statement of the seat is proved here. -/
import Derived.Test.YtjnedbkbhoiopaaDoorPtX
namespace Go.Proofs.YtjnedbkbhoiopaaDoor
open Go.RowKit

theorem step_eq (k : UInt8) (t d : ByteArray) (a : Int) (k2 : Int) (t2 d2 : ByteArray) (W : World) : (Op.equalIn 10000 50 (.agg #[.int .u8 (k.toNat : Int), .string t, .string d, .int .i64 a]) (.agg #[.int .u8 k2, .string t2, .string d2, .int .i64 0])).run Tryd.prog W = .ok ((k.toNat : Int) == k2 && (t.toList == t2.toList && (d.toList == d2.toList && a == 0))) W := by
  cases h1 : ((k.toNat : Int) == k2) <;> cases h2 : (t.toList == t2.toList) <;> cases h3 : (d.toList == d2.toList) <;> cases h4 : (a == 0)
  all_goals go_simp

end Go.Proofs.YtjnedbkbhoiopaaDoor
