/- errors.Is, the target a sentinel: at nil, and at a strconv.NumError that bears it; no statement of the seat is proved here. -/
import Derived.Test.YtncldnghhpdolaaGreatDoorInW
import Derived.LaidEql
import Derived.Stop.Asserts
import Derived.RowKitTokens
namespace Go.Proofs.YtncldnghhpdolaaGreatDoor
open Go.RowKit Go.Extern.Stop Go.Stop Go.Extern

theorem isTypeOf (v : Value) (w : World) : (Extern.ReflectliteType.typeOf #[.iface 159 v]).run Tryz.prog w = .ok (.iface 124 (.agg #[.pointer (some ⟨9, 159, none⟩)])) w := by kernel_rfl
/-- What stands for Comparable. -/
def compM : Array Value → Sem Value := Extern.ReflectliteType.method fun t => do Extern.Rtype.noPackHeld "Comparable" t; pure (.bool (← typeInfo t).comparable)
theorem isComparable (w : World) : (compM #[.agg #[.pointer (some ⟨9, 159, none⟩)]]).run Tryz.prog w = .ok (.bool true) w := by kernel_rfl
theorem isMethodComparable (v : Value) (w : World) : (Go.method 293 124 v "Comparable").run Tryz.prog w = .ok (162, v) w := by kernel_rfl
theorem isComp : (Tryz.prog.info? 159).map (·.comparable) = some true := by kernel_rfl
theorem isSize : (Tryz.prog.info? 161).map (·.size) = some 1 := by kernel_rfl
theorem noIsW (v : Value) (xT : TypeId) (w : World) : (Instr.typeAssert (.iface 120 v) xT 126 true).run Tryz.prog w = .ok (.tuple #[.nilIface, .bool false]) w := run_typeAssert_lacksB Tryz.underlying126 (by kernel_rfl) (by kernel_rfl) v xT w
theorem hasUnwrapW (v : Value) (xT : TypeId) (w : World) : (Instr.typeAssert (.iface 120 v) xT 129 true).run Tryz.prog w = .ok (.tuple #[.iface 120 v, .bool true]) w := run_typeAssert_hasB Tryz.underlying129 (by kernel_rfl) v xT w
theorem methodUnwrap (v : Value) (w : World) : (Go.method 293 120 v "Unwrap").run Tryz.prog w = .ok (158, v) w := by kernel_rfl

set_option maxRecDepth 100000 in
set_option maxHeartbeats 1000000 in
/-- errors.Is(nil, x). -/
theorem is_nil (b : Addr) (w : World) :
    Calls Tryz.prog 47 #[.nilIface, .iface 159 (.pointer (some b))] w fun e w' => e = .returned (.bool false) ∧ w' = w := by
  have hn := run_eql_iface_nil_left (P := Tryz.prog) w 159 (.pointer (some b)) Tryz.underlying59
  go_enter Tryz.func47, Tryz.ntmps47
  go_wp2
  go_ret
  exact ⟨rfl, rfl⟩

set_option maxRecDepth 100000 in
set_option maxHeartbeats 4000000 in
/-- errors.Is(e, x), e a *NumError that bears x itself. -/
theorem is_num (pb : Nat) (b : Addr) (w : World) (h1 : w.cell? ⟨pb, 2, none⟩ = some (.iface 159 (.pointer (some b)))) :
    Calls Tryz.prog 47 #[.iface 120 (.pointer (some ⟨pb, 0, none⟩)), .iface 159 (.pointer (some b))] w fun e w' => e = .returned (.bool true) ∧ w' = w := by
  obtain ⟨i, hi, hcmp⟩ := Option.map_eq_some_iff.1 isComp
  obtain ⟨j, hj, hjs⟩ := Option.map_eq_some_iff.1 isSize
  have h8 := @run_callFunc_extern Tryz.prog 76 _ Extern.ReflectliteType.typeOf Tryz.func76 (by kernel_rfl) (by kernel_rfl) (by kernel_rfl) (by kernel_rfl)
  have h32 := @run_callFunc_extern Tryz.prog 162 _ compM Tryz.func162 (by kernel_rfl) (by kernel_rfl) (by kernel_rfl) (by kernel_rfl)
  have tT := isTypeOf
  have cT := isComparable
  have mR := isMethodComparable
  have nW := noIsW
  have uW := hasUnwrapW
  have mU := methodUnwrap
  have heq := run_eql_iface_ptr_same (P := Tryz.prog) w b Tryz.underlying59 Tryz.underlying159 hi hcmp hj
  have hty := run_eql_iface_types (P := Tryz.prog) 120 159 (.pointer (some ⟨pb, 0, none⟩)) (.pointer (some b)) Tryz.underlying59 (by decide) w
  go_enter Tryz.func47, Tryz.ntmps47
  go_wp2
  refine wp_loop_rounds 2 ?_
  rw [rounds_succ]
  go_wp2
  rw [rounds_succ]
  go_wp2
  go_ret
  exact ⟨rfl, rfl⟩

end Go.Proofs.YtncldnghhpdolaaGreatDoor
