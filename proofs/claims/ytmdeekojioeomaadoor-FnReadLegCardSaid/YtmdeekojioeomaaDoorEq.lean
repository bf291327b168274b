/- Ways and legs compared. -/
import Derived.Test.YtmdeekojioeomaaDoorScal
import Derived.Laws.StructEq
namespace Go.Proofs.YtmdeekojioeomaaDoor
open Go.RowKit
set_option linter.all false
theorem guardWay : Tryd.prog.eqGuardType Tryd.prog.depth 47 = false := by kernel_rfl
theorem guardLeg : Tryd.prog.eqGuardType Tryd.prog.depth 24 = false := by kernel_rfl
set_option maxHeartbeats 1000000 in
theorem way_eq (w : World) (a b c d e f : Int) : (Op.equalIn 10000 47 (.agg #[.int .i64 a, .int .i64 b, .int .i64 c]) (.agg #[.int .i64 d, .int .i64 e, .int .i64 f])).run Tryd.prog w = .ok (decide (a = d ∧ b = e ∧ c = f)) w := by
  have u3 := Tryd.underlying3
  have a3 := Tryd.isAgg3
  have z3 := Tryd.sizeOf3
  have hS : Tryd.prog.underlying 47 = some (.struct (Tryd.prog.fieldsOf 47)) := by kernel_rfl
  have hp : Tryd.prog.stoodInHeld 47 = false := by kernel_rfl
  rw [show (10000 : Nat) = 9999 + 1 from rfl, run_equalIn_agg w 9999 _ _ _ hS hp]
  simp only [Program.fieldsOf, Tryd.underlying47]
  go_simp
  by_cases h1 : a = d <;> by_cases h2 : b = e <;> by_cases h3 : c = f <;> simp [h1, h2, h3]
set_option maxHeartbeats 1000000 in
theorem leg_eq (w : World) (a b c x y d e f p q : Int) : (Op.equalIn 10000 24 (.agg #[.int .i64 a, .int .i64 b, .int .i64 c, .int .i64 x, .int .i64 y]) (.agg #[.int .i64 d, .int .i64 e, .int .i64 f, .int .i64 p, .int .i64 q])).run Tryd.prog w = .ok (decide (a = d ∧ b = e ∧ c = f ∧ x = p ∧ y = q)) w := by
  have u3 := Tryd.underlying3
  have a3 := Tryd.isAgg3
  have z3 := Tryd.sizeOf3
  have hS : Tryd.prog.underlying 24 = some (.struct (Tryd.prog.fieldsOf 24)) := by kernel_rfl
  have hp : Tryd.prog.stoodInHeld 24 = false := by kernel_rfl
  rw [show (10000 : Nat) = 9999 + 1 from rfl, run_equalIn_agg w 9999 _ _ _ hS hp]
  simp only [Program.fieldsOf, Tryd.underlying24]
  go_simp
  by_cases h1 : a = d <;> by_cases h2 : b = e <;> by_cases h3 : c = f <;> by_cases h4 : x = p <;> by_cases h5 : y = q <;> simp [h1, h2, h3, h4, h5]
theorem way_eql (w : World) (a b c d e f : Int) : (binOp .eql 47 (.agg #[.int .i64 a, .int .i64 b, .int .i64 c]) (.agg #[.int .i64 d, .int .i64 e, .int .i64 f])).run Tryd.prog w = .ok (.bool (decide (a = d ∧ b = e ∧ c = f))) w := by
  rw [run_eql_struct, way_eq]; rfl
theorem way_neq (w : World) (a b c d e f : Int) : (binOp .neq 47 (.agg #[.int .i64 a, .int .i64 b, .int .i64 c]) (.agg #[.int .i64 d, .int .i64 e, .int .i64 f])).run Tryd.prog w = .ok (.bool (!decide (a = d ∧ b = e ∧ c = f))) w := by
  rw [run_neq_struct, way_eq]; rfl
theorem leg_eql (w : World) (a b c x y d e f p q : Int) : (binOp .eql 24 (.agg #[.int .i64 a, .int .i64 b, .int .i64 c, .int .i64 x, .int .i64 y]) (.agg #[.int .i64 d, .int .i64 e, .int .i64 f, .int .i64 p, .int .i64 q])).run Tryd.prog w = .ok (.bool (decide (a = d ∧ b = e ∧ c = f ∧ x = p ∧ y = q))) w := by
  rw [run_eql_struct, leg_eq]; rfl
theorem leg_neq (w : World) (a b c x y d e f p q : Int) : (binOp .neq 24 (.agg #[.int .i64 a, .int .i64 b, .int .i64 c, .int .i64 x, .int .i64 y]) (.agg #[.int .i64 d, .int .i64 e, .int .i64 f, .int .i64 p, .int .i64 q])).run Tryd.prog w = .ok (.bool (!decide (a = d ∧ b = e ∧ c = f ∧ x = p ∧ y = q))) w := by
  rw [run_neq_struct, leg_eq]; rfl
end Go.Proofs.YtmdeekojioeomaaDoor
