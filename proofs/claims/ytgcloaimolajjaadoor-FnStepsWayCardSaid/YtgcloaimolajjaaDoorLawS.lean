/- Contracts of the laws' own helpers on surveys: toSurvey, eqSurvey, szSurvey. -/
import Derived.Test.YtgcloaimolajjaaDoorSurv
namespace Go.Proofs.YtgcloaimolajjaaDoor
open Go.RowKit
set_option linter.all false
theorem infoLeg : (Tryd.prog.info? 34).map (fun i => (i.zero, i.size, i.bytes)) = some (some (.agg #[.int .i64 0, .int .i64 0, .int .i64 0, .int .i64 0, .int .i64 0]), 5, 40) := by kernel_rfl
theorem makeLegs (n : Nat) (hn : n ≤ 1099511627776) : ∀ w : World, (Instr.makeSlice 23 (.int .i64 (n : Int)) (.int .i64 (n : Int))).run Tryd.prog w =
    .ok (.slice (some ⟨w.heap.size, 0, none⟩) n n) (w.alloc (.cells (madeCells #[.int .i64 0, .int .i64 0, .int .i64 0, .int .i64 0, .int .i64 0] (n * 5)) 34)) := by
  intro w
  obtain ⟨i0, hi, hz, hs, hb⟩ := info_parts infoLeg
  have h := run_make (P := Tryd.prog) w 23 34 i0 _ Tryd.underlying23 hi hz .i64 .i64 n n (by omega) (by omega) (by rw [hb]; omega) (by omega)
  rw [hs] at h
  simp only [Int.toNat_natCast] at h
  exact h
end Go.Proofs.YtgcloaimolajjaaDoor
