/- Contracts of the laws' own helpers on surveys: toSurvey, eqSurvey, szSurvey. -/
import Derived.Test.YtmdeekojioeomaaDoorSurv
namespace Go.Proofs.YtmdeekojioeomaaDoor
open Go.RowKit
set_option linter.all false
theorem infoLeg : (Tryd.prog.info? 24).map (fun i => (i.zero, i.size, i.bytes)) = some (some (.agg #[.int .i64 0, .int .i64 0, .int .i64 0, .int .i64 0, .int .i64 0]), 5, 40) := by kernel_rfl
end Go.Proofs.YtmdeekojioeomaaDoor
