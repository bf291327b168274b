/- Contracts of WayAdd, WayTimes (program and reference), toWay, eqWay. -/
import Derived.Test.YtmdeekojioeomaaDoorScal
namespace Go.Proofs.YtmdeekojioeomaaDoor
open Go.RowKit
set_option linter.all false
def ad (a b : Int) : Int := wrap64 (a + b)
def mu (a b : Int) : Int := wrap64 (a * b)
def ng (a : Int) : Int := wrap64 (-a)
theorem mu_comm (a b : Int) : mu a b = mu b a := by unfold mu; rw [Int.mul_comm]
theorem ad_comm (a b : Int) : ad a b = ad b a := by unfold ad; rw [Int.add_comm]
end Go.Proofs.YtmdeekojioeomaaDoor
