/- Drawn legs and ways. -/
import Derived.Test.YtmdeekojioeomaaDoorDraw
import Derived.Test.YtmdeekojioeomaaDoorLeg
namespace Go.Proofs.YtmdeekojioeomaaDoor
open Go.RowKit
set_option linter.all false
theorem New.onlyTo {a b c : World} {g : Nat} (h : New a b) (ho : Only g b c) (hg : a.heap.size ≤ g) : New a c := New.only h ho hg
end Go.Proofs.YtmdeekojioeomaaDoor
