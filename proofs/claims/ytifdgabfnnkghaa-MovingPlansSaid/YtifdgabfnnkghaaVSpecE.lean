/- The examples of layer 24, by evaluation; no program in sight. -/
import Derived.Test.YtifdgabfnnkghaaVSpecD
namespace Go.Pol
abbrev exB : List B3 := [(0, 1, false), (4, 0, false), (8, 2, false), (13, 0, false)]
abbrev exP : List B3 := [(0, 1, true), (4, 0, false), (8, 2, false), (13, 0, false)]
theorem ex_two : PlanF 16 exB 2 = ([(1, 2)], 0) := by decide +kernel
theorem ex_three : PlanF 16 exB 3 = ([(0, 14), (1, 12)], 0) := by decide +kernel
theorem ex_after : afterB 16 exB [(0, 14), (1, 12)] = ([(14, 1, false), (12, 0, false), (8, 2, false), (13, 0, false)], 0) := by decide +kernel
theorem ex_cost : costB exB [(0, 14), (1, 12)] = (3, 0) := by decide +kernel
theorem ex_pinned : PlanF 16 exP 3 = ([], 4) := by decide +kernel
theorem ex_largest : LargeF 16 exP = (2, 1, 0) := by decide +kernel
end Go.Pol
