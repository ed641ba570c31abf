/- The table of layer 1. -/
import Derived.Test.YtliofffippbaiaaGreatDoorE1a
import Derived.Test.YtliofffippbaiaaGreatDoorE1b
import Derived.Test.YtliofffippbaiaaGreatDoorE1c
import Derived.Test.YtliofffippbaiaaGreatDoorE1d
import Derived.Test.YtliofffippbaiaaGreatDoorE1e
import Derived.Test.YtliofffippbaiaaGreatDoorE1f
import Derived.Test.YtliofffippbaiaaGreatDoorE1g
import Derived.Test.YtliofffippbaiaaGreatDoorE1h
set_option maxRecDepth 100000
set_option linter.all false
namespace Go.Ab.T
open Go Go.Ab
def tb1 : Nat → List En := tbl [(31, [e161, e612, e1252, e1314, e1376, e1438, e1500, e1562, e1624, e1686, e1748, e1810, e1890, e1974, e2058, e2142, e2226, e2310, e2394, e2478, e2562, e2646, e2784, e2926, e3068, e3210, e3352, e3494, e3636, e3778, e3920, e4062]), (57, [e429]), (175, [e713, e4236, e4306, e4376, e4446, e4516, e4586, e4656, e4726, e4796, e4866, e5074, e5223, e5372, e5521, e5670, e5819, e5968, e6117, e6266, e6415, e6722, e6932, e7142, e7352, e7562, e7772, e7982, e8192, e8402, e8612]), (123, [e1066])]
def prog1 : Nat → Option Fun := extP prog tb1
theorem prog1_ok {P : Program} (hm : P.follows .mixedOrders = true) (hp : ProgOK P prog) : ProgOK P prog1 :=
  extP_ok hm hp (k := 100) (tbl_ok ⟨⟨c161, c612, c1252, c1314, c1376, c1438, c1500, c1562, c1624, c1686, c1748, c1810, c1890, c1974, c2058, c2142, c2226, c2310, c2394, c2478, c2562, c2646, c2784, c2926, c3068, c3210, c3352, c3494, c3636, c3778, c3920, c4062, trivial⟩, ⟨c429, trivial⟩, ⟨c713, c4236, c4306, c4376, c4446, c4516, c4586, c4656, c4726, c4796, c4866, c5074, c5223, c5372, c5521, c5670, c5819, c5968, c6117, c6266, c6415, c6722, c6932, c7142, c7352, c7562, c7772, c7982, c8192, c8402, c8612, trivial⟩, ⟨c1066, trivial⟩, trivial⟩)
end Go.Ab.T
