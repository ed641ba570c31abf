/- The table of layer 2. -/
import Derived.Test.YtliofffippbaiaaGreatDoorE2a
set_option maxRecDepth 100000
set_option linter.all false
namespace Go.Ab.T
open Go Go.Ab
def tb2 : Nat → List En := tbl [(27, [e2]), (10, [e1251]), (121, [e4226])]
def prog2 : Nat → Option Fun := extP prog1 tb2
theorem prog2_ok {P : Program} (hm : P.follows .mixedOrders = true) (hp : ProgOK P prog1) : ProgOK P prog2 :=
  extP_ok hm hp (k := 100) (tbl_ok ⟨⟨c2, trivial⟩, ⟨c1251, trivial⟩, ⟨c4226, trivial⟩, trivial⟩)
end Go.Ab.T
