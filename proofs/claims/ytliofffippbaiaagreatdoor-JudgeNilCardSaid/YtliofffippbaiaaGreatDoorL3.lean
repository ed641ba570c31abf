/- The table of layer 3. -/
import Derived.Test.YtliofffippbaiaaGreatDoorE3a
set_option maxRecDepth 100000
set_option linter.all false
namespace Go.Ab.T
open Go Go.Ab
def tb3 : Nat → List En := tbl [(29, [e275])]
def prog3 : Nat → Option Fun := extP prog2 tb3
theorem prog3_ok {P : Program} (hm : P.follows .mixedOrders = true) (hp : ProgOK P prog2) : ProgOK P prog3 :=
  extP_ok hm hp (k := 100) (tbl_ok ⟨⟨c275, trivial⟩, trivial⟩)
end Go.Ab.T
