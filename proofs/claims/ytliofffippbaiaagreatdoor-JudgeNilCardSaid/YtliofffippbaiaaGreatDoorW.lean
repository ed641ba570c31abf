/- The examples of the chapter hold: works() is true, in every world. -/
import Derived.Test.YtliofffippbaiaaGreatDoorA6
import Derived.Test.YtliofffippbaiaaGreatDoorQ
import Derived.Test.YtliofffippbaiaaGreatDoorL3
set_option maxRecDepth 100000
set_option linter.all false
namespace Go.Ab.T
open Go Go.Ab
theorem mixed : Proofs.Tryz.prog.follows .mixedOrders = true := by kernel_rfl
theorem prog3_is : ProgOK Proofs.Tryz.prog prog3 := prog3_ok mixed (prog2_ok mixed (prog1_ok mixed prog_is))
theorem works_chk : chkT prog3 100 8 [] = true := by kernel_rfl
theorem works_code : prog3 8 = some (.code a8) := by kernel_rfl
theorem works_true (w : World) : Calls Proofs.Tryz.prog 8 #[] w fun e w' => e = .returned (.bool true) ∧ RowKit.Below w.heap.size w w' :=
  calls_true mixed prog3_is works_code (n := 99) works_chk (args := []) rfl w
/-- .. and what is known of it -/
def progW : Nat → Option Fun := setF prog3 8 (closedG true)
theorem progW_is : ProgOK Proofs.Tryz.prog progW := setF_ok prog3_is (closedG_ext true) (closedG_ok works_true)
end Go.Ab.T
/- JudgeNil's call: true, in every world, for every operation. -/
set_option maxRecDepth 100000
set_option linter.all false
namespace Go.Ab.T
open Go Go.Ab
theorem nil_chk (a b c d : Int) (ok : Bool) (s : ByteArray) : chkT progW 100 3 [.agg [.int .i64 a, .int .i64 b, .int .i64 c, .int .i64 d, .bool ok, .str s]] = true := by kernel_rfl
theorem nil_code : progW 3 = some (.code a3) := by kernel_rfl
theorem nil_true (a b c d : Int) (ok : Bool) (s : ByteArray) (w : World) :
    Calls Proofs.Tryz.prog 3 #[.agg #[.int .i64 a, .int .i64 b, .int .i64 c, .int .i64 d, .bool ok, .string s]] w fun e w' => e = .returned (.bool true) ∧ RowKit.Below w.heap.size w w' :=
  calls_true mixed progW_is nil_code (n := 99) (nil_chk a b c d ok s)
    ⟨_, _, rfl, ⟨_, rfl, _, _, rfl, rfl, _, _, rfl, rfl, _, _, rfl, rfl, _, _, rfl, rfl, _, _, rfl, rfl, _, _, rfl, rfl, rfl⟩, rfl⟩ w
end Go.Ab.T
