/- JudgeNil: the row's closed facts. -/
import Derived.Test.YtliofffippbaiaaGreatDoorJ1
set_option linter.unusedVariables false
set_option linter.unusedSimpArgs false
set_option maxRecDepth 100000
namespace Go.Proofs.YtliofffippbaiaaGreatDoor.judgeNil
open Go Go.ChangeShapes Go.WideShapes Go.ChangeAt Go.RowKit
theorem and_ok {a b : Bool} (h : a = true) (k : b = true) : (a && b) = true := by rw [h, k]; rfl
set_option maxHeartbeats 0 in
theorem closed : joinedFacts Tryz.pinned.checked.prog 3 Tryz.f3 Rows.judgeNilSpec Rows.judgeNilRow = true := by
  unfold joinedFacts
  repeat' (with_reducible refine and_ok ?_ ?_)
  all_goals (as_aux_lemma => kernel_rfl)
end Go.Proofs.YtliofffippbaiaaGreatDoor.judgeNil
