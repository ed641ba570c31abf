/- JudgeNil: the call starts no goroutine: no text of the program does. -/
import Derived.Test.YtliofffippbaiaaGreatDoorJ2
set_option linter.unusedVariables false
set_option linter.unusedSimpArgs false
set_option maxRecDepth 100000
namespace Go.Proofs.YtliofffippbaiaaGreatDoor.judgeNil
open Go
theorem noGo : Tryz.prog.funcs.any Func.goes = false := by kernel_rfl
theorem goes_none {P : Program} (h : P.funcs.any Func.goes = false) (f : FuncId) : P.goes f = false := by
  have h1 : ∀ g : Nat, (P.funcs[g]?).any Func.goes = false := fun g => by
    cases hg : P.funcs[g]? with
    | none => rfl
    | some fn =>
      rw [Array.any_eq_false] at h
      obtain ⟨hlt, e⟩ := Array.getElem?_eq_some_iff.1 hg
      have := h g hlt
      rw [e] at this
      simpa using this
  unfold Program.goes
  rw [h, Bool.and_false, Bool.or_false, List.any_eq_false]
  intro g _
  rw [h1 g]
  simp
theorem goesAt_none {P : Program} (h : P.funcs.any Func.goes = false) (n : String) : P.goesAt .entering n = false := by
  unfold Program.goesAt Program.goesFrom
  rw [Bool.or_false]
  cases P.funcNamed n with
  | none => rfl
  | some f => exact goes_none h f
theorem start : Rows.judgeNilRow.start = .entering := rfl
theorem goes : false = Rows.judgeNilRow.goesBy Tryz.pinned.checked.prog := by
  unfold OpenClaim.goesBy
  rw [start]
  exact (goesAt_none noGo _).symm
end Go.Proofs.YtliofffippbaiaaGreatDoor.judgeNil
