/- JudgeNil, 'models and dispatchers that are not valid are as the document says': it returns true for every operation, and its argument reads as it did. The variables that the row lists hold what the program's text lays into them (its tie is given). -/
import Derived.Test.YtliofffippbaiaaGreatDoorW
import Derived.Test.YtliofffippbaiaaGreatDoorCards
import Derived.Test.YtliofffippbaiaaGreatDoorTie
import Derived.ProofKit
import Derived.OpenShut
import Derived.LaidMore
import Derived.Lay
import Derived.Carry
import Derived.ChangeArms
import Derived.WideShapes
import Derived.SevenTiedAt
import Derived.Stop.Joined
set_option linter.unusedVariables false
set_option maxRecDepth 100000
set_option linter.unusedSimpArgs false
namespace Go.Proofs.YtliofffippbaiaaGreatDoor.judgeNil
open Go Go.ChangeShapes Go.WideShapes Go.ChangeAt Go.RowKit

theorem own : ownKnob Tryz.prog.godebug = none := by kernel_rfl
theorem laidOut : laidOutB Tryz.prog = true := by kernel_rfl
theorem cells23 : Tryz.prog.cellsOf 23 = 6 := by kernel_rfl
theorem cells2 : Tryz.prog.cellsOf 2 = 1 := by kernel_rfl
theorem cells3 : Tryz.prog.cellsOf 3 = 1 := by kernel_rfl
theorem cells4 : Tryz.prog.cellsOf 4 = 1 := by kernel_rfl
theorem cells9 : Tryz.prog.cellsOf 9 = 1 := by kernel_rfl

theorem op_cells {cs : List Value} (h : cs.length = 6) : ∃ c0 c1 c2 c3 c4 c5, cs = [c0, c1, c2, c3, c4, c5] :=
  match cs, h with
  | [c0, c1, c2, c3, c4, c5], _ => ⟨c0, c1, c2, c3, c4, c5, rfl⟩
/-- an operation is four numbers, a bool and a string -/
theorem open_cells {H : Type} {enc : TypeId × Value → H} {W : World} {cs : List Value} {fuel : Nat} {x : DataW H × List MemPlace} (hf : DataW.trod enc Tryz.prog W 0 (fun _ => true) true fuel 23 cs = some x) :
    ∃ (a b c e : Int) (ok : Bool) (s : ByteArray), cs = [.int .i64 a, .int .i64 b, .int .i64 c, .int .i64 e, .bool ok, .string s] := by
  obtain ⟨xs, n, hn, hx, hl, hxl, hel⟩ := DataW.trod_struct (P := Tryz.prog) (t := 23) Tryz.underlying23 hf
  rw [cells23] at hl
  obtain ⟨c0, c1, c2, c3, c4, c5, rfl⟩ := op_cells hl
  have hx6 : xs.length = 6 := hxl
  have e0 : DataW.trod enc Tryz.prog W 0 (fun _ => true) true n 3 (([c0, c1, c2, c3, c4, c5].drop 0).take (Tryz.prog.cellsOf 3)) = xs[0]? := hel 0 _ rfl
  rw [cells3] at e0
  have e1 : DataW.trod enc Tryz.prog W 0 (fun _ => true) true n 2 (([c0, c1, c2, c3, c4, c5].drop 1).take (Tryz.prog.cellsOf 2)) = xs[1]? := hel 1 _ rfl
  rw [cells2] at e1
  have e2 : DataW.trod enc Tryz.prog W 0 (fun _ => true) true n 2 (([c0, c1, c2, c3, c4, c5].drop 2).take (Tryz.prog.cellsOf 2)) = xs[2]? := hel 2 _ rfl
  rw [cells2] at e2
  have e3 : DataW.trod enc Tryz.prog W 0 (fun _ => true) true n 3 (([c0, c1, c2, c3, c4, c5].drop 3).take (Tryz.prog.cellsOf 3)) = xs[3]? := hel 3 _ rfl
  rw [cells3] at e3
  have e4 : DataW.trod enc Tryz.prog W 0 (fun _ => true) true n 4 (([c0, c1, c2, c3, c4, c5].drop 4).take (Tryz.prog.cellsOf 4)) = xs[4]? := hel 4 _ rfl
  rw [cells4] at e4
  have e5 : DataW.trod enc Tryz.prog W 0 (fun _ => true) true n 9 (([c0, c1, c2, c3, c4, c5].drop 5).take (Tryz.prog.cellsOf 9)) = xs[5]? := hel 5 _ rfl
  rw [cells9] at e5
  clear hel
  rw [List.getElem?_eq_getElem (by omega)] at e0 e1 e2 e3 e4 e5
  obtain ⟨a, h0, _⟩ := DataW.trod_int Tryz.underlying3 e0
  obtain ⟨b, h1, _⟩ := DataW.trod_int Tryz.underlying2 e1
  obtain ⟨c, h2, _⟩ := DataW.trod_int Tryz.underlying2 e2
  obtain ⟨e, h3, _⟩ := DataW.trod_int Tryz.underlying3 e3
  obtain ⟨ok, h4, _⟩ := DataW.trod_bool Tryz.underlying4 e4
  obtain ⟨s, h5, _⟩ := DataW.trod_string Tryz.underlying9 e5
  simp only [List.drop, List.take, List.cons.injEq, and_true] at h0 h1 h2 h3 h4 h5
  subst h0 h1 h2 h3 h4 h5
  exact ⟨a, b, c, e, ok, s, rfl⟩
theorem open_op {H : Type} {enc : TypeId × Value → H} {W : World} {base : Nat} {v : Value} {d : DataW H} {p : List MemPlace} (hval : Value.okWide Tryz.prog W .any base 23 v)
    (hd : DataW.Trod enc Tryz.prog W 0 (fun _ => true) true 23 v d p) :
    ∃ (a b c e : Int) (ok : Bool) (s : ByteArray), v = .agg #[.int .i64 a, .int .i64 b, .int .i64 c, .int .i64 e, .bool ok, .string s] := by
  obtain ⟨cs, rfl, _⟩ := okWide_struct (P := Tryz.prog) (w := W) (r := .any) (base := base) (t := 23) (v := v) Tryz.underlying23 hval
  obtain ⟨fuel, hf⟩ := hd
  obtain ⟨a, b, c, e, ok, s, h⟩ := open_cells (cs := cs.toList) hf
  refine ⟨a, b, c, e, ok, s, ?_⟩
  congr 1
  apply Array.ext'
  exact h

end Go.Proofs.YtliofffippbaiaaGreatDoor.judgeNil
/- JudgeNil: the contract, for every world. -/
set_option linter.unusedVariables false
set_option linter.unusedSimpArgs false
namespace Go.Proofs.YtliofffippbaiaaGreatDoor.judgeNil
open Go Go.ChangeShapes Go.WideShapes Go.ChangeAt Go.RowKit

set_option maxRecDepth 100000 in
theorem lifted (os : Os) (started : os.Started) (H : Type) (enc : TypeId × Value → H) :
    ReturnsInHanded {} Tryz.checked os 3 .any (fun w args => (Rows.judgeNilSpec.pre enc Tryz.prog Tryz.f3 Rows.judgeNilRow.domain false w args ∧ laidMetH Tryz.prog Rows.judgeNilRow.laid w) ∧ sizedMet enc Tryz.prog Tryz.f3 (OpenSpec.ofChange Rows.judgeNilSpec) false w args)
      (Rows.judgeNilSpec.post enc Tryz.prog Tryz.f3 false true false false) := by
  refine returnsInHanded_of_change_and (C := Tryz.checked) (X := fun w _ => laidMetH Tryz.prog Rows.judgeNilRow.laid w) (fun _ _ _ hh h => h.of_heap hh) own started (by kernel_rfl) Tryz.func3
    (ChangeSpec.witness_shaped (enc := enc) (C := Tryz.checked) (os := os) (X := fun w _ => laidMetH Tryz.prog Rows.judgeNilRow.laid w) false (World.laidAll Tryz.prog os Rows.judgeNilRow.laid)
      #[.agg #[.int .i64 0, .int .i64 0, .int .i64 0, .int .i64 0, .bool false, .string ⟨#[]⟩]] 8 (World.laidAll_os _ _ _)
      (World.shaped_of_ZipB (by kernel_rfl) (by kernel_rfl)) (by kernel_rfl) (by kernel_rfl) (by kernel_rfl)
      (by rw [MakeChecks.laidMetH_plain _ _ _ (by kernel_rfl)]; exact laidMet_laidAll _ (by kernel_rfl) (by kernel_rfl))) ?_
  intro W base args ds gs before hval0 hW hc _ hL _
  have hval : ∀ (j : Nat) t v, Tryz.f3.params[j]? = some t → args[j]? = some v → Value.okWide Tryz.prog W .any base t v := hval0
  have hW' := hW
  obtain ⟨p, q, hA0, hV, rfl, _, _⟩ := hW
  have hA : DataW.TrodAll enc Tryz.prog W 0 (fun _ => true) true Tryz.f3.params.toList args.toList ds p := hA0
  rw [Tryz.params3] at hA hval
  obtain ⟨v0, d0, rfl, rfl, h0⟩ := trodAll_one hA
  obtain ⟨rfl, rfl⟩ := trodVars_none hV
  obtain ⟨a, b, c, e, ok, s, rfl⟩ := open_op (hval 0 23 v0 rfl rfl) h0
  simp only [List.append_nil] at hW'
  have hlt : ∀ x ∈ p, x.block < W.heap.size := fun x hx => by simpa using hW'.lt x hx
  refine (Go.Ab.T.nil_true a b c e ok s W).mono fun e W' ⟨he, bel⟩ => ?_
  subst he
  refine ⟨_, rfl, _, _, _, [], p, [], hW', ?_, ?_, ?_, bel.frame _, fun h => by cases h⟩
  · exact trodAll_mk1 (shut_bool Tryz.underlying4 _)
  · exact trodAll_mk1 (Below.trod laidOut (by kernel_rfl) (of_decide_eq_true (by kernel_rfl)) h0 bel hlt)
  · rfl

end Go.Proofs.YtliofffippbaiaaGreatDoor.judgeNil
