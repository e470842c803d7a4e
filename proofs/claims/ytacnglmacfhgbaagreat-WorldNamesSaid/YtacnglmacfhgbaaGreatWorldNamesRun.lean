/-
  Proved: 'covey/coveylaw30.WorldNames' comes to true, whatever the world it is called in, and nothing that was there before has turned: the parts of the evaluator's run, joined. No condition.
-/
import Derived.Test.YtacnglmacfhgbaaGreatWorldNamesRun1
import Derived.Test.YtacnglmacfhgbaaGreatWorldNamesRun2
import Derived.Test.YtacnglmacfhgbaaGreatWorldNamesRun3
namespace Go.Proofs.YtacnglmacfhgbaaGreat.worldNames
open Go.RowKit
open Cv (first_mid)
set_option linter.unusedVariables false

theorem upToLast : Cv.firstPart Run.TT recO 100000 3 way (16 + 16) = some s32 := first_mid run1 run2

theorem run : Cv.okB (Cv.bodyF Run.TT recO 100000 3 [] ⟨.lf, 0⟩) = true := by
  have h := Cv.parts_ok has loop upToLast (m := 99968) rfl
  rw [h]
  exact runLast

/-- the Go text returns true -/
theorem walk (w : World) : Calls Tryz.prog 3 #[] w fun e w' => e = .returned (.bool true) ∧ Below w.heap.size w w' :=
  Cv.calls_true' Run.hT Run.crcOk run w

end Go.Proofs.YtacnglmacfhgbaaGreat.worldNames
