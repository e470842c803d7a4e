/-
  Proved: 'covey/coveylaw28.NodeNames' comes to true, whatever the world it is called in, and nothing that was there before has turned: by a run of the evaluator that the kernel makes. No condition.
-/
import Derived.Test.YtfgadcnioilglaaGreatFacts
namespace Go.Proofs.YtfgadcnioilglaaGreat.nodeNames
open Go.RowKit
set_option linter.unusedVariables false

set_option maxRecDepth 1000000 in
/-- the run of the evaluator, made by the kernel -/
theorem run : Cv.okB (Cv.recF Run.TT (Cv.knOf 305 Run.crcV) 100000 200 (.fn 3) [] ⟨.lf, 0⟩) = true := by decide +kernel

/-- the Go text returns true -/
theorem walk (w : World) : Calls Tryz.prog 3 #[] w fun e w' => e = .returned (.bool true) ∧ Below w.heap.size w w' :=
  Cv.calls_true Run.hT Run.crcOk rfl run w

end Go.Proofs.YtfgadcnioilglaaGreat.nodeNames
