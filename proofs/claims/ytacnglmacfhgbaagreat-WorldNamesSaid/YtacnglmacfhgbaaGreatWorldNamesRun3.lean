/-
  The last part of the evaluator's run of 'covey/coveylaw30.WorldNames', made by the kernel: from round 32 to the end: true. No condition.
-/
import Derived.Test.YtacnglmacfhgbaaGreatWorldNamesSts
namespace Go.Proofs.YtacnglmacfhgbaaGreat.worldNames
open Go Cv
set_option linter.unusedVariables false

set_option maxRecDepth 1000000 in
theorem runLast : okB (lastPart Run.TT recO 100000 3 way 99968 s32) = true := by decide +kernel

set_option maxRecDepth 1000000 in
theorem has : hasBody Run.TT 3 = true := by decide +kernel

set_option maxRecDepth 1000000 in
theorem loop : isLoop (codeAt way (codeOf Run.TT 3)) = true := by decide +kernel

end Go.Proofs.YtacnglmacfhgbaaGreat.worldNames
