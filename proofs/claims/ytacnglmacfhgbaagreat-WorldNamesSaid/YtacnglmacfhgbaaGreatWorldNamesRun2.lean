/-
  A part of the evaluator's run of 'covey/coveylaw30.WorldNames', made by the kernel: the run from round 16 to round 32. No condition.
-/
import Derived.Test.YtacnglmacfhgbaaGreatWorldNamesSts
import Derived.KernelRfl
namespace Go.Proofs.YtacnglmacfhgbaaGreat.worldNames
open Go Cv
set_option linter.unusedVariables false

set_option maxRecDepth 1000000 in
theorem run2 : midPart Run.TT recO 100000 3 way 16 s16 = some s32 := by kernel_rfl

end Go.Proofs.YtacnglmacfhgbaaGreat.worldNames
