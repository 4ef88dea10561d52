/-
  ScenNil: the evaluator's run. Own work of this session.
-/
import Derived.Test.YtbdigabjcjdfcaaGreatTz
import Derived.Test.YtbdigabjcjdfcaaGreatLv
set_option linter.unusedSectionVars false
set_option linter.unusedSimpArgs false
set_option linter.unusedVariables false
namespace Go.Proofs.YtbdigabjcjdfcaaGreat
open Go.Lite Go.RowKit
set_option linter.unusedVariables false

theorem runScenNil (name : ByteArray) : (evalFn F1 200 4 [.str name] Hp.empty).map (·.1) = some (.bool true) := by kernel_rfl

theorem walkScenNil (name : ByteArray) (w : World) : Calls Tryz.prog 4 #[.string name] w fun e w' => e = .returned (.bool true) ∧ Below w.heap.size w w' :=
  law_walk F1_ok mixed ctxOk Tryz.call4 (.cons _ _ _ _ (.str _) .nil) (runScenNil name) w

end Go.Proofs.YtbdigabjcjdfcaaGreat
