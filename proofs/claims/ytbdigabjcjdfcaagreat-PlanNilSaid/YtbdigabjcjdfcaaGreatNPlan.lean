/-
  PlanNil: the evaluator's run. Own work of this session.
-/
import Derived.Test.YtbdigabjcjdfcaaGreatTz
import Derived.Test.YtbdigabjcjdfcaaGreatLv
set_option linter.unusedSectionVars false
set_option linter.unusedSimpArgs false
set_option linter.unusedVariables false
namespace Go.Proofs.YtbdigabjcjdfcaaGreat
open Go.Lite Go.RowKit
set_option linter.unusedVariables false

theorem runPlanNil (user : ByteArray) (most : Int) : (evalFn F1 200 5 [.str user, .int .i64 most] Hp.empty).map (·.1) = some (.bool true) := by kernel_rfl

theorem walkPlanNil (user : ByteArray) (most : Int) (w : World) : Calls Tryz.prog 5 #[.string user, .int .i64 most] w fun e w' => e = .returned (.bool true) ∧ Below w.heap.size w w' :=
  law_walk F1_ok mixed ctxOk Tryz.call5 (.cons _ _ _ _ (.str _) (.cons _ _ _ _ (.int _ _) .nil)) (runPlanNil user most) w

end Go.Proofs.YtbdigabjcjdfcaaGreat
