/-
  MergeNil: the evaluator's run. Own work of this session.
-/
import Derived.Test.YtbdigabjcjdfcaaGreatTz
import Derived.Test.YtbdigabjcjdfcaaGreatLv
set_option linter.unusedSectionVars false
set_option linter.unusedSimpArgs false
set_option linter.unusedVariables false
namespace Go.Proofs.YtbdigabjcjdfcaaGreat
open Go.Lite Go.RowKit
set_option linter.unusedVariables false

theorem runMergeNil (user : ByteArray) (how : Int) : (evalFn F1 200 3 [.str user, .int .i64 how] Hp.empty).map (·.1) = some (.bool true) := by kernel_rfl

theorem walkMergeNil (user : ByteArray) (how : Int) (w : World) : Calls Tryz.prog 3 #[.string user, .int .i64 how] w fun e w' => e = .returned (.bool true) ∧ Below w.heap.size w w' :=
  law_walk F1_ok mixed ctxOk Tryz.call3 (.cons _ _ _ _ (.str _) (.cons _ _ _ _ (.int _ _) .nil)) (runMergeNil user how) w

end Go.Proofs.YtbdigabjcjdfcaaGreat
