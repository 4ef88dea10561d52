/-
  The laws of the arena and the pages that are not there: the evaluator's run of each. Own work of this session.
-/
import Derived.Test.YtchffjnmkpedkaaTb
import Derived.Test.YtchffjnmkpedkaaLv
namespace Go.Proofs.Ytchffjnmkpedkaa
open Go.Lite Go.RowKit

theorem runArenaNil (id : Int) : (evalFn F1 100 6 [.int .i64 id] Hp.empty).map (·.1) = some (.bool true) := by kernel_rfl
theorem runPagesNil (code : Int) : (evalFn F1 100 12 [.int .i64 code] Hp.empty).map (·.1) = some (.bool true) := by kernel_rfl

theorem walkArenaNil (id : Int) (w : World) : Calls Try.prog 6 #[.int .i64 id] w fun e w' => e = .returned (.bool true) ∧ Below w.heap.size w w' :=
  law_walk F1_ok mixed Try.call6 (.cons _ _ _ _ (.int _ _) .nil) (runArenaNil id) w
theorem walkPagesNil (code : Int) (w : World) : Calls Try.prog 12 #[.int .i64 code] w fun e w' => e = .returned (.bool true) ∧ Below w.heap.size w w' :=
  law_walk F1_ok mixed Try.call12 (.cons _ _ _ _ (.int _ _) .nil) (runPagesNil code) w

end Go.Proofs.Ytchffjnmkpedkaa
