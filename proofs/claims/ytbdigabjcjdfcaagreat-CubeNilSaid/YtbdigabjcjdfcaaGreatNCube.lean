/-
  CubeNil: the evaluator's run. Own work of this session.
-/
import Derived.Test.YtbdigabjcjdfcaaGreatTz
import Derived.Test.YtbdigabjcjdfcaaGreatLw
set_option linter.unusedSectionVars false
set_option linter.unusedSimpArgs false
set_option linter.unusedVariables false
namespace Go.Proofs.YtbdigabjcjdfcaaGreat
open Go.Lite Go.RowKit
set_option linter.unusedVariables false

theorem runCubeNil (a b c d e f g h k : Int) (s t u : ByteArray) :
    (evalFn F1 200 6 [.agg [.int .i64 a, .str s, .str t, .str u, .int .i64 b, .int .i64 c, .int .i64 d, .int .i64 e, .int .i64 f, .int .i64 g, .int .i64 h, .int .i64 k]] Hp.empty).map (·.1) = some (.bool true) := by kernel_rfl

theorem walkCubeNil (cs : List AV) (hc : flatIs [.int .i64, .string, .string, .string, .int .i64, .int .i64, .int .i64, .int .i64, .int .i64, .int .i64, .int .i64, .int .i64] cs) (v : Value) (r : Rel Ren.none (.agg cs) v) (w : World) :
    Calls Tryz.prog 6 #[v] w fun e w' => e = .returned (.bool true) ∧ Below w.heap.size w w' := by
  match cs, hc with
  | [.int _ a, .str s, .str t, .str u, .int _ b, .int _ c, .int _ d, .int _ e, .int _ f, .int _ g, .int _ h, .int _ k], ⟨rfl, _, rfl, _, rfl, _, rfl, _, rfl, _, rfl, _, rfl, _, rfl, _, rfl, _, _⟩ =>
    exact law_walk F1_ok mixed ctxOk Tryz.call6 (.cons _ _ _ _ r .nil) (runCubeNil a b c d e f g h k s t u) w

end Go.Proofs.YtbdigabjcjdfcaaGreat
