/-
  The table of this seat: what the evaluator is told of the functions, each entry held against the model. Own work of this session.
-/
import Derived.Test.YtbdigabjcjdfcaaGreatEx
set_option linter.unusedSectionVars false
set_option linter.unusedSimpArgs false
set_option linter.unusedVariables false
namespace Go.Proofs.YtbdigabjcjdfcaaGreat
open Go.Lite Go.RowKit
set_option linter.unusedVariables false
set_option linter.unusedSimpArgs false

theorem mixed : Tryz.prog.follows .mixedOrders = true := by kernel_rfl

/-- What 'slices.Insert' at ints needs. -/
def F0 (f : FuncId) : Option Def := if f = 347 then some (.text s347) else if f = 407 then some (.ext overlapsA) else none

theorem F0_ok : ∀ f d, F0 f = some d → DefOk Tryz.prog f d := by
  intro f d h
  unfold F0 at h
  split at h
  · rename_i e; subst e; cases h; exact ok347
  · split at h
    · rename_i e; subst e; cases h; exact overlaps_ok
    · cases h

/-- Every text, and Insert in one step. -/
def F1 (f : FuncId) : Option Def := if f = 347 then some (.prim (insertA 8)) else if f = 238 then some (.ext add64A) else F f

theorem F1_ok : ∀ f d, F1 f = some d → DefOk Tryz.prog f d := by
  intro f d h
  unfold F1 at h
  split at h
  · rename_i e; subst e; cases h
    exact ⟨Tryz.call347, insert_ok F0_ok mixed rfl rfl⟩
  · split at h
    · rename_i e; subst e; cases h
      exact add64_ok
    · exact F_ok f d h

end Go.Proofs.YtbdigabjcjdfcaaGreat
