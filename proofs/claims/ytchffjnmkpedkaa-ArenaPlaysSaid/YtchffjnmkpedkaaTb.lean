/-
  The tables: what the evaluator is told of the functions, each entry held against the model. Own work of this session.
-/
import Derived.Test.YtchffjnmkpedkaaOv
set_option linter.unusedSectionVars false
set_option linter.unusedSimpArgs false
set_option linter.unusedVariables false
namespace Go.Proofs.Ytchffjnmkpedkaa
set_option linter.unusedSectionVars false
open Go.Lite Go.RowKit
set_option linter.unusedVariables false
set_option linter.unusedSimpArgs false

theorem mixed : Try.prog.follows .mixedOrders = true := by kernel_rfl

/-- What 'slices.Insert' at ints needs. -/
def F0 (f : FuncId) : Option Def := if f = 61 then some (.text s61) else if f = 67 then some (.ext overlapsA) else none

theorem F0_ok : ∀ f d, F0 f = some d → DefOk Try.prog f d := by
  intro f d h
  unfold F0 at h
  split at h
  · rename_i e; subst e; cases h; exact ok61
  · split at h
    · rename_i e; subst e; cases h; exact overlaps_ok
    · cases h

/-- Every text, and Insert in one step. -/
def F1 (f : FuncId) : Option Def := if f = 61 then some (.prim (insertA 8)) else F f

theorem F1_ok : ∀ f d, F1 f = some d → DefOk Try.prog f d := by
  intro f d h
  unfold F1 at h
  split at h
  · rename_i e; subst e; cases h
    exact ⟨Try.call61, insert_ok F0_ok mixed rfl rfl⟩
  · exact F_ok f d h

theorem run9 : (evalFn F1 100 20 [] ⟨.nil, 0⟩).map (·.1) = some (.bool true) := by kernel_rfl
theorem run10 : (evalFn F1 100 30 [] ⟨.nil, 0⟩).map (·.1) = some (.bool true) := by kernel_rfl

end Go.Proofs.Ytchffjnmkpedkaa
