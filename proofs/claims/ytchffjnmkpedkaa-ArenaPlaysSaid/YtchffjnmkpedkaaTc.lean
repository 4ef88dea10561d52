/-
  The table: what is known is known. Own work of this session.
-/
import Derived.Test.YtchffjnmkpedkaaTb
import Derived.Test.YtchffjnmkpedkaaLv
set_option linter.unusedSectionVars false
set_option linter.unusedSimpArgs false
set_option linter.unusedVariables false
namespace Go.Proofs.Ytchffjnmkpedkaa
set_option linter.unusedSectionVars false
open Go.Lite Go.RowKit
set_option linter.unusedVariables false
set_option maxHeartbeats 4000000
set_option maxRecDepth 10000
set_option linter.unusedSimpArgs false

/-- A call without arguments that is known to be true. -/
def trueA : List AV → Hp → Option (AV × Hp)
  | [], h => some (.bool true, h)
  | _, _ => none

theorem trueA_ok {F : FuncId → Option Def} (hF : ∀ f d, F f = some d → DefOk Try.prog f d) {f : FuncId} (hf : Enters Try.prog f) {n : Nat} (he : (evalFn F n f [] Hp.empty).map (·.1) = some (.bool true)) : DefOk Try.prog f (.prim trueA) := by
  refine ⟨hf, ?_⟩
  intro args h v h' e ρ w args' H r
  unfold trueA at e
  split at e
  case h_2 => cases e
  cases e
  cases hq : evalFn F n f [] Hp.empty with
  | none => rw [hq] at he; cases he
  | some q =>
    obtain ⟨v, h1⟩ := q
    rw [hq] at he
    simp only [Option.map_some, Option.some.injEq] at he
    subst he
    exact closed_prim (evalT_ok mixed ctxOk hF n) hf hq (fun ρ args' r => by cases r; exact .nil) (fun ρ u r ρ2 => by cases r; exact .bool _) H r

/-- As F1; what is known is known. -/
def F2 (f : FuncId) : Option Def := if f = 20 then some (.prim trueA) else if f = 30 then some (.prim trueA) else F1 f

theorem F2_ok : ∀ f d, F2 f = some d → DefOk Try.prog f d := by
  intro f d h
  unfold F2 at h
  split at h
  · rename_i e; subst e; cases h; exact trueA_ok F1_ok Try.call20 run9
  · split at h
    · rename_i e; subst e; cases h; exact trueA_ok F1_ok Try.call30 run10
    · exact F1_ok f d h

theorem F2_law : F2 7 = some (.text s7) := rfl
theorem F2_arena : F2 13 = some (.text s13) := rfl
theorem F2_pages : F2 29 = some (.text s29) := rfl
theorem F2_known : F2 30 = some (.prim trueA) := rfl

theorem F2_levels : F2 34 = some (.text s34) := rfl
theorem F2_pa : F2 31 = some (.text s31) := rfl
theorem F2_pc : F2 32 = some (.text s32) := rfl
theorem F2_pl : F2 33 = some (.text s33) := rfl

end Go.Proofs.Ytchffjnmkpedkaa
