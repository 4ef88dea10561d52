/-
  The functions of this seat as the evaluator has them: printed by a program of this session (wip/tools), each held against the translation by the kernel.
-/
import Derived.Test.YtchffjnmkpedkaaFa
import Derived.Test.YtchffjnmkpedkaaFb
namespace Go.Proofs.Ytchffjnmkpedkaa
open Go.Lite
/-- The table. -/
def F (f : FuncId) : Option Def := cond (Nat.ble f 62) (TFa f) (TFb f)
theorem F_ok : ∀ f d, F f = some d → DefOk Try.prog f d := by
  intro f d h
  unfold F at h
  cases hb62 : Nat.ble f 62 with
  | true =>
    rw [hb62, cond_true] at h
    exact TFa_ok f d h
  | false =>
    rw [hb62, cond_false] at h
    exact TFb_ok f d h
end Go.Proofs.Ytchffjnmkpedkaa
