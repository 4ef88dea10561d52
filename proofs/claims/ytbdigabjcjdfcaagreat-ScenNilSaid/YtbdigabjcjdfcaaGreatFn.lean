/-
  The functions of this seat as the evaluator has them: printed by a program of this session (wip/tools), each held against the translation by the kernel.
-/
import Derived.Test.YtbdigabjcjdfcaaGreatFa
import Derived.Test.YtbdigabjcjdfcaaGreatFb
import Derived.Test.YtbdigabjcjdfcaaGreatFc
import Derived.Test.YtbdigabjcjdfcaaGreatFd
import Derived.Test.YtbdigabjcjdfcaaGreatFe
namespace Go.Proofs.YtbdigabjcjdfcaaGreat
open Go.Lite
/-- The table. -/
def F (f : FuncId) : Option Def := cond (Nat.ble f 132) (cond (Nat.ble f 65) (TFa f) (TFb f)) (cond (Nat.ble f 208) (TFc f) (cond (Nat.ble f 296) (TFd f) (TFe f)))
theorem F_ok : ∀ f d, F f = some d → DefOk Tryz.prog f d := by
  intro f d h
  unfold F at h
  cases hb132 : Nat.ble f 132 with
  | true =>
    rw [hb132, cond_true] at h
    cases hb65 : Nat.ble f 65 with
    | true =>
      rw [hb65, cond_true] at h
      exact TFa_ok f d h
    | false =>
      rw [hb65, cond_false] at h
      exact TFb_ok f d h
  | false =>
    rw [hb132, cond_false] at h
    cases hb208 : Nat.ble f 208 with
    | true =>
      rw [hb208, cond_true] at h
      exact TFc_ok f d h
    | false =>
      rw [hb208, cond_false] at h
      cases hb296 : Nat.ble f 296 with
      | true =>
        rw [hb296, cond_true] at h
        exact TFd_ok f d h
      | false =>
        rw [hb296, cond_false] at h
        exact TFe_ok f d h
end Go.Proofs.YtbdigabjcjdfcaaGreat
