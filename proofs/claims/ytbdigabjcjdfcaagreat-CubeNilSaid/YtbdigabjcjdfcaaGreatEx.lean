/-
  'math/bits.Add64': what the evaluator takes of the function without a text, held against the model's own entry. Own work of this session.
-/
import Derived.Test.YtbdigabjcjdfcaaGreatOv
import Derived.Laws.Externs
set_option linter.unusedSectionVars false
set_option linter.unusedSimpArgs false
set_option linter.unusedVariables false
namespace Go.Proofs.YtbdigabjcjdfcaaGreat
open Go.Lite Go.RowKit
set_option linter.unusedVariables false
set_option linter.unusedSimpArgs false

theorem add64_ok : DefOk Tryz.prog 238 (.ext add64A) := by
  intro args h v h' e ρ w args' H hr
  unfold add64A at e
  split at e
  case h_2 => cases e
  rename_i h0 k1 x k2 y k3 c
  split at e
  case isFalse => cases e
  rename_i hc
  cases e
  obtain ⟨l', rfl⟩ : ∃ l' : List Value, args' = ⟨l'⟩ := ⟨args'.toList, rfl⟩
  simp only at hr
  cases hr with
  | cons _ u1 _ m1 r1 hr1 =>
  cases hr1 with
  | cons _ u2 _ m2 r2 hr2 =>
  cases hr2 with
  | cons _ u3 _ m3 r3 hr3 =>
  cases hr3
  cases r1; cases r2; cases r3
  refine ⟨.tuple #[.int .u64 (Int.ofNat ((x.toNat + y.toNat + c.toNat) % 18446744073709551616)), .int .u64 (Int.ofNat ((x.toNat + y.toNat + c.toNat) / 18446744073709551616))], w, ρ, ?_, .tuple _ _ (.cons _ _ _ _ (.int _ _) (.cons _ _ _ _ (.int _ _) .nil)), H, Step.refl _ _ _⟩
  rw [run_callFunc_extern Tryz.func238 (by kernel_rfl) (by kernel_rfl) (by kernel_rfl) (e := add64Entry) (by kernel_rfl)]
  cases c with
  | negSucc n => rfl
  | ofNat n =>
    have : n = 0 ∨ n = 1 := by simp at hc; omega
    rcases this with rfl | rfl <;> rfl

end Go.Proofs.YtbdigabjcjdfcaaGreat
