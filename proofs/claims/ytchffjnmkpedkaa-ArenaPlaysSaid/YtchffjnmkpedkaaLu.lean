/-
  LITE, part u: equations for walking by 'simp only'. Own work of this session.
-/
import Derived.Test.YtchffjnmkpedkaaLt
set_option linter.unusedSectionVars false
set_option linter.unusedSimpArgs false
set_option linter.unusedVariables false
namespace Go.Lite
set_option linter.unusedSectionVars false
set_option linter.unusedSimpArgs false
set_option linter.unusedVariables false

theorem bounds_none (len cap : Nat) : bounds len cap none none none = some (0, len, cap) := by unfold bounds; rfl
theorem bounds_lo (len cap : Nat) (x : Int) : bounds len cap (some x) none none = if 0 ≤ x ∧ x ≤ (len : Int) then some (x.toNat, len, cap) else none := by
  unfold bounds; simp only; split <;> simp_all
theorem bounds_hi (len cap : Nat) (x : Int) : bounds len cap none (some x) none = if 0 ≤ x ∧ x ≤ (cap : Int) then some (0, x.toNat, cap) else none := by
  unfold bounds; simp only; split <;> simp_all
theorem bounds_lohi (len cap : Nat) (x y : Int) : bounds len cap (some x) (some y) none = if 0 ≤ y ∧ y ≤ (cap : Int) then (if 0 ≤ x ∧ x ≤ (y.toNat : Int) then some (x.toNat, y.toNat, cap) else none) else none := by
  unfold bounds; simp only
  by_cases hy : 0 ≤ y ∧ y ≤ (cap : Int)
  · rw [if_pos hy, if_pos hy]
    by_cases hx : 0 ≤ x ∧ x ≤ (y.toNat : Int)
    · simp only [if_pos hx]
    · simp only [if_neg hx]
  · rw [if_neg hy, if_neg hy]

end Go.Lite
