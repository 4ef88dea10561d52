/-
  LITE, part v: from the evaluator's run of a law to the walk that the row asks. Own work of this session.
-/
import Derived.Test.YtchffjnmkpedkaaLu
namespace Go.Lite
open Go.RowKit

/-- A law whose run begins with no memory at all. -/
theorem law_walk {P : Program} {F : FuncId → Option Def} (hF : ∀ f d, F f = some d → DefOk P f d) (hm : P.follows .mixedOrders = true) {fuel : Nat} {f : FuncId} (hf : Enters P f) {args : List AV} {args' : Array Value} (hr : RelL Ren.none args args'.toList)
    (he : (evalFn F fuel f args Hp.empty).map (·.1) = some (.bool true)) (w : World) : Calls P f args' w fun e w' => e = .returned (.bool true) ∧ Below w.heap.size w w' := by
  cases hq : evalFn F fuel f args Hp.empty with
  | none => rw [hq] at he; cases he
  | some q =>
    obtain ⟨v, h'⟩ := q
    rw [hq] at he
    simp only [Option.map_some, Option.some.injEq] at he
    subst he
    refine (calls_of_eval (evalFn_ok hm hF fuel) hf hq (HRel.empty w) hr).mono ?_
    rintro e w' ⟨u, ρ', rfl, ru, _, st⟩
    cases ru
    exact ⟨rfl, st.below (by rintro r ⟨b, k, l, e, _⟩; simp [Hp.empty, Hp.get] at e)⟩

end Go.Lite
