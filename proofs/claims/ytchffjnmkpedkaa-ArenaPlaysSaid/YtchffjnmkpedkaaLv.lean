/-
  LITE, part v: from the evaluator's run of a law to the walk that the row asks; what a walk by 'simp only' needs. Own work of this session.
-/
import Derived.Test.YtchffjnmkpedkaaLu
set_option linter.unusedSectionVars false
set_option linter.unusedSimpArgs false
set_option linter.unusedVariables false
namespace Go.Lite
set_option linter.unusedSectionVars false
open Go.RowKit
variable [Ctx]
set_option linter.unusedVariables false
set_option linter.unusedSimpArgs false

/-- A law whose run begins with no memory at all. -/
theorem law_walk {P : Program} {F : FuncId → Option Def} (hF : ∀ f d, F f = some d → DefOk P f d) (hm : P.follows .mixedOrders = true) (hL : ∀ nt c s, Ctx.low nt c s ↔ lowerCode P nt c = some s) {fuel : Nat} {f : FuncId} (hf : Enters P f) {args : List AV} {args' : Array Value} (hr : RelL Ren.none args args'.toList)
    (he : (evalFn F fuel f args Hp.empty).map (·.1) = some (.bool true)) (w : World) : Calls P f args' w fun e w' => e = .returned (.bool true) ∧ Below w.heap.size w w' := by
  cases hq : evalFn F fuel f args Hp.empty with
  | none => rw [hq] at he; cases he
  | some q =>
    obtain ⟨v, h'⟩ := q
    rw [hq] at he
    simp only [Option.map_some, Option.some.injEq] at he
    subst he
    refine (calls_of_eval (evalT_ok hm hL hF fuel) hf hq (HRel.empty w) hr).mono ?_
    rintro e w' ⟨u, ρ', rfl, ru, _, st⟩
    cases ru
    exact ⟨rfl, st.below (by rintro r ⟨b, k, l, e, _⟩; simp [Hp.empty, Hp.get] at e)⟩

/-- One step into a function with a text. -/
theorem evalFn_text {F : FuncId → Option Def} {f : FuncId} {fn : SFn} (hf : F f = some (.text fn)) (n : Nat) (args : List AV) (h : Hp) :
    evalFn F (n + 1) f args h = match evalS (evalT F n) n fn.body (frameOf 0 args) h with
      | some (.normal, fr, h') | some (.ret, fr, h') => (resA fr h' fn.res).map fun l => (oneOrTuple l, h')
      | _ => none := by
  simp only [evalFn, evalT, hf, runDef]
  rfl

theorem evalFn_prim {F : FuncId → Option Def} {f : FuncId} {c : List AV → Hp → Option (AV × Hp)} (hf : F f = some (.prim c)) (n : Nat) (args : List AV) (h : Hp) : evalFn F (n + 1) f args h = c args h := by
  simp only [evalFn, evalT, hf, runDef]

theorem evalFn_prim' {F : FuncId → Option Def} {f : FuncId} {c : List AV → Hp → Option (AV × Hp)} (hf : F f = some (.prim c)) {n : Nat} (hn : 0 < n) (args : List AV) (h : Hp) : evalFn F n f args h = c args h := by
  obtain ⟨k, rfl⟩ : ∃ k, n = k + 1 := ⟨n - 1, by omega⟩
  exact evalFn_prim hf k args h

theorem T.setF_setF {α : Type} : ∀ (f : Nat) (t : T α) (i : Nat) (a b : Option α), T.setF f (T.setF f t i a) i b = T.setF f t i b
  | 0, _, _, _, _ => rfl
  | _ + 1, _, 0, _, _ => rfl
  | f + 1, t, m + 1, a, b => by
    simp only [T.setF]
    cases hm : Nat.beq (m % 2) 0 with
    | true => simp only [cond_true, T.left, T.val, T.right, T.setF_setF]
    | false => simp only [cond_false, T.left, T.val, T.right, T.setF_setF]

theorem T.set_set {α : Type} (t : T α) (i : Nat) (a b : Option α) : (t.set i a).set i b = t.set i b := T.setF_setF _ _ _ _ _

theorem Hp.put_new (h : Hp) (k k' : Blk) : (h.new k).put h.next k' = h.new k' := by
  simp only [Hp.put, Hp.new, T.set_set]
theorem Hp.put_put (h : Hp) (b : Nat) (k k' : Blk) : (h.put b k).put b k' = h.put b k' := by
  simp only [Hp.put, T.set_set]

theorem iter_succ (body : Fr → Hp → Option (X × Fr × Hp)) (m : Nat) (fr : Fr) (h : Hp) :
    iter body (m + 1) fr h = match body fr h with
      | some (.normal, fr', h') => iter body m fr' h'
      | r => r := rfl

end Go.Lite
