/-
  LITE, part t: calls that need nothing of memory; and what is left for a row. Own work of this session.
-/
import Derived.Test.YtchffjnmkpedkaaLs
import Derived.Carry
import Derived.ChangeSame
set_option linter.unusedSectionVars false
set_option linter.unusedSimpArgs false
set_option linter.unusedVariables false
namespace Go.Lite
set_option linter.unusedSectionVars false
set_option linter.unusedSimpArgs false
set_option linter.unusedVariables false
open Go.ChangeShapes Go.WideShapes
open Go.RowKit
variable [Ctx]

section
variable {P : Program}

def Ren.none : Ren := fun _ => Option.none
def Hp.empty : Hp := ⟨.nil, 0⟩

theorem HRel.empty (w : World) : HRel Ren.none Hp.empty w :=
  ⟨fun b k l e => by simp [Hp.empty, Hp.get] at e, fun b b' k k' l l' e => by simp [Hp.empty, Hp.get] at e, fun b l e => by simp [Ren.none] at e⟩

/-- The memory that was there is not touched by a call that knows nothing of it. -/
theorem Step.detach {ρ' : Ren} {h' : Hp} {w w' : World} (s : Step Ren.none Hp.empty w ρ' h' w') {ρ : Ren} {h : Hp} (H : HRel ρ h w) : HRel ρ h w' ∧ Step ρ h w ρ h w' := by
  have hrow : ∀ r, r < w.heap.size → w'.heap[r]? = w.heap[r]? := fun r hr => s.rows r hr (by rintro ⟨b, k, l, e, _⟩; simp [Hp.empty, Hp.get] at e)
  refine ⟨⟨fun b k l e1 e2 => BlkRel.grow (H.blk b k l e1 e2) (hrow _ (H.dom b l e2).2), H.one, fun b l e => ⟨(H.dom b l e).1, Nat.lt_of_lt_of_le (H.dom b l e).2 s.size⟩⟩, ?_⟩
  exact ⟨Ren.le_refl _, fun b l e e' => (by rw [e] at e'; cases e'), Nat.le_refl _, s.os, s.tape, s.output, s.size, fun r hr _ => hrow r hr, fun _ _ o => o, fun _ _ _ => rfl, fun _ _ _ e _ => e⟩

/-- A function with a text: what the evaluator says of a call, as a contract. -/
theorem calls_of_eval {call : Callee} {dok : FuncId → Bool} (hc : CalleeOk P dok call) {f : FuncId} (hf : Enters P f) {args : List AV} {h : Hp} {v : AV} {h' : Hp} (he : call (.fn f) args h = some (v, h')) {ρ : Ren} {w : World} {args' : Array Value} (H : HRel ρ h w) (r : RelL ρ args args'.toList) :
    Calls P f args' w (Back ρ h w v h') := by
  rcases (hc (.fn f) args h v h' he).1 with ⟨_, c2⟩ | c2
  · exact c2 ρ w args' H r
  · obtain ⟨u, w', ρ', e1, _⟩ := c2 ρ w args' H r
    rw [hf] at e1; cases e1

/-- A call of the evaluator whose arguments and whose answer hold no address, as one step that leaves memory as it was. -/
theorem closed_prim {call : Callee} {dok : FuncId → Bool} (hc : CalleeOk P dok call) {f : FuncId} (hf : Enters P f) {args : List AV} {v : AV} {h1 : Hp} (he : call (.fn f) args Hp.empty = some (v, h1)) (hargs : ∀ ρ (args' : List Value), RelL ρ args args' → RelL Ren.none args args')
    (hv : ∀ ρ u, Rel ρ v u → ∀ ρ2, Rel ρ2 v u) {ρ : Ren} {h : Hp} {w : World} {args' : Array Value} (H : HRel ρ h w) (r : RelL ρ args args'.toList) : Calls P f args' w (Back ρ h w v h) := by
  refine (calls_of_eval hc hf he (HRel.empty w) (hargs ρ _ r)).mono ?_
  rintro e w' ⟨u, ρ', rfl, ru, _, st⟩
  obtain ⟨q1, q2⟩ := st.detach H
  exact ⟨u, ρ, rfl, hv ρ' u ru ρ, q1, q2⟩

/-- What a law's row asks of memory. -/
theorem Step.below {ρ ρ' : Ren} {h h' : Hp} {w w' : World} (s : Step ρ h w ρ' h' w') (hno : ∀ r, ¬ Owned ρ h r) : Below w.heap.size w w' :=
  ⟨s.os, s.tape, s.output, s.size, fun k hk => s.rows k hk (hno k)⟩

variable {H : Type} {enc : TypeId × Value → H}

/-- As 'post_of_same', for a call below whose start nothing has turned. -/
theorem post_of_below {f : Func} {s : ChangeSpec} {apart fresh handsOn again : Bool} {W W' : World} {args : Array Value} {v : Value} {ds gs : List (DataW H)} {before pa pv : List MemPlace}
    (hW : DataW.Whole enc P f.params.toList s.vars apart W args.toList ds gs before)
    (hres : ∀ (b : Nat) (sp : Nat → Bool) (hd : Bool), DataW.TrodAll enc P W' b sp hd f.resultTypes.toList (v.resultList f.resultTypes.size) (s.fn H (ds ++ gs)).results [])
    (hargs : ∀ sp : Nat → Bool, (∀ p ∈ before, sp p.block = true) → DataW.TrodAll enc P W' 0 sp true f.params.toList args.toList (s.fn H (ds ++ gs)).args pa)
    (hvars : ∀ sp : Nat → Bool, (∀ p ∈ before, sp p.block = true) → DataW.TrodVars enc P W' sp s.vars (s.fn H (ds ++ gs)).vars pv)
    (hps : before = pa ++ pv) (hb : Below W.heap.size W W')
    (hok : ∀ (j : Nat) (t : TypeId) (r : Value), f.resultTypes[j]? = some t → (v.resultList f.resultTypes.size)[j]? = some r → Value.okWide P W' .any 0 t r) :
    s.post enc P f apart fresh handsOn again W args v W' := by
  have hold : ∀ p ∈ before, (fun b => decide (b < W.heap.size)) p.block = true := fun p hp => by simpa using hW.lt p hp
  refine ⟨ds, gs, before, [], pa, pv, hW, hres _ _ _, hargs _ hold, hvars _ hold, World.keptBut_mono (fun p hp => ⟨hp, ?_⟩) (hb.frame _), fun _ => ?_⟩
  · rw [hps, List.mem_append] at hp
    exact Or.inr hp
  · have hlt := hW.lt
    obtain ⟨_, _, _, _, _, hz, hn⟩ := hW
    refine ⟨hok, _, _, ([] ++ pa) ++ pv, ⟨[] ++ pa, pv, trodAll_append (hargs _ (fun _ _ => rfl)) (hres _ _ _), hvars _ (fun _ _ => rfl), rfl, ?_, ?_⟩, ?_⟩
    · intro b off hp
      have hp' : (MemPlace.cell b off) ∈ before := by rw [hps]; simpa using hp
      rw [hb.frozen (p := ⟨b, off, none⟩) (hlt _ hp')]
      exact hz b off hp'
    · intro ha
      have := hn ha
      rw [hps] at this
      simpa using this
    · intro p hp _
      rw [hps]
      simpa using hp

end
end Go.Lite
