/-
  LITE, part m: one operation inside a region; a region in its order. Own work of this session.
-/
import Derived.Test.YtchffjnmkpedkaaLl
import Derived.TacticsIn
import Derived.OrdersIn
import Derived.LoopNIn
import Derived.RangeFuncRecord
set_option linter.unusedSectionVars false
set_option linter.unusedSimpArgs false
set_option linter.unusedVariables false
namespace Go.Lite
set_option linter.unusedSectionVars false
set_option linter.unusedSimpArgs false
set_option linter.unusedVariables false
open Go.RowKit
variable [Ctx]

/-- What a contract says: called so, the model's function hands back what the evaluator says. -/
def Back (ρ : Ren) (h : Hp) (w : World) (v : AV) (h' : Hp) (e : Ending) (w' : World) : Prop :=
  ∃ v' ρ', e = .returned v' ∧ Rel ρ' v v' ∧ HRel ρ' h' w' ∧ Step ρ h w ρ' h' w'

def Enters (P : Program) (f : FuncId) : Prop := ∀ args' w, (callFunc f args').run P w = .ok (.enter f args') w

/-- The fence of a function's frame, and of a round's. -/
def fen : Option Nat → Fence
  | none => Fence.wide
  | some l => Fence.wide.inRound l

theorem fen_fn (rd : Option Nat) (f : FuncId) : (fen rd).fn f := by cases rd <;> trivial
theorem fen_depth (rd : Option Nat) : (fen rd).depth = none := by cases rd <;> rfl
theorem fen_round (rd : Option Nat) : (fen rd).round = rd := by cases rd <;> rfl
theorem callsIn_fen {P : Program} {f : FuncId} {args : Array Value} {w : World} {R : Ending → World → Prop} (rd : Option Nat) (n : Nat) (h : Calls P f args w R) : CallsIn (fen rd) n P f args w R := by
  cases rd with
  | none => exact callsIn_wide.2 h
  | some l => exact (callsIn_wide (n := n)).2 h
theorem roundIn_fen {P : Program} {l : Nat} {f : FuncId} {tmps : Array Value} {assign body : Code} {w : World} {R : Ending → World → Prop} (rd : Option Nat) {n : Nat} (h : RoundIn Fence.wide n P l f tmps assign body w R) :
    RoundIn (fen rd) n P l f tmps assign body w R := by
  cases rd with
  | none => exact h
  | some l => exact h

/-- The evaluator's calls are the model's: of a function with a text, or of one without; of a round of a loop over a function. -/
def TgtOk (P : Program) (dok : FuncId → Bool) (args : List AV) (h : Hp) (v : AV) (h' : Hp) : Tgt → Prop
  | .fn f => ((Enters P f ∧ ∀ ρ w (args' : Array Value), HRel ρ h w → RelL ρ args args'.toList → Calls P f args' w (Back ρ h w v h')) ∨
      (∀ ρ w (args' : Array Value), HRel ρ h w → RelL ρ args args'.toList → ∃ u w' ρ', (callFunc f args').run P w = .ok (.value u) w' ∧ Rel ρ' v u ∧ HRel ρ' h' w' ∧ Step ρ h w ρ' h' w')) ∧
    (dok f = true → Enters P f ∧ ∀ ρ w (args' : Array Value), HRel ρ h w → RelL ρ args args'.toList → ∀ (u : FrameMode), CallsDIn Fence.wide 0 P f args' u w fun e u' w' => u' = u ∧ Back ρ h w v h' e w')
  | .it f => Enters P f ∧ ∀ ρ w (args' : Array Value), HRel ρ h w → RelL ρ args args'.toList → Calls P f args' w (Back ρ h w v h')
  | .yld b => ∀ ρ w (args' : Array Value) (l : Loc), HRel ρ h w → RelL ρ args args'.toList → ρ b = some l → ∃ fn tmps assign body,
      (Instr.yield l.row args').run P w = .ok (.round l.row fn tmps assign body) w ∧ RoundIn Fence.wide 0 P l.row fn tmps assign body w (Back ρ h w v h')

def CalleeOk (P : Program) (dok : FuncId → Bool) (call : Callee) : Prop := ∀ t args h v h', call t args h = some (v, h') → TgtOk P dok args h v h' t

/-- The frame: what the evaluator's temporaries hold, the model's hold. -/
def FrRel (ρ : Ren) (nt : Nat) (fr : Fr) (a : Act) : Prop :=
  nt ≤ a.tmps.size ∧ ∀ t v, fr.get t = some v → ∃ u, a.tmps[t]? = some u ∧ Rel ρ v u

theorem FrRel.mono {ρ ρ' : Ren} {nt : Nat} {fr : Fr} {a : Act} (hle : ρ.le ρ') (h : FrRel ρ nt fr a) : FrRel ρ' nt fr a :=
  ⟨h.1, fun t v e => let ⟨u, hu, r⟩ := h.2 t v e; ⟨u, hu, Rel.mono hle r⟩⟩

theorem FrRel.put {ρ : Ren} {nt : Nat} {fr : Fr} {a : Act} (h : FrRel ρ nt fr a) {dst : Option Tmp} {d : Option Nat} (hd : lowerDst nt dst = some d) {v : AV} {u : Value} (r : Rel ρ v u) : FrRel ρ nt (putO fr d v) (a.put dst u) := by
  cases dst with
  | none => simp only [lowerDst, Option.some.injEq] at hd; subst hd; exact h
  | some t =>
    simp only [lowerDst] at hd
    split at hd
    · rename_i hlt
      cases hd
      refine ⟨by simpa [Act.put] using h.1, ?_⟩
      intro t' v' e
      simp only [putO, T.get_set] at e
      simp only [Act.put]
      have hsz : t < a.tmps.size := Nat.lt_of_lt_of_le hlt h.1
      by_cases ht : t' = t
      · subst ht
        rw [if_pos rfl] at e; cases e
        exact ⟨u, by simp [hsz], r⟩
      · rw [if_neg ht] at e
        obtain ⟨u', hu', r'⟩ := h.2 t' v' e
        exact ⟨u', by rw [Array.getElem?_setIfInBounds, if_neg (Ne.symm ht)]; exact hu', r'⟩
    · cases hd

theorem put_defers' (a : Act) (dst : Option Tmp) (u : Value) : (a.put dst u).defers = a.defers := by cases dst <;> rfl

theorem FrRel.env {ρ : Ren} {nt : Nat} {fr : Fr} {a : Act} (h : FrRel ρ nt fr a) (X : Operand) : EnvOk ρ fr a.eval X :=
  envOk_of (fun _ => rfl) (fun _ => rfl) X fun t ht v hv => by
    obtain ⟨u, hu, r⟩ := h.2 t v hv
    simp only [Act.eval]
    rw [show a.tmps.getD t undef = u by simp [Array.getD_eq_getD_getElem?, hu]]
    exact r

theorem wanted_ok {ρ : Ren} {ops : Array Oper} {o : Oper} {g : Option (Nat × Bool)} (hg : lowerGuard ops o.guard = some g) {fr : Fr} {a : Act} {b : Bool} (hw : wantedA fr g = some b)
    (ht : ∀ t x, g = some (t, x) → ∀ v, fr.get t = some v → ∃ u, a.tmps[t]? = some u ∧ Rel ρ v u) : Region.wanted o (yielded ops a.tmps) = b := by
  unfold Region.wanted
  cases hog : o.guard with
  | none =>
    rw [hog] at hg
    simp only [lowerGuard, Option.some.injEq] at hg; subst hg
    simp only [wantedA, Option.some.injEq] at hw; exact hw
  | some jw =>
    obtain ⟨j, want⟩ := jw
    rw [hog] at hg
    simp only [lowerGuard] at hg
    cases hd : (ops[j]?).bind (·.dst) with
    | none => simp [hd] at hg
    | some t =>
      simp only [hd, Option.some.injEq] at hg; subst hg
      simp only [wantedA] at hw
      simp only [yielded, hd, Option.bind_some]
      cases hf : fr.get t with
      | none => simp [hf] at hw
      | some v =>
        obtain ⟨u, hu, r⟩ := ht t want rfl v hf
        simp only [hf] at hw
        rw [hu]
        cases r <;> simp at hw <;> subst hw <;> simp

section
variable {P : Program} {call : Callee} {nt : Nat} {dok : FuncId → Bool} {rd : Option Nat}

theorem semAt_fen (rd : Option Nat) {o : Oper} {x : O} (hl : lowerOp P o.op = some x) (ρ : Operand → Value) : Oper.semAt (fen rd).round ρ o = execOp ρ o := by
  rw [fen_round]
  cases rd with
  | none => exact Oper.semAt_none _ _
  | some l =>
    refine Oper.semAt_some l ρ o ?_
    intro c hc
    rw [hc] at hl
    simp [lowerOp] at hl

/-- One operation: if the evaluator carries it out, the model does. -/
theorem op_step (hc : CalleeOk P dok call) {o : Oper} {x : O} (hl : lowerOp P o.op = some x) {fr : Fr} {h h' : Hp} {v : AV} (he : evalOp call fr h x = some (v, h')) {ρ : Ren} {w : World} (H : HRel ρ h w) {a : Act}
    (hop : ∀ X ∈ o.op.operands.toList, EnvOk ρ fr a.eval X) {K : Act → World → Prop} {Q : Exit → Act → World → Prop}
    (hK : ∀ ρ' v' w', Rel ρ' v v' → HRel ρ' h' w' → Step ρ h w ρ' h' w' → K (a.put o.dst v') w') : o.wpIn (fen rd) 0 P a w K Q := by
  refine ⟨fun f _ => fen_fn rd f, ?_⟩
  rw [semAt_fen rd hl]
  unfold evalOp at he
  split at he
  · rename_i v1 h1 he1
    cases he
    obtain ⟨n, v', w', ρ', q1, q2, q3, q4, q5⟩ := evalO_ok hl H he1 hop
    rw [q1]
    rcases q2 with rfl | ⟨rfl, rfl⟩
    · exact hK ρ' v' w' q3 q4 q5
    · exact hK ρ' undef w' q3 q4 q5
  · rename_i t args h1 he1
    have hd : (fen rd).depth.isSome = true → 1 ≤ 0 := by rw [fen_depth]; intro hh; cases hh
    cases t with
    | fn f =>
      obtain ⟨args', q1, q2, q3⟩ := evalO_ok hl H he1 hop
      subst q3
      rcases (hc (.fn f) args h1 v h' he).1 with ⟨c1, c2⟩ | c2
      · rw [q1, c1]
        refine ⟨hd, callsIn_fen rd _ ((c2 ρ w args' H q2).mono ?_)⟩
        rintro e w' ⟨v', ρ', rfl, r1, r2, r3⟩
        exact hK ρ' v' w' r1 r2 r3
      · obtain ⟨u, w', ρ', e1, r1, r2, r3⟩ := c2 ρ w args' H q2
        rw [q1, e1]
        exact hK ρ' u w' r1 r2 r3
    | it f => exact (evalO_ok hl H he1 hop).elim
    | yld b =>
      obtain ⟨args', l, hl1, q1, q2, q3⟩ := evalO_ok hl H he1 hop
      subst q3
      obtain ⟨fn, tmps, assign, body, c1, c2⟩ := hc (.yld b) args h1 v h' he ρ w args' l H q2 hl1
      rw [q1, c1]
      refine ⟨hd, roundIn_fen rd (c2.mono ?_)⟩
      rintro e w' ⟨v', ρ', rfl, r1, r2, r3⟩
      exact hK ρ' v' w' r1 r2 r3
  · cases he

theorem lowerOper_spec {ops : Array Oper} {o : Oper} {s : SOp} (hs : lowerOper P nt ops o = some s) : lowerDst nt o.dst = some s.dst ∧ lowerGuard ops o.guard = some s.guard ∧ (lowerOp P o.op = some s.o ∨ s.o = .no) := by
  unfold lowerOper at hs
  split at hs
  · rename_i d g e1 e2
    cases hs
    refine ⟨e1, e2, ?_⟩
    cases hq : lowerOp P o.op with
    | none => exact .inr rfl
    | some x => exact .inl rfl
  · cases hs

/-- What has been carried out is an operation that the evaluator can do. -/
theorem lowerOp_of_eval {o : Op} {x : O} (h : lowerOp P o = some x ∨ x = .no) {fr : Fr} {hp : Hp} {r : AV × Hp} (he : evalOp call fr hp x = some r) : lowerOp P o = some x := by
  rcases h with h | h
  · exact h
  · subst h; simp [evalOp, evalO] at he

theorem evalOps_ok' (hc : CalleeOk P dok call) {ops : Array Oper} {Q : Exit → Act → World → Prop} {tl : List Oper} : ∀ (l : List Oper) (sl : List SOp), lowerOps P nt ops l = some sl → ∀ {fr : Fr} {h : Hp} {fr' : Fr} {h' : Hp}, evalOps call sl fr h = some (fr', h') →
    ∀ {ρ : Ren} {w : World} {a : Act}, HRel ρ h w → FrRel ρ nt fr a → (∀ ρ' w' a', HRel ρ' h' w' → FrRel ρ' nt fr' a' → Step ρ h w ρ' h' w' → a'.defers = a.defers → wpListIn (fen rd) 0 P ops Q tl a' w') → wpListIn (fen rd) 0 P ops Q (l ++ tl) a w
  | [], sl, hl, fr, h, fr', h', he, ρ, w, a, H, F, hQ => by
    simp only [lowerOps, Option.some.injEq] at hl; subst hl
    simp only [evalOps, Option.some.injEq, Prod.mk.injEq] at he
    obtain ⟨rfl, rfl⟩ := he
    exact hQ ρ w a H F (Step.refl _ _ _) rfl
  | o :: l, sl, hl, fr, h, fr', h', he, ρ, w, a, H, F, hQ => by
    simp only [lowerOps] at hl
    split at hl
    case h_2 => cases hl
    rename_i s m e1 e2
    cases hl
    obtain ⟨s1, s2, s3⟩ := lowerOper_spec e1
    simp only [evalOps] at he
    rw [List.cons_append]
    unfold wpListIn
    split at he
    · rename_i hw
      rw [if_pos (wanted_ok (ρ := ρ) s2 hw (fun t x _ v hv => F.2 t v hv))]
      split at he
      case h_2 => cases he
      rename_i v h1 he1
      refine op_step hc (lowerOp_of_eval s3 he1) he1 H (fun X _ => F.env X) ?_
      intro ρ' v' w' r1 r2 r3
      refine evalOps_ok' hc l m e2 he r2 ((F.mono r3.le).put s1 r1) ?_
      intro ρ2 w2 a2 q1 q2 q3 q4
      exact hQ ρ2 w2 a2 q1 q2 (r3.trans q3) (q4.trans (put_defers' _ _ _))
    · rename_i hw
      rw [if_neg (by rw [wanted_ok (ρ := ρ) s2 hw (fun t x _ v hv => F.2 t v hv)]; simp)]
      refine ⟨fun f _ => fen_fn rd f, ?_⟩
      refine evalOps_ok' hc l m e2 he H (F.put s1 (.tuple _ _ .nil)) ?_
      intro ρ2 w2 a2 q1 q2 q3 q4
      exact hQ ρ2 w2 a2 q1 q2 q3 (q4.trans (put_defers' _ _ _))
    · cases he

theorem evalOps_ok (hc : CalleeOk P dok call) {ops : Array Oper} {Q : Exit → Act → World → Prop} (l : List Oper) (sl : List SOp) (hl : lowerOps P nt ops l = some sl) {fr : Fr} {h : Hp} {fr' : Fr} {h' : Hp} (he : evalOps call sl fr h = some (fr', h'))
    {ρ : Ren} {w : World} {a : Act} (H : HRel ρ h w) (F : FrRel ρ nt fr a) (hQ : ∀ ρ' w' a', HRel ρ' h' w' → FrRel ρ' nt fr' a' → Step ρ h w ρ' h' w' → a'.defers = a.defers → Q .normal a' w') : wpListIn (fen rd) 0 P ops Q l a w := by
  have := evalOps_ok' (rd := rd) (tl := []) (Q := Q) hc l sl hl he H F hQ
  rwa [List.append_nil] at this

end
end Go.Lite
