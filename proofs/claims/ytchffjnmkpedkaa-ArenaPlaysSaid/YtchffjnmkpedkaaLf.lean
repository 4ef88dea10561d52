/-
  LITE, part f: each operation of the evaluator is the model's. Own work of this session.
-/
import Derived.Test.YtchffjnmkpedkaaLe
set_option linter.unusedSectionVars false
set_option linter.unusedSimpArgs false
set_option linter.unusedVariables false
namespace Go.Lite
set_option linter.unusedSectionVars false
set_option linter.unusedSimpArgs false
set_option linter.unusedVariables false
open Go.RowKit
variable [Ctx]

section
variable {P : Program}

/-- What an operation of the evaluator says of the model's. -/
def OpOk (P : Program) (ρ : Ren) (h : Hp) (w : World) (s : Sem Next) (out : Out) (h' : Hp) : Prop :=
  match out with
  | .val v => ∃ n v' w' ρ', s.run P w = .ok n w' ∧ (n = .value v' ∨ (n = .skip ∧ v' = undef)) ∧ Rel ρ' v v' ∧ HRel ρ' h' w' ∧ Step ρ h w ρ' h' w'
  | .call (.fn f) args => ∃ args' : Array Value, s.run P w = (callFunc f args').run P w ∧ RelL ρ args args'.toList ∧ h' = h
  | .call (.it _) _ => False
  | .call (.yld b) args => ∃ (args' : Array Value) (l : Loc), ρ b = some l ∧ s.run P w = (Instr.yield l.row args').run P w ∧ RelL ρ args args'.toList ∧ h' = h

theorem OpOk.pure {ρ : Ren} {h : Hp} {w : World} {s : Sem Next} {v : AV} {v' : Value} (H : HRel ρ h w) (hs : s.run P w = .ok (.value v') w) (r : Rel ρ v v') : OpOk P ρ h w s (.val v) h :=
  ⟨.value v', v', w, ρ, hs, .inl rfl, r, H, Step.refl _ _ _⟩

/-- 'v (s)' of execOp. -/
theorem run_v {s : Sem Value} {w w' : World} {v : Value} (h : s.run P w = .ok v w') : (do pure (Next.value (← s)) : Sem Next).run P w = .ok (.value v) w' := by
  simp [h]

variable {ρ : Ren} {h : Hp} {w : World}

theorem bin_ok {op : BinOp} {t : TypeId} {X Y : Operand} {a b c : AV} {va vb : Value} (ra : Rel ρ a va) (rb : Rel ρ b vb) (hv : binA op a b = some c) :
    ∃ v, (do eqGuard op t X Y va vb; binOp op t va vb : Sem Value).run P w = .ok v w ∧ Rel ρ c v := by
  have hg : (eqGuard op t X Y va vb).run P w = .ok () w := by
    cases ra <;> cases rb <;> simp only [binA, reduceCtorEq] at hv <;> cases op <;> simp [eqGuard]
  simp only [Sem.run_bind, hg, Result.andThen_ok]
  cases ra <;> cases rb <;> simp only [binA, reduceCtorEq] at hv
  · rename_i k n k' n'
    have shift : ∀ op', (op' = .shl ∨ op' = .shr) → shiftA op' k n n' = some c → op = op' → ∃ v, (binOp op t (.int k n) (.int k' n')).run P w = .ok v w ∧ Rel ρ c v := by
      intro op' h1 h2 h3
      subst h3
      unfold shiftA at h2
      split at h2
      · cases h2
      · rename_i hneg
        rcases h1 with rfl | rfl
        · simp only [Option.some.injEq] at h2; subst h2
          exact ⟨_, by simp [binOp, Op.shift, hneg], .int _ _⟩
        · simp only [Option.some.injEq] at h2; subst h2
          exact ⟨_, by simp [binOp, Op.shift, hneg], .int _ _⟩
    have other : ∀ (hk : k = k') , binInt op k n n' = some c → op ≠ .shl → op ≠ .shr → ∃ v, (binOp op t (.int k n) (.int k' n')).run P w = .ok v w ∧ Rel ρ c v := by
      intro hk h2 n1 n2
      subst hk
      cases op <;> simp only [binInt] at h2 <;> first
        | exact absurd rfl n1
        | exact absurd rfl n2
        | (split at h2
           · cases h2
           · rename_i h0; cases h2; refine ⟨_, ?_, .int _ _⟩; simp [binOp, Op.intDiv, h0]; done)
        | (cases h2; refine ⟨_, ?_, .bool _⟩; simp [binOp, Op.intCmp]; done)
        | (cases h2; refine ⟨_, ?_, .int _ _⟩; simp only [binOp, ne_eq, not_true_eq_false, if_false]; rfl)
    cases op <;> simp only at hv <;> first
      | exact shift _ (.inl rfl) hv rfl
      | exact shift _ (.inr rfl) hv rfl
      | (split at hv
         · rename_i hk; exact other hk hv (by simp) (by simp)
         · cases hv)
  · rename_i s s'
    cases op <;> simp only [binStr, reduceCtorEq] at hv <;> first
      | (split at hv
         · rename_i hle
           cases hv
           refine ⟨.string (s ++ s'), ?_, .str _⟩
           have : ¬ ((s.size + s'.size : Nat) : Int) > IntKind.i64.max := by
             have : IntKind.i64.max = 9223372036854775807 := by rfl
             omega
           simp only [binOp, Op.stringOp]
           rw [Sem.run_ite, if_neg this]; rfl
         · cases hv)
      | (cases hv; exact ⟨_, by simp [binOp, Op.stringOp], .bool _⟩)

theorem equal_of {t : TypeId} {va vb : Value} {c : Bool} (hh : ∀ d, (Op.equalIn (d + 1) t va vb).run P w = .ok c w) : (Op.equal t va vb).run P w = .ok c w := hh 9999

theorem eq_ok {neg : Bool} {t : TypeId} {X Y : Operand} {k : EqK} (hk : eqKT P t = some k) {a b : AV} {c : Bool} {va vb : Value} (ra : Rel ρ a va) (rb : Rel ρ b vb) (hv : eqA k a b = some c) :
    ∃ v, (do eqGuard (if neg then .neq else .eql) t X Y va vb; binOp (if neg then .neq else .eql) t va vb : Sem Value).run P w = .ok v w ∧ Rel ρ (.bool (if neg then !c else c)) v := by
  -- the guard, and the comparison
  suffices hh : (eqGuard (if neg then .neq else .eql) t X Y va vb).run P w = .ok () w ∧ (Op.equal t va vb).run P w = .ok c w ∧
      (∀ op : BinOp, binOp op t va vb = (match op with | .eql => (do pure (.bool (← Op.equal t va vb)) : Sem Value) | .neq => (do pure (.bool (!(← Op.equal t va vb))) : Sem Value) | _ => binOp op t va vb)) by
    obtain ⟨h1, h2, h3⟩ := hh
    refine ⟨_, ?_, .bool _⟩
    simp only [Sem.run_bind, h1, Result.andThen_ok]
    rw [h3]
    cases neg <;> simp [h2]
  unfold eqKT at hk
  split at hk
  · -- bool
    rename_i hu
    cases hk
    cases ra <;> cases rb <;> simp only [eqA, reduceCtorEq] at hv
    cases hv
    refine ⟨by cases neg <;> simp [eqGuard], ?_, fun op => by cases op <;> rfl⟩
    exact equal_of fun d => run_equalIn_bool' w d t _ _ hu
  · -- pointer
    rename_i e hu
    split at hk
    · rename_i n hn
      split at hk
      · cases hk
      · rename_i hn0
        cases hk
        cases ra <;> cases rb <;> simp only [eqA, reduceCtorEq] at hv
        · cases hv
          refine ⟨by cases neg <;> simp [eqGuard], equal_of fun d => by simp [Op.equalIn, run_underlying hu], fun op => by cases op <;> rfl⟩
        · cases hv
          refine ⟨by cases neg <;> simp [eqGuard], equal_of fun d => by simp [Op.equalIn, run_underlying hu], fun op => by cases op <;> rfl⟩
        · cases hv
          refine ⟨by cases neg <;> simp [eqGuard], equal_of fun d => by simp [Op.equalIn, run_underlying hu], fun op => by cases op <;> rfl⟩
        · rename_i b1 o1 l1 e1 b2 o2 l2 e2
          split at hv
          · rename_i hb
            obtain rfl : b1 = b2 := hb
            cases hv
            rw [e1] at e2; cases e2
            refine ⟨by cases neg <;> simp [eqGuard], ?_, fun op => by cases op <;> rfl⟩
            refine equal_of fun d => ?_
            simp only [Op.equalIn, Sem.run_bind, run_underlying hu, Result.andThen_ok, run_sizeT hn]
            rw [if_pos hn0]
            simp [sameAddr]
            by_cases ho : o1 = o2
            · subst ho; simp
            · rw [beq_eq_false_iff_ne.2 ho, beq_eq_false_iff_ne]; intro e0; exact ho (by have := congrArg Addr.off e0; simpa using this)
          · cases hv
    · cases hk
  · -- slice
    rename_i e hu
    cases hk
    cases ra <;> cases rb <;> simp only [eqA, reduceCtorEq] at hv <;>
      (cases hv; refine ⟨by cases neg <;> simp [eqGuard], equal_of fun d => by simp [Op.equalIn, run_underlying hu], fun op => by cases op <;> rfl⟩)
  · -- func
    rename_i hu
    cases hk
    cases ra <;> cases rb <;> simp only [eqA, reduceCtorEq] at hv <;>
      (cases hv; refine ⟨by cases neg <;> simp [eqGuard], equal_of fun d => by simp [Op.equalIn, run_underlying hu], fun op => by cases op <;> rfl⟩)
  · -- struct
    rename_i fs hu
    split at hk
    · cases hk
    · rename_i hgt
      rw [Option.map_eq_some_iff] at hk
      obtain ⟨l, hl, rfl⟩ := hk
      have hag : isAggT P t = some true := by simp [isAggT, hu]
      cases ra <;> cases rb <;> simp only [eqA, reduceCtorEq] at hv
      rename_i xs cx hx ys cy hy
      refine ⟨by cases neg <;> exact run_eqGuard_agg w _ _ _ _ _ _ (by simpa using hgt), ?_, fun op => by cases op <;> rfl⟩
      have := (equalIn_flat 20 _ _ hl 10000 (by omega) _ hag).2 hv hx hy w
      simp only [valOf, if_true, Array.toArray_toList] at this
      exact this
  · -- array
    rename_i n e hu
    split at hk
    · cases hk
    · rename_i hgt
      rw [Option.map_eq_some_iff] at hk
      obtain ⟨l, hl, rfl⟩ := hk
      have hag : isAggT P t = some true := by simp [isAggT, hu]
      cases ra <;> cases rb <;> simp only [eqA, reduceCtorEq] at hv
      rename_i xs cx hx ys cy hy
      refine ⟨by cases neg <;> exact run_eqGuard_agg w _ _ _ _ _ _ (by simpa using hgt), ?_, fun op => by cases op <;> rfl⟩
      have := (equalIn_flat 20 _ _ hl 10000 (by omega) _ hag).2 hv hx hy w
      simp only [valOf, if_true, Array.toArray_toList] at this
      exact this
  · cases hk

theorem loadVar_ok (H : HRel ρ h w) {t : TypeId} {g : Option Nat} (hg : aggT P t = some g) {b o : Nat} {l : Loc} (hl : ρ b = some l) {v : AV} (hv : loadA h (b, o) g = some v) :
    ∃ u, (loadVar t ⟨l.row, l.base + o, none⟩).run P w = .ok u w ∧ Rel ρ v u := by
  obtain ⟨n, hn, ⟨rfl, ha⟩ | ⟨rfl, ha⟩⟩ := aggT_spec hg
  · simp only [loadA, Option.map_eq_some_iff] at hv
    obtain ⟨cs, hcs, rfl⟩ := hv
    obtain ⟨us, hus, hr⟩ := H.loadCells (P := P) hcs hl
    exact ⟨.agg us, by simp [loadVar, run_isAggT ha, run_sizeT hn, hus], .agg _ _ hr⟩
  · simp only [loadA] at hv
    obtain ⟨u, hu, hr⟩ := H.cell hv hl
    exact ⟨u, by simp [loadVar, run_isAggT ha, hu], hr⟩


end
end Go.Lite
