/-
  LITE, part h: append, copy, make as the model has them. Own work of this session.
-/
import Derived.Test.YtchffjnmkpedkaaLg
set_option linter.unusedSectionVars false
set_option linter.unusedSimpArgs false
set_option linter.unusedVariables false
namespace Go.Lite
set_option linter.unusedSectionVars false
set_option linter.unusedSimpArgs false
set_option linter.unusedVariables false
open Go.RowKit
variable [Ctx]

section
variable {P : Program} {ρ : Ren} {h : Hp} {w : World}

theorem run_appendCap (P : Program) (w : World) (need old e : Nat) :
    ∃ newCap, (choose (.appendCap need old e)).run P w = .ok newCap w.drew ∧ need ≤ newCap := by
  refine ⟨need + w.tape w.drawn (.appendCap need old e) % (2 ^ 63 - need), ?_, by omega⟩
  simp [Question.forced, Question.cut]

theorem run_info {t : TypeId} {i : TypeInfo} (hi : P.info? t = some i) (w : World) : (typeInfo t).run P w = .ok i w := by simp [typeInfo, hi]
theorem run_size {t : TypeId} {i : TypeInfo} (hi : P.info? t = some i) (w : World) : (sizeOf t).run P w = .ok i.size w := by simp [sizeOf, typeInfo, hi]
theorem run_zero {t : TypeId} {i : TypeInfo} {z : Value} (hi : P.info? t = some i) (hz : i.zero = some z) (w : World) : (zeroValue t).run P w = .ok z w := by simp [zeroValue, typeInfo, hi, hz]

theorem append_ok (H : HRel ρ h w) {t u e ty : TypeId} {d : TypeDesc} {i : TypeInfo} {z : Value} {at' : Array TypeId} (h0 : at'[0]? = some t) (h1 : at'[1]? = some u) (hu : P.underlying t = some (.slice e)) (hd : P.underlying u = some d)
    (hdi : ∀ k, d ≠ .int k) (hi : P.info? e = some i) (hz : i.zero = some z) (hzs : z.cells.size = i.size)
    {a b : AV} {va vb : Value} (ra : Rel ρ a va) (rb : Rel ρ b vb) {v : AV} {h' : Hp} (hv : appendA h i.size i.bytes a b = some (v, h')) :
    ∃ v' w' ρ', (Builtin.append_ at' ty #[va, vb]).run P w = .ok v' w' ∧ Rel ρ' v v' ∧ HRel ρ' h' w' ∧ Step ρ h w ρ' h' w' := by
  unfold appendA at hv
  split at hv
  case h_2 => cases hv
  rename_i base n cap k hk
  -- the model's slice
  have hbody : ∀ (abase : Option Addr) (acap : Nat), va = .slice abase n acap → (Builtin.append_ at' ty #[va, vb]).run P w =
      (if n + k ≤ acap then
        ((Builtin.firstCells i.size k vb).run P w).andThen fun us w1 => ((match abase with | some a => storeCells (a.add (n * i.size)) us.toList | none => pure () : Sem Unit).run P w1).andThen fun _ w2 => .ok (.slice abase (n + k) acap) w2
      else ((do
        if ((n + k : Nat) : Int) > IntKind.i64.max ∧ (false = true ∨ i.bytes = 0) then runtimePanic (.error "growslice: len out of range")
        if Builtin.nextslicecap (n + k) acap * i.bytes > 2 ^ 48 then (if false = true then runtimePanic (.error "growslice: len out of range") else do
          if !(← Builtin.mayShare i.size n k abase vb) then mark .noRoom
          unsupported (.resourceLimit "append: a slice or a string whose bytes no memory bears"))
        let newCap ← choose (.appendCap (n + k) acap e)
        askRoom (newCap * i.bytes)
        let old ← Builtin.firstCells i.size n va
        let new ← Builtin.firstCells i.size k vb
        let rest := Builtin.zeroCells z.cells (newCap - (n + k))
        pure (.slice (some (← newRow e (old ++ new ++ rest))) (n + k) newCap) : Sem Value).run P w)) := by
    intro abase acap hva
    subst hva
    have hl := lenOfA_ok (P := P) (w := w) rb hk
    unfold Builtin.append_
    simp only [h0, h1, List.getElem?_toArray, List.getElem?_cons_zero, List.getElem?_cons_succ, Sem.run_bind, run_underlying hu, Result.andThen_ok, run_size hi, run_underlying hd]
    cases d with
    | int k => exact absurd rfl (hdi k)
    | _ =>
      simp only [Sem.run_pure, Result.andThen_ok, Bool.false_eq_true, if_false, hl, Sem.run_ite, Sem.run_bind, run_info hi, run_zero hi hz, Bool.not_false, if_true, false_or]
      by_cases hle : n + k ≤ acap
      · simp only [if_pos hle]
        cases abase <;> simp
      · simp only [if_neg hle]

  by_cases hk0 : k = 0
  · rw [if_pos hk0] at hv
    subst hk0
    simp only [Option.some.injEq, Prod.mk.injEq] at hv
    obtain ⟨rfl, rfl⟩ := hv
    obtain ⟨abase, acap, hva, hle⟩ : ∃ abase acap, va = .slice abase n acap ∧ n ≤ acap := by
      cases ra with
      | sliceNil => exact ⟨none, 0, rfl, Nat.le_refl _⟩
      | slice b o n' c off l hl hoff hnc => exact ⟨_, c, rfl, hnc⟩
      | sliceG b o n' e0 c off l hl hoff hnc htot => exact ⟨_, c, rfl, hnc⟩
    have hf : ∃ us : Array Value, (Builtin.firstCells i.size 0 vb).run P w = .ok us w ∧ us.toList = [] := by
      cases rb <;> simp only [lenOfA, reduceCtorEq] at hk
      · rename_i s
        refine ⟨_, rfl, ?_⟩
        rw [Array.toList_map, ByteArray.data_extract]
        simp
      · exact ⟨#[], by simp [Builtin.firstCells], rfl⟩
      · exact ⟨#[], by simp [Builtin.firstCells, Go.loadCells, Go.loadCellsFrom], rfl⟩
      · exact ⟨#[], by simp [Builtin.firstCells, Go.loadCells, Go.loadCellsFrom], rfl⟩
    obtain ⟨us, hus, hul⟩ := hf
    refine ⟨va, w, ρ, ?_, ra, H, Step.refl _ _ _⟩
    rw [hbody abase acap hva, if_pos (by omega), hus]
    simp only [Result.andThen_ok, hul]
    subst hva
    cases abase <;> simp [Go.storeCells]
  · rw [if_neg hk0] at hv
    split at hv
    case isFalse => cases hv
    rename_i hfit
    split at hv
    case h_2 => cases hv
    rename_i old more hold hmore
    split at hv
    case isFalse => cases hv
    rename_i hcond
    obtain ⟨hone, hml, hol⟩ := hcond
    obtain ⟨us, hus, hur⟩ := firstA_ok (P := P) H rb hmore hk (Nat.le_refl _)
    obtain ⟨ous, hous, hor⟩ := firstA_ok (P := P) H ra hold rfl (Nat.le_refl _)
    obtain ⟨abase, acap, hva, hnle, hcase⟩ := growA_ok (P := P) H ra hur hone hml hk0 hold hor hol hv e z.cells hzs
    rcases hcase with ⟨hle, w', q1, ρ', q2, q3, q4⟩ | ⟨hle, _⟩
    · refine ⟨.slice abase (n + k) acap, w', ρ', ?_, q2, q3, q4⟩
      rw [hbody abase acap hva, if_pos hle, hus]
      simp only [Result.andThen_ok]
      cases abase <;> (simp only at q1 ⊢; rw [q1]; rfl)
    · -- the cells are read behind the draw
      obtain ⟨us', hus', hur'⟩ := firstA_ok (P := P) H.drew rb hmore hk (Nat.le_refl _)
      obtain ⟨ous', hous', hor'⟩ := firstA_ok (P := P) H.drew ra hold rfl (Nat.le_refl _)
      obtain ⟨abase', acap', hva', _, hcase⟩ := growA_ok (P := P) H ra hur' hone hml hk0 hold hor' hol hv e z.cells hzs
      rw [hva] at hva'
      cases hva'
      obtain ⟨_, hgrow⟩ := hcase.resolve_left (fun hh => hle hh.1)
      obtain ⟨newCap, hch, hcap⟩ := run_appendCap P w (n + k) acap e
      obtain ⟨ρ', q2, q3, q4⟩ := hgrow newCap w.drew ⟨w.drawn + 1, rfl⟩ hcap
      refine ⟨_, _, ρ', ?_, q2, q3, q4⟩
      rw [hbody abase acap hva, if_neg hle]
      have e1 : ¬ (((n + k : Nat) : Int) > IntKind.i64.max ∧ (false = true ∨ i.bytes = 0)) := by
        have : IntKind.i64.max = 9223372036854775807 := by rfl
        have := hfit.2
        unfold maxLenB at this
        omega
      have e2 : ¬ Builtin.nextslicecap (n + k) acap * i.bytes > 2 ^ 48 := by
        have := growslice_fits (need := n + k) (old := acap) (bytes := i.bytes) (by omega) hfit.1
        omega
      simp only [Sem.run_bind, if_neg e1, if_neg e2, Sem.run_pure, Result.andThen_ok, hch, run_askRoom, hous', hus', newRow, run_newObj]
      rfl

end
end Go.Lite
