/-
  ArenaEnds holds: whatever the acts are, when each number that was told, and kept, is dropped as often, there are no nodes.
  The frame follows the kit's skeleton of a law; the walk is this session's own work.
-/
import Derived.Test.YtchffjnmkpedkaaRows
import Derived.Test.YtchffjnmkpedkaaBn
import Derived.Test.YtchffjnmkpedkaaLw
set_option linter.unusedSectionVars false
set_option linter.unusedSimpArgs false
set_option linter.unusedVariables false
namespace Go.Proofs.Ytchffjnmkpedkaa.arenaEnds
set_option linter.unusedSectionVars false
set_option linter.unusedSimpArgs false
set_option linter.unusedVariables false
open Go.Lite Go.ChangeShapes Go.WideShapes Go.ChangeAt Go.RowKit Go.Lite.Arena

theorem own : ownKnob Try.prog.godebug = none := by kernel_rfl

set_option maxRecDepth 100000 in
theorem lifted (os : Os) (started : os.Started) (H : Type) (enc : TypeId × Value → H) :
    ReturnsInHanded {} Try.checked os 3 .any (Rows.arenaEndsSpec.pre6 enc Try.prog Try.f3 Rows.arenaEndsRow.domain false) (Rows.arenaEndsSpec.post enc Try.prog Try.f3 false true false false) := by
  refine returnsInHanded_of_change (C := Try.checked) own started (by kernel_rfl) Try.func3
    (ChangeSpec.witness6 (enc := enc) (C := Try.checked) false ⟨#[], #[.slice none 0 0], []⟩ 8 (by kernel_rfl) (by kernel_rfl) (by kernel_rfl) (by kernel_rfl)) ?_
  intro W base args ds gs before hval0 hW hcnd _
  have hval : ∀ (j : Nat) t v, Try.f3.params[j]? = some t → args[j]? = some v → Value.okWide Try.prog W .any base t v := hval0
  have hW' := hW
  obtain ⟨p, q, hA0, hV, rfl, hfz, hnd⟩ := hW
  have hA : DataW.TrodAll enc Try.prog W 0 (fun _ => true) true Try.f3.params.toList args.toList ds p := hA0
  have hA1 := hA
  rw [Try.params3] at hA1 hval
  obtain ⟨v0, vs0, d0, ds0, p0, q0, hargs, rfl, _, h0, r0⟩ := trodAll_cons hA1
  obtain ⟨rfl, rfl, _⟩ := trodAll_nil r0
  obtain rfl : args = #[v0] := by cases args; simp_all
  obtain ⟨rfl, rfl⟩ := trodVars_none hV
  obtain ⟨fu0, t0⟩ := h0
  obtain ⟨acts, ρ, hp, bs, cap, HR, hno, hr1, hq⟩ := open_acts (hval 0 _ v0 rfl rfl) t0
  obtain ⟨h', he⟩ := ends_run acts bs cap 0 hp hq
  clear hA0 hval0
  simp only [List.append_nil] at hW'
  refine (law_walk2 F2_ok mixed ctxOk Try.call3 HR hno (args' := #[v0]) (.cons _ _ _ _ hr1 .nil) he).mono fun e W' ⟨he, hg⟩ => ?_
  subst he
  exact ⟨_, rfl, post_law (tb := 4) (by kernel_rfl) (by kernel_rfl) hW' hA rfl rfl (by kernel_rfl) Try.underlying4 hg⟩

theorem over : Rows.arenaEndsRow.holds Try.pinned (OpenSpec.ofChange Rows.arenaEndsSpec) :=
  OpenClaim.holds_of_wide 3 Try.f3 rfl rfl rfl rfl rfl rfl rfl ⟨rfl, rfl, rfl, rfl, rfl⟩ rfl rfl rfl rfl rfl (by kernel_rfl) Try.func3 (by kernel_rfl)
    (of_decide_eq_true (by kernel_rfl)) (by unfold Func.isWrapper; first | (rw [if_pos (by decide +kernel)]; kernel_rfl) | (rw [if_neg (by decide +kernel)]; exact ⟨rfl, rfl⟩))
    (fun os started H enc _ => lifted os started H enc)

/-- THE STATEMENT -/
theorem proved : Rows.ArenaEndsSaid :=
  over
#print axioms proved
end Go.Proofs.Ytchffjnmkpedkaa.arenaEnds
