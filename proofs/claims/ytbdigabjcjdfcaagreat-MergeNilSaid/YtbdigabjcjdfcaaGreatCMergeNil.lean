/-
  MergeNil holds: without a book the calls say so, and a fixed merge comes to what the document says.
  By the evaluator of this session; the frame follows the kit's skeleton of a law.
-/
import Derived.Test.YtbdigabjcjdfcaaGreatRows
import Derived.Test.YtbdigabjcjdfcaaGreatJMergeNil
import Derived.Test.YtbdigabjcjdfcaaGreatNMerge
import Derived.Test.YtbdigabjcjdfcaaGreatLw
namespace Go.Proofs.YtbdigabjcjdfcaaGreat.mergeNil
open Go.Lite Go.ChangeShapes Go.WideShapes Go.ChangeAt Go.RowKit
set_option linter.unusedVariables false

theorem own : ownKnob Tryz.prog.godebug = none := by kernel_rfl

set_option maxRecDepth 100000 in
theorem lifted (os : Os) (started : os.Started) (H : Type) (enc : TypeId × Value → H) :
    ReturnsInHanded {} Tryz.checked os 3 .any (Rows.mergeNilSpec.pre6 enc Tryz.prog Tryz.f3 Rows.mergeNilRow.domain false) (Rows.mergeNilSpec.post enc Tryz.prog Tryz.f3 false true false false) := by
  refine returnsInHanded_of_change (C := Tryz.checked) own started (by kernel_rfl) Tryz.func3
    (ChangeSpec.witness6 (enc := enc) (C := Tryz.checked) false ⟨#[], #[.string ⟨#[]⟩, .int .i64 0], []⟩ 8 (by kernel_rfl) (by kernel_rfl) (by kernel_rfl) (by kernel_rfl)) ?_
  intro W base args ds gs before hval0 hW hcnd _
  have hval : ∀ (j : Nat) t v, Tryz.f3.params[j]? = some t → args[j]? = some v → Value.okWide Tryz.prog W .any base t v := hval0
  have hW' := hW
  obtain ⟨p, q, hA0, hV, rfl, hfz, hnd⟩ := hW
  have hA : DataW.TrodAll enc Tryz.prog W 0 (fun _ => true) true Tryz.f3.params.toList args.toList ds p := hA0
  have hA1 := hA
  rw [Tryz.params3] at hA1 hval
  obtain ⟨v0, vs0, d0, ds0, p0, q0, hargs, rfl, _, h0, r0⟩ := trodAll_cons hA1
  obtain ⟨v1, vs1, d1, ds1, p1, q1, rfl, rfl, _, h1, r1⟩ := trodAll_cons r0
  obtain ⟨rfl, rfl, _⟩ := trodAll_nil r1
  obtain rfl : args = #[v0, v1] := by cases args; simp_all
  obtain ⟨rfl, rfl⟩ := trodVars_none hV
  obtain ⟨a0, rfl⟩ := open_str (t := _) (by first | exact Tryz.underlying9 | kernel_rfl) (hval 0 _ v0 rfl rfl)
  obtain ⟨a1, rfl, w1⟩ := open_i (t := _) (k := .i64) (by first | exact Tryz.underlying3 | kernel_rfl) (hval 1 _ v1 rfl rfl)
  clear hA0 hval0
  simp only [List.append_nil] at hW'
  refine (walkMergeNil a0 a1 W).mono fun e W' ⟨he, hg⟩ => ?_
  subst he
  exact ⟨_, rfl, post_law (tb := 4) (by kernel_rfl) (by kernel_rfl) hW' hA rfl rfl (by kernel_rfl) (by first | exact Tryz.underlying4 | kernel_rfl) hg⟩


theorem over : Rows.mergeNilRow.holds Tryz.pinned (OpenSpec.ofChange Rows.mergeNilSpec) :=
  OpenClaim.holds_of_wide 3 Tryz.f3 rfl rfl rfl rfl rfl rfl rfl ⟨rfl, rfl, rfl, rfl, rfl⟩ rfl rfl rfl rfl rfl named Tryz.func3 closed
    inst wrap
    (fun os started H enc _ => lifted os started H enc)

/-- THE STATEMENT -/
theorem proved : Rows.MergeNilSaid :=
  over
#print axioms proved
end Go.Proofs.YtbdigabjcjdfcaaGreat.mergeNil
