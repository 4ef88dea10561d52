/-
  CubeNil holds: without a cube the calls say so, and fixed commands come to what the document says.
  By the evaluator of this session; the frame follows the kit's skeleton of a law.
-/
import Derived.Test.YtbdigabjcjdfcaaGreatRows
import Derived.Test.YtbdigabjcjdfcaaGreatJCubeNil
import Derived.Test.YtbdigabjcjdfcaaGreatNCube
import Derived.Test.YtbdigabjcjdfcaaGreatLw
namespace Go.Proofs.YtbdigabjcjdfcaaGreat.cubeNil
open Go.Lite Go.ChangeShapes Go.WideShapes Go.ChangeAt Go.RowKit
set_option linter.unusedVariables false

theorem own : ownKnob Tryz.prog.godebug = none := by kernel_rfl

set_option maxRecDepth 100000 in
theorem lifted (os : Os) (started : os.Started) (H : Type) (enc : TypeId × Value → H) :
    ReturnsInHanded {} Tryz.checked os 6 .any (Rows.cubeNilSpec.pre6 enc Tryz.prog Tryz.f6 Rows.cubeNilRow.domain false) (Rows.cubeNilSpec.post enc Tryz.prog Tryz.f6 false true false false) := by
  refine returnsInHanded_of_change (C := Tryz.checked) own started (by kernel_rfl) Tryz.func6
    (ChangeSpec.witness6 (enc := enc) (C := Tryz.checked) false ⟨#[], #[.agg #[.int .i64 0, .string ⟨#[]⟩, .string ⟨#[]⟩, .string ⟨#[]⟩, .int .i64 0, .int .i64 0, .int .i64 0, .int .i64 0, .int .i64 0, .int .i64 0, .int .i64 0, .int .i64 0]], []⟩ 8 (by kernel_rfl) (by kernel_rfl) (by kernel_rfl) (by kernel_rfl)) ?_
  intro W base args ds gs before hval0 hW hcnd _
  have hval : ∀ (j : Nat) t v, Tryz.f6.params[j]? = some t → args[j]? = some v → Value.okWide Tryz.prog W .any base t v := hval0
  have hW' := hW
  obtain ⟨p, q, hA0, hV, rfl, hfz, hnd⟩ := hW
  have hA : DataW.TrodAll enc Tryz.prog W 0 (fun _ => true) true Tryz.f6.params.toList args.toList ds p := hA0
  have hA1 := hA
  rw [Tryz.params6] at hA1 hval
  obtain ⟨v0, vs0, d0, ds0, p0, q0, hargs, rfl, _, h0, r0⟩ := trodAll_cons hA1
  obtain ⟨rfl, rfl, _⟩ := trodAll_nil r0
  obtain rfl : args = #[v0] := by cases args; simp_all
  obtain ⟨rfl, rfl⟩ := trodVars_none hV
  obtain ⟨a0, x0, w0⟩ := open_flat (ρ := Ren.none) (ts := [3,9,9,9,3,3,3,3,3,2,3,3]) (ks := [.int .i64, .string, .string, .string, .int .i64, .int .i64, .int .i64, .int .i64, .int .i64, .int .i64, .int .i64, .int .i64]) (t := _) (by first | exact Tryz.underlying72 | kernel_rfl) (by kernel_rfl) (by kernel_rfl) (by kernel_rfl) (by simp) (hval 0 _ v0 rfl rfl)
  clear hA0 hval0
  simp only [List.append_nil] at hW'
  refine (walkCubeNil a0 w0 v0 x0 W).mono fun e W' ⟨he, hg⟩ => ?_
  subst he
  exact ⟨_, rfl, post_law (tb := 4) (by kernel_rfl) (by kernel_rfl) hW' hA rfl rfl (by kernel_rfl) (by first | exact Tryz.underlying4 | kernel_rfl) hg⟩


theorem over : Rows.cubeNilRow.holds Tryz.pinned (OpenSpec.ofChange Rows.cubeNilSpec) :=
  OpenClaim.holds_of_wide 6 Tryz.f6 rfl rfl rfl rfl rfl rfl rfl ⟨rfl, rfl, rfl, rfl, rfl⟩ rfl rfl rfl rfl rfl named Tryz.func6 closed
    inst wrap
    (fun os started H enc _ => lifted os started H enc)

/-- THE STATEMENT -/
theorem proved : Rows.CubeNilSaid :=
  over
#print axioms proved
end Go.Proofs.YtbdigabjcjdfcaaGreat.cubeNil
