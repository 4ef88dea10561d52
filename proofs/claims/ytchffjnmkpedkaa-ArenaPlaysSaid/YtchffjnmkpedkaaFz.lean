/-
  The functions of this seat as the evaluator has them: printed by a program of this session (wip/tools), each held against the translation by the kernel.
-/
import Derived.Test.YtchffjnmkpedkaaProg
import Derived.Test.YtchffjnmkpedkaaLu
namespace Go.Proofs.Ytchffjnmkpedkaa
open Go.Lite
instance ctxI : Ctx := ⟨fun nt c s => lowerCode Try.prog nt c = some s⟩
theorem ctxOk : ∀ nt c s, Ctx.low nt c s ↔ lowerCode Try.prog nt c = some s := fun _ _ _ => Iff.rfl
end Go.Proofs.Ytchffjnmkpedkaa
