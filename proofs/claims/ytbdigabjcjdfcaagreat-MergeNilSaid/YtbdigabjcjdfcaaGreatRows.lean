/-
  No cell of these rows narrows 'for every input' (looked for: loops, veiled, ifaces, maps, wideKeys, modest, calm, conditions, laid).
  DERIVED. THE GIVEN ROWS OF THIS SEAT. 4 by the template 'for every input the law returns true; each argument reads behind the call as it read before'; 0 by the template 'total and deterministic' (their statements: YtbdigabjcjdfcaaGreatTotals.lean).
  GIVEN WITH THE SEED: the statements are not yours to turn. If you find one false, say at which input.
  Laid BY PROGRAM, IN A SANDBOX (cutbox-rows.mjs): the forced cells as the released guide's own fill.sh prints them over the translation ba75c8486e9f9e1a… (all of the seat's roots in one cut). By AI agents, Wed Nov 11 2026. No macro, syntax, notation, axiom, sorry.
-/
import Derived.Test.YtbdigabjcjdfcaaGreatChecked
import GoSem.Claim
import GoSem.ClaimJoined
import GoSem.ClaimMapViews
import Derived.JoinedTies
import Derived.KernelRfl
namespace Go.Proofs.YtbdigabjcjdfcaaGreat
/- THE CELL 'sum', in the pinned program and in every row, IS THE sha256 OF THE DUMP (.gsa) THAT YtbdigabjcjdfcaaGreatProg.lean LOADS. Nothing in Lean hashes anything: it is a label: what it is worth is what the hold of that sum in a sandbox is worth. -/
noncomputable def Tryz.pinned : Pinned := { name := "ytbdigabjcjdfcaagreat", sum := "ba75c8486e9f9e1adc42e9225a78be2087c5bd57fe7117058ea10c544332305b", checked := Tryz.checked }
namespace Rows
def none {H : Type} : Left H := { results := [], args := [] }

/-- 'moietylaw20.MergeNil': WHATEVER THE INPUT: true; the input reads as it did. -/
def mergeNilSpec : ChangeSpec := { name := "mergeNil", fn := fun _ => fun
  | [d1, d2] => { results := [.lit (.bool true)], args := [d1, d2] }
  | _ => none }
def mergeNilRow : OpenClaim := { program := "ytbdigabjcjdfcaagreat", sum := "ba75c8486e9f9e1adc42e9225a78be2087c5bd57fe7117058ea10c544332305b", func := "moiety/moietylaw20.MergeNil", spec := "mergeNil", inPlace := ["slices.overlaps[int]", "math/bits.Add64", "slices.overlaps[moiety/api.Cell]", "internal/bytealg.abigen_runtime_cmpstring", "slices.overlaps[moiety/lock.entry]"], unfollowed := true, recurses := true, apart := false }
def MergeNilSaid : Prop := mergeNilRow.holds Tryz.pinned (OpenSpec.ofChange mergeNilSpec)

/-- ITS FALSE NEIGHBOUR: 'it returns false'. Refute it at one input. -/
def mergeNilWrong : ChangeSpec := { name := "mergeNil", fn := fun _ => fun
  | [d1, d2] => { results := [.lit (.bool false)], args := [d1, d2] }
  | _ => none }
def MergeNilWrongFalsely : Prop := mergeNilRow.holds Tryz.pinned (OpenSpec.ofChange mergeNilWrong)

/-- 'moietylaw21.ScenNil': WHATEVER THE INPUT: true; the input reads as it did. -/
def scenNilSpec : ChangeSpec := { name := "scenNil", fn := fun _ => fun
  | [d] => { results := [.lit (.bool true)], args := [d] }
  | _ => none }
def scenNilRow : OpenClaim := { program := "ytbdigabjcjdfcaagreat", sum := "ba75c8486e9f9e1adc42e9225a78be2087c5bd57fe7117058ea10c544332305b", func := "moiety/moietylaw21.ScenNil", spec := "scenNil", inPlace := ["slices.overlaps[int]", "math/bits.Add64"], unfollowed := true, recurses := true, apart := false }
def ScenNilSaid : Prop := scenNilRow.holds Tryz.pinned (OpenSpec.ofChange scenNilSpec)

/-- ITS FALSE NEIGHBOUR: 'it returns false'. Refute it at one input. -/
def scenNilWrong : ChangeSpec := { name := "scenNil", fn := fun _ => fun
  | [d] => { results := [.lit (.bool false)], args := [d] }
  | _ => none }
def ScenNilWrongFalsely : Prop := scenNilRow.holds Tryz.pinned (OpenSpec.ofChange scenNilWrong)

/-- 'moietylaw17.PlanNil': WHATEVER THE INPUT: true; the input reads as it did. -/
def planNilSpec : ChangeSpec := { name := "planNil", fn := fun _ => fun
  | [d1, d2] => { results := [.lit (.bool true)], args := [d1, d2] }
  | _ => none }
def planNilRow : OpenClaim := { program := "ytbdigabjcjdfcaagreat", sum := "ba75c8486e9f9e1adc42e9225a78be2087c5bd57fe7117058ea10c544332305b", func := "moiety/moietylaw17.PlanNil", spec := "planNil", inPlace := ["math/bits.Add64", "slices.overlaps[int]", "slices.overlaps[moiety/api.Cell]", "internal/bytealg.abigen_runtime_cmpstring", "slices.overlaps[moiety/lock.entry]"], unfollowed := true, recurses := true, named := ["math/bits.divideError", "math/bits.overflowError"], apart := false }
def PlanNilSaid : Prop := planNilRow.holds Tryz.pinned (OpenSpec.ofChange planNilSpec)

/-- ITS FALSE NEIGHBOUR: 'it returns false'. Refute it at one input. -/
def planNilWrong : ChangeSpec := { name := "planNil", fn := fun _ => fun
  | [d1, d2] => { results := [.lit (.bool false)], args := [d1, d2] }
  | _ => none }
def PlanNilWrongFalsely : Prop := planNilRow.holds Tryz.pinned (OpenSpec.ofChange planNilWrong)

/-- 'moietylaw22.CubeNil': WHATEVER THE INPUT: true; the input reads as it did. -/
def cubeNilSpec : ChangeSpec := { name := "cubeNil", fn := fun _ => fun
  | [d] => { results := [.lit (.bool true)], args := [d] }
  | _ => none }
def cubeNilRow : OpenClaim := { program := "ytbdigabjcjdfcaagreat", sum := "ba75c8486e9f9e1adc42e9225a78be2087c5bd57fe7117058ea10c544332305b", func := "moiety/moietylaw22.CubeNil", spec := "cubeNil", inPlace := ["math/bits.Add64", "slices.overlaps[int]", "slices.overlaps[moiety/api.Cell]", "internal/bytealg.abigen_runtime_cmpstring", "slices.overlaps[moiety/lock.entry]"], unfollowed := true, recurses := true, named := ["math/bits.divideError", "math/bits.overflowError"], apart := false }
def CubeNilSaid : Prop := cubeNilRow.holds Tryz.pinned (OpenSpec.ofChange cubeNilSpec)

/-- ITS FALSE NEIGHBOUR: 'it returns false'. Refute it at one input. -/
def cubeNilWrong : ChangeSpec := { name := "cubeNil", fn := fun _ => fun
  | [d] => { results := [.lit (.bool false)], args := [d] }
  | _ => none }
def CubeNilWrongFalsely : Prop := cubeNilRow.holds Tryz.pinned (OpenSpec.ofChange cubeNilWrong)

/- THE SECOND FORM. 'bulk': how many values and letters a reading holds, each counted each time it is reached (what is shared counts as often as it is met; a slice's spare places count too). A statement '..UptoSaid' is the law's where the arguments, and the package variables that the reading takes, are together of bulk at most 1048576: NARROWER than '..Said'. Prove '..Said' where nothing that the law and all that it calls make is longer than what came in: it says more and counts as full. Else prove '..UptoSaid'. A law counts once. -/
mutual
def uptoBulk {H : Type} : DataW H → Nat
  | .lit (.string bytes) => bytes.length + 1
  | .lit _ => 1
  | .nil => 1
  | .ptr d => uptoBulk d + 1
  | .slice elems spare => uptoBulkAll elems + uptoBulkAll spare + 1
  | .agg parts => uptoBulkAll parts + 1
  | .iface _ d => uptoBulk d + 1
  | .map entries => uptoBulkEntries entries + 1
  | .held _ => 1
def uptoBulkAll {H : Type} : List (DataW H) → Nat
  | [] => 0
  | d :: r => uptoBulk d + uptoBulkAll r
def uptoBulkEntries {H : Type} : List (Lit × DataW H) → Nat
  | [] => 0
  | x :: r => uptoBulkEntry x + uptoBulkEntries r
def uptoBulkEntry {H : Type} : Lit × DataW H → Nat
  | (.string bytes, d) => bytes.length + uptoBulk d + 1
  | (_, d) => uptoBulk d + 1
 end
def uptoSmall : (H : Type) → List (DataW H) → Bool := fun _ ds => decide (uptoBulkAll ds ≤ 1048576)
def OpenSpec.upto (s : _root_.Go.ChangeSpec) : _root_.Go.OpenSpec := { _root_.Go.OpenSpec.ofChange s with cond := some uptoSmall }

/-- 'moietylaw20.MergeNil', WHERE WHAT IT READS IS OF BULK AT MOST 1048576: true; the input reads as it did. -/
def mergeNilUptoRow : OpenClaim := { program := "ytbdigabjcjdfcaagreat", sum := "ba75c8486e9f9e1adc42e9225a78be2087c5bd57fe7117058ea10c544332305b", func := "moiety/moietylaw20.MergeNil", spec := "mergeNil", inPlace := ["slices.overlaps[int]", "math/bits.Add64", "slices.overlaps[moiety/api.Cell]", "internal/bytealg.abigen_runtime_cmpstring", "slices.overlaps[moiety/lock.entry]"], unfollowed := true, recurses := true, apart := false, narrowed := true }
def MergeNilUptoSaid : Prop := mergeNilUptoRow.holds Tryz.pinned (OpenSpec.upto mergeNilSpec)

/-- 'moietylaw21.ScenNil', WHERE WHAT IT READS IS OF BULK AT MOST 1048576: true; the input reads as it did. -/
def scenNilUptoRow : OpenClaim := { program := "ytbdigabjcjdfcaagreat", sum := "ba75c8486e9f9e1adc42e9225a78be2087c5bd57fe7117058ea10c544332305b", func := "moiety/moietylaw21.ScenNil", spec := "scenNil", inPlace := ["slices.overlaps[int]", "math/bits.Add64"], unfollowed := true, recurses := true, apart := false, narrowed := true }
def ScenNilUptoSaid : Prop := scenNilUptoRow.holds Tryz.pinned (OpenSpec.upto scenNilSpec)

/-- 'moietylaw17.PlanNil', WHERE WHAT IT READS IS OF BULK AT MOST 1048576: true; the input reads as it did. -/
def planNilUptoRow : OpenClaim := { program := "ytbdigabjcjdfcaagreat", sum := "ba75c8486e9f9e1adc42e9225a78be2087c5bd57fe7117058ea10c544332305b", func := "moiety/moietylaw17.PlanNil", spec := "planNil", inPlace := ["math/bits.Add64", "slices.overlaps[int]", "slices.overlaps[moiety/api.Cell]", "internal/bytealg.abigen_runtime_cmpstring", "slices.overlaps[moiety/lock.entry]"], unfollowed := true, recurses := true, named := ["math/bits.divideError", "math/bits.overflowError"], apart := false, narrowed := true }
def PlanNilUptoSaid : Prop := planNilUptoRow.holds Tryz.pinned (OpenSpec.upto planNilSpec)

/-- 'moietylaw22.CubeNil', WHERE WHAT IT READS IS OF BULK AT MOST 1048576: true; the input reads as it did. -/
def cubeNilUptoRow : OpenClaim := { program := "ytbdigabjcjdfcaagreat", sum := "ba75c8486e9f9e1adc42e9225a78be2087c5bd57fe7117058ea10c544332305b", func := "moiety/moietylaw22.CubeNil", spec := "cubeNil", inPlace := ["math/bits.Add64", "slices.overlaps[int]", "slices.overlaps[moiety/api.Cell]", "internal/bytealg.abigen_runtime_cmpstring", "slices.overlaps[moiety/lock.entry]"], unfollowed := true, recurses := true, named := ["math/bits.divideError", "math/bits.overflowError"], apart := false, narrowed := true }
def CubeNilUptoSaid : Prop := cubeNilUptoRow.holds Tryz.pinned (OpenSpec.upto cubeNilSpec)

end Rows
end Go.Proofs.YtbdigabjcjdfcaaGreat
