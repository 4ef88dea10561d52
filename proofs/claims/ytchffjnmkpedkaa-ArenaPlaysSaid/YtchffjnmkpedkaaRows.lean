/-
  No cell of these rows narrows 'for every input' (looked for: loops, veiled, ifaces, maps, wideKeys, modest, calm, conditions, laid).
  DERIVED. THE GIVEN ROWS OF THIS SEAT. 10 by the template 'for every input the law returns true; each argument reads behind the call as it read before'; 0 by the template 'total and deterministic' (their statements: YtchffjnmkpedkaaTotals.lean).
  GIVEN WITH THE SEED: the statements are not yours to turn. If you find one false, say at which input.
  Laid BY PROGRAM, IN A SANDBOX (cutbox-rows.mjs): the forced cells as the released guide's own fill.sh prints them over the translation 138b4d19c889e53f… (all of the seat's roots in one cut). By AI agents, Wed Nov 11 2026. No macro, syntax, notation, axiom, sorry.
-/
import Derived.Test.YtchffjnmkpedkaaChecked
import GoSem.Claim
import GoSem.ClaimJoined
import GoSem.ClaimMapViews
import Derived.JoinedTies
import Derived.KernelRfl
namespace Go.Proofs.Ytchffjnmkpedkaa
/- THE CELL 'sum', in the pinned program and in every row, IS THE sha256 OF THE DUMP (.gsa) THAT YtchffjnmkpedkaaProg.lean LOADS. Nothing in Lean hashes anything: it is a label: what it is worth is what the hold of that sum in a sandbox is worth. -/
noncomputable def Try.pinned : Pinned := { name := "ytchffjnmkpedkaa", sum := "138b4d19c889e53f7c93663d511f7bd939172852332be664e125687ca568def9", checked := Try.checked }
namespace Rows
def none {H : Type} : Left H := { results := [], args := [] }

/-- 'moietylaw09.ArenaEnds': WHATEVER THE INPUT: true; the input reads as it did. -/
def arenaEndsSpec : ChangeSpec := { name := "arenaEnds", fn := fun _ => fun
  | [d] => { results := [.lit (.bool true)], args := [d] }
  | _ => none }
def arenaEndsRow : OpenClaim := { program := "ytchffjnmkpedkaa", sum := "138b4d19c889e53f7c93663d511f7bd939172852332be664e125687ca568def9", func := "moiety/moietylaw09.ArenaEnds", spec := "arenaEnds", inPlace := ["slices.overlaps[int]"], unfollowed := true, recurses := true, apart := false }
def ArenaEndsSaid : Prop := arenaEndsRow.holds Try.pinned (OpenSpec.ofChange arenaEndsSpec)

/-- ITS FALSE NEIGHBOUR: 'it returns false'. Refute it at one input. -/
def arenaEndsWrong : ChangeSpec := { name := "arenaEnds", fn := fun _ => fun
  | [d] => { results := [.lit (.bool false)], args := [d] }
  | _ => none }
def ArenaEndsWrongFalsely : Prop := arenaEndsRow.holds Try.pinned (OpenSpec.ofChange arenaEndsWrong)

/-- 'moietylaw09.ArenaStays': WHATEVER THE INPUT: true; the input reads as it did. -/
def arenaStaysSpec : ChangeSpec := { name := "arenaStays", fn := fun _ => fun
  | [d1, d2] => { results := [.lit (.bool true)], args := [d1, d2] }
  | _ => none }
def arenaStaysRow : OpenClaim := { program := "ytchffjnmkpedkaa", sum := "138b4d19c889e53f7c93663d511f7bd939172852332be664e125687ca568def9", func := "moiety/moietylaw09.ArenaStays", spec := "arenaStays", inPlace := ["slices.overlaps[int]"], unfollowed := true, recurses := true, apart := false }
def ArenaStaysSaid : Prop := arenaStaysRow.holds Try.pinned (OpenSpec.ofChange arenaStaysSpec)

/-- ITS FALSE NEIGHBOUR: 'it returns false'. Refute it at one input. -/
def arenaStaysWrong : ChangeSpec := { name := "arenaStays", fn := fun _ => fun
  | [d1, d2] => { results := [.lit (.bool false)], args := [d1, d2] }
  | _ => none }
def ArenaStaysWrongFalsely : Prop := arenaStaysRow.holds Try.pinned (OpenSpec.ofChange arenaStaysWrong)

/-- 'moietylaw09.ArenaPlays': WHATEVER THE INPUT: true; the input reads as it did. -/
def arenaPlaysSpec : ChangeSpec := { name := "arenaPlays", fn := fun _ => fun
  | [d1, d2] => { results := [.lit (.bool true)], args := [d1, d2] }
  | _ => none }
def arenaPlaysRow : OpenClaim := { program := "ytchffjnmkpedkaa", sum := "138b4d19c889e53f7c93663d511f7bd939172852332be664e125687ca568def9", func := "moiety/moietylaw09.ArenaPlays", spec := "arenaPlays", inPlace := ["slices.overlaps[int]"], unfollowed := true, recurses := true, apart := false }
def ArenaPlaysSaid : Prop := arenaPlaysRow.holds Try.pinned (OpenSpec.ofChange arenaPlaysSpec)

/-- ITS FALSE NEIGHBOUR: 'it returns false'. Refute it at one input. -/
def arenaPlaysWrong : ChangeSpec := { name := "arenaPlays", fn := fun _ => fun
  | [d1, d2] => { results := [.lit (.bool false)], args := [d1, d2] }
  | _ => none }
def ArenaPlaysWrongFalsely : Prop := arenaPlaysRow.holds Try.pinned (OpenSpec.ofChange arenaPlaysWrong)

/-- 'moietylaw09.ArenaNil': WHATEVER THE INPUT: true; the input reads as it did. -/
def arenaNilSpec : ChangeSpec := { name := "arenaNil", fn := fun _ => fun
  | [d] => { results := [.lit (.bool true)], args := [d] }
  | _ => none }
def arenaNilRow : OpenClaim := { program := "ytchffjnmkpedkaa", sum := "138b4d19c889e53f7c93663d511f7bd939172852332be664e125687ca568def9", func := "moiety/moietylaw09.ArenaNil", spec := "arenaNil", inPlace := ["slices.overlaps[int]"], unfollowed := true, recurses := true, apart := false }
def ArenaNilSaid : Prop := arenaNilRow.holds Try.pinned (OpenSpec.ofChange arenaNilSpec)

/-- ITS FALSE NEIGHBOUR: 'it returns false'. Refute it at one input. -/
def arenaNilWrong : ChangeSpec := { name := "arenaNil", fn := fun _ => fun
  | [d] => { results := [.lit (.bool false)], args := [d] }
  | _ => none }
def ArenaNilWrongFalsely : Prop := arenaNilRow.holds Try.pinned (OpenSpec.ofChange arenaNilWrong)

/-- 'moietylaw10.PagesMakes': WHATEVER THE INPUT: true; the input reads as it did. -/
def pagesMakesSpec : ChangeSpec := { name := "pagesMakes", fn := fun _ => fun
  | [d1, d2] => { results := [.lit (.bool true)], args := [d1, d2] }
  | _ => none }
def pagesMakesRow : OpenClaim := { program := "ytchffjnmkpedkaa", sum := "138b4d19c889e53f7c93663d511f7bd939172852332be664e125687ca568def9", func := "moiety/moietylaw10.PagesMakes", spec := "pagesMakes", inPlace := ["slices.overlaps[int]"], unfollowed := true, recurses := true, apart := false }
def PagesMakesSaid : Prop := pagesMakesRow.holds Try.pinned (OpenSpec.ofChange pagesMakesSpec)

/-- ITS FALSE NEIGHBOUR: 'it returns false'. Refute it at one input. -/
def pagesMakesWrong : ChangeSpec := { name := "pagesMakes", fn := fun _ => fun
  | [d1, d2] => { results := [.lit (.bool false)], args := [d1, d2] }
  | _ => none }
def PagesMakesWrongFalsely : Prop := pagesMakesRow.holds Try.pinned (OpenSpec.ofChange pagesMakesWrong)

/-- 'moietylaw10.PagesEnds': WHATEVER THE INPUT: true; the input reads as it did. -/
def pagesEndsSpec : ChangeSpec := { name := "pagesEnds", fn := fun _ => fun
  | [d1, d2, d3] => { results := [.lit (.bool true)], args := [d1, d2, d3] }
  | _ => none }
def pagesEndsRow : OpenClaim := { program := "ytchffjnmkpedkaa", sum := "138b4d19c889e53f7c93663d511f7bd939172852332be664e125687ca568def9", func := "moiety/moietylaw10.PagesEnds", spec := "pagesEnds", inPlace := ["slices.overlaps[int]"], unfollowed := true, recurses := true, apart := false }
def PagesEndsSaid : Prop := pagesEndsRow.holds Try.pinned (OpenSpec.ofChange pagesEndsSpec)

/-- ITS FALSE NEIGHBOUR: 'it returns false'. Refute it at one input. -/
def pagesEndsWrong : ChangeSpec := { name := "pagesEnds", fn := fun _ => fun
  | [d1, d2, d3] => { results := [.lit (.bool false)], args := [d1, d2, d3] }
  | _ => none }
def PagesEndsWrongFalsely : Prop := pagesEndsRow.holds Try.pinned (OpenSpec.ofChange pagesEndsWrong)

/-- 'moietylaw10.PagesDiffer': WHATEVER THE INPUT: true; the input reads as it did. -/
def pagesDifferSpec : ChangeSpec := { name := "pagesDiffer", fn := fun _ => fun
  | [d1, d2, d3, d4] => { results := [.lit (.bool true)], args := [d1, d2, d3, d4] }
  | _ => none }
def pagesDifferRow : OpenClaim := { program := "ytchffjnmkpedkaa", sum := "138b4d19c889e53f7c93663d511f7bd939172852332be664e125687ca568def9", func := "moiety/moietylaw10.PagesDiffer", spec := "pagesDiffer", inPlace := ["slices.overlaps[int]"], unfollowed := true, recurses := true, apart := false }
def PagesDifferSaid : Prop := pagesDifferRow.holds Try.pinned (OpenSpec.ofChange pagesDifferSpec)

/-- ITS FALSE NEIGHBOUR: 'it returns false'. Refute it at one input. -/
def pagesDifferWrong : ChangeSpec := { name := "pagesDiffer", fn := fun _ => fun
  | [d1, d2, d3, d4] => { results := [.lit (.bool false)], args := [d1, d2, d3, d4] }
  | _ => none }
def PagesDifferWrongFalsely : Prop := pagesDifferRow.holds Try.pinned (OpenSpec.ofChange pagesDifferWrong)

/-- 'moietylaw10.PagesPlays': WHATEVER THE INPUT: true; the input reads as it did. -/
def pagesPlaysSpec : ChangeSpec := { name := "pagesPlays", fn := fun _ => fun
  | [d1, d2, d3] => { results := [.lit (.bool true)], args := [d1, d2, d3] }
  | _ => none }
def pagesPlaysRow : OpenClaim := { program := "ytchffjnmkpedkaa", sum := "138b4d19c889e53f7c93663d511f7bd939172852332be664e125687ca568def9", func := "moiety/moietylaw10.PagesPlays", spec := "pagesPlays", inPlace := ["slices.overlaps[int]"], unfollowed := true, recurses := true, apart := false }
def PagesPlaysSaid : Prop := pagesPlaysRow.holds Try.pinned (OpenSpec.ofChange pagesPlaysSpec)

/-- ITS FALSE NEIGHBOUR: 'it returns false'. Refute it at one input. -/
def pagesPlaysWrong : ChangeSpec := { name := "pagesPlays", fn := fun _ => fun
  | [d1, d2, d3] => { results := [.lit (.bool false)], args := [d1, d2, d3] }
  | _ => none }
def PagesPlaysWrongFalsely : Prop := pagesPlaysRow.holds Try.pinned (OpenSpec.ofChange pagesPlaysWrong)

/-- 'moietylaw10.PagesStays': WHATEVER THE INPUT: true; the input reads as it did. -/
def pagesStaysSpec : ChangeSpec := { name := "pagesStays", fn := fun _ => fun
  | [d1, d2] => { results := [.lit (.bool true)], args := [d1, d2] }
  | _ => none }
def pagesStaysRow : OpenClaim := { program := "ytchffjnmkpedkaa", sum := "138b4d19c889e53f7c93663d511f7bd939172852332be664e125687ca568def9", func := "moiety/moietylaw10.PagesStays", spec := "pagesStays", inPlace := ["slices.overlaps[int]"], unfollowed := true, recurses := true, apart := false }
def PagesStaysSaid : Prop := pagesStaysRow.holds Try.pinned (OpenSpec.ofChange pagesStaysSpec)

/-- ITS FALSE NEIGHBOUR: 'it returns false'. Refute it at one input. -/
def pagesStaysWrong : ChangeSpec := { name := "pagesStays", fn := fun _ => fun
  | [d1, d2] => { results := [.lit (.bool false)], args := [d1, d2] }
  | _ => none }
def PagesStaysWrongFalsely : Prop := pagesStaysRow.holds Try.pinned (OpenSpec.ofChange pagesStaysWrong)

/-- 'moietylaw10.PagesNil': WHATEVER THE INPUT: true; the input reads as it did. -/
def pagesNilSpec : ChangeSpec := { name := "pagesNil", fn := fun _ => fun
  | [d] => { results := [.lit (.bool true)], args := [d] }
  | _ => none }
def pagesNilRow : OpenClaim := { program := "ytchffjnmkpedkaa", sum := "138b4d19c889e53f7c93663d511f7bd939172852332be664e125687ca568def9", func := "moiety/moietylaw10.PagesNil", spec := "pagesNil", inPlace := ["slices.overlaps[int]"], unfollowed := true, recurses := true, apart := false }
def PagesNilSaid : Prop := pagesNilRow.holds Try.pinned (OpenSpec.ofChange pagesNilSpec)

/-- ITS FALSE NEIGHBOUR: 'it returns false'. Refute it at one input. -/
def pagesNilWrong : ChangeSpec := { name := "pagesNil", fn := fun _ => fun
  | [d] => { results := [.lit (.bool false)], args := [d] }
  | _ => none }
def PagesNilWrongFalsely : Prop := pagesNilRow.holds Try.pinned (OpenSpec.ofChange pagesNilWrong)

/- THE SECOND FORM. 'bulk': how many values and letters a reading holds, each counted each time it is reached (what is shared counts as often as it is met; a slice's spare places count too). A statement '..UptoSaid' is the law's where the arguments, and the package variables that the reading takes, are together of bulk at most 1048576: NARROWER than '..Said'. Prove '..Said' where nothing that the law and all that it calls make is longer than what came in: it says more and counts as full. Else prove '..UptoSaid'. A law counts once. -/
mutual
def uptoBulk {H : Type} : DataW H → Nat
  | .lit (.string bytes) => bytes.length + 1
  | .lit _ => 1
  | .nil => 1
  | .ptr d => uptoBulk d + 1
  | .slice elems spare => uptoBulkAll elems + uptoBulkAll spare + 1
  | .agg parts => uptoBulkAll parts + 1
  | .iface _ d => uptoBulk d + 1
  | .map entries => uptoBulkEntries entries + 1
  | .held _ => 1
def uptoBulkAll {H : Type} : List (DataW H) → Nat
  | [] => 0
  | d :: r => uptoBulk d + uptoBulkAll r
def uptoBulkEntries {H : Type} : List (Lit × DataW H) → Nat
  | [] => 0
  | x :: r => uptoBulkEntry x + uptoBulkEntries r
def uptoBulkEntry {H : Type} : Lit × DataW H → Nat
  | (.string bytes, d) => bytes.length + uptoBulk d + 1
  | (_, d) => uptoBulk d + 1
 end
def uptoSmall : (H : Type) → List (DataW H) → Bool := fun _ ds => decide (uptoBulkAll ds ≤ 1048576)
def OpenSpec.upto (s : _root_.Go.ChangeSpec) : _root_.Go.OpenSpec := { _root_.Go.OpenSpec.ofChange s with cond := some uptoSmall }

/-- 'moietylaw09.ArenaEnds', WHERE WHAT IT READS IS OF BULK AT MOST 1048576: true; the input reads as it did. -/
def arenaEndsUptoRow : OpenClaim := { program := "ytchffjnmkpedkaa", sum := "138b4d19c889e53f7c93663d511f7bd939172852332be664e125687ca568def9", func := "moiety/moietylaw09.ArenaEnds", spec := "arenaEnds", inPlace := ["slices.overlaps[int]"], unfollowed := true, recurses := true, apart := false, narrowed := true }
def ArenaEndsUptoSaid : Prop := arenaEndsUptoRow.holds Try.pinned (OpenSpec.upto arenaEndsSpec)

/-- 'moietylaw09.ArenaStays', WHERE WHAT IT READS IS OF BULK AT MOST 1048576: true; the input reads as it did. -/
def arenaStaysUptoRow : OpenClaim := { program := "ytchffjnmkpedkaa", sum := "138b4d19c889e53f7c93663d511f7bd939172852332be664e125687ca568def9", func := "moiety/moietylaw09.ArenaStays", spec := "arenaStays", inPlace := ["slices.overlaps[int]"], unfollowed := true, recurses := true, apart := false, narrowed := true }
def ArenaStaysUptoSaid : Prop := arenaStaysUptoRow.holds Try.pinned (OpenSpec.upto arenaStaysSpec)

/-- 'moietylaw09.ArenaPlays', WHERE WHAT IT READS IS OF BULK AT MOST 1048576: true; the input reads as it did. -/
def arenaPlaysUptoRow : OpenClaim := { program := "ytchffjnmkpedkaa", sum := "138b4d19c889e53f7c93663d511f7bd939172852332be664e125687ca568def9", func := "moiety/moietylaw09.ArenaPlays", spec := "arenaPlays", inPlace := ["slices.overlaps[int]"], unfollowed := true, recurses := true, apart := false, narrowed := true }
def ArenaPlaysUptoSaid : Prop := arenaPlaysUptoRow.holds Try.pinned (OpenSpec.upto arenaPlaysSpec)

/-- 'moietylaw09.ArenaNil', WHERE WHAT IT READS IS OF BULK AT MOST 1048576: true; the input reads as it did. -/
def arenaNilUptoRow : OpenClaim := { program := "ytchffjnmkpedkaa", sum := "138b4d19c889e53f7c93663d511f7bd939172852332be664e125687ca568def9", func := "moiety/moietylaw09.ArenaNil", spec := "arenaNil", inPlace := ["slices.overlaps[int]"], unfollowed := true, recurses := true, apart := false, narrowed := true }
def ArenaNilUptoSaid : Prop := arenaNilUptoRow.holds Try.pinned (OpenSpec.upto arenaNilSpec)

/-- 'moietylaw10.PagesMakes', WHERE WHAT IT READS IS OF BULK AT MOST 1048576: true; the input reads as it did. -/
def pagesMakesUptoRow : OpenClaim := { program := "ytchffjnmkpedkaa", sum := "138b4d19c889e53f7c93663d511f7bd939172852332be664e125687ca568def9", func := "moiety/moietylaw10.PagesMakes", spec := "pagesMakes", inPlace := ["slices.overlaps[int]"], unfollowed := true, recurses := true, apart := false, narrowed := true }
def PagesMakesUptoSaid : Prop := pagesMakesUptoRow.holds Try.pinned (OpenSpec.upto pagesMakesSpec)

/-- 'moietylaw10.PagesEnds', WHERE WHAT IT READS IS OF BULK AT MOST 1048576: true; the input reads as it did. -/
def pagesEndsUptoRow : OpenClaim := { program := "ytchffjnmkpedkaa", sum := "138b4d19c889e53f7c93663d511f7bd939172852332be664e125687ca568def9", func := "moiety/moietylaw10.PagesEnds", spec := "pagesEnds", inPlace := ["slices.overlaps[int]"], unfollowed := true, recurses := true, apart := false, narrowed := true }
def PagesEndsUptoSaid : Prop := pagesEndsUptoRow.holds Try.pinned (OpenSpec.upto pagesEndsSpec)

/-- 'moietylaw10.PagesDiffer', WHERE WHAT IT READS IS OF BULK AT MOST 1048576: true; the input reads as it did. -/
def pagesDifferUptoRow : OpenClaim := { program := "ytchffjnmkpedkaa", sum := "138b4d19c889e53f7c93663d511f7bd939172852332be664e125687ca568def9", func := "moiety/moietylaw10.PagesDiffer", spec := "pagesDiffer", inPlace := ["slices.overlaps[int]"], unfollowed := true, recurses := true, apart := false, narrowed := true }
def PagesDifferUptoSaid : Prop := pagesDifferUptoRow.holds Try.pinned (OpenSpec.upto pagesDifferSpec)

/-- 'moietylaw10.PagesPlays', WHERE WHAT IT READS IS OF BULK AT MOST 1048576: true; the input reads as it did. -/
def pagesPlaysUptoRow : OpenClaim := { program := "ytchffjnmkpedkaa", sum := "138b4d19c889e53f7c93663d511f7bd939172852332be664e125687ca568def9", func := "moiety/moietylaw10.PagesPlays", spec := "pagesPlays", inPlace := ["slices.overlaps[int]"], unfollowed := true, recurses := true, apart := false, narrowed := true }
def PagesPlaysUptoSaid : Prop := pagesPlaysUptoRow.holds Try.pinned (OpenSpec.upto pagesPlaysSpec)

/-- 'moietylaw10.PagesStays', WHERE WHAT IT READS IS OF BULK AT MOST 1048576: true; the input reads as it did. -/
def pagesStaysUptoRow : OpenClaim := { program := "ytchffjnmkpedkaa", sum := "138b4d19c889e53f7c93663d511f7bd939172852332be664e125687ca568def9", func := "moiety/moietylaw10.PagesStays", spec := "pagesStays", inPlace := ["slices.overlaps[int]"], unfollowed := true, recurses := true, apart := false, narrowed := true }
def PagesStaysUptoSaid : Prop := pagesStaysUptoRow.holds Try.pinned (OpenSpec.upto pagesStaysSpec)

/-- 'moietylaw10.PagesNil', WHERE WHAT IT READS IS OF BULK AT MOST 1048576: true; the input reads as it did. -/
def pagesNilUptoRow : OpenClaim := { program := "ytchffjnmkpedkaa", sum := "138b4d19c889e53f7c93663d511f7bd939172852332be664e125687ca568def9", func := "moiety/moietylaw10.PagesNil", spec := "pagesNil", inPlace := ["slices.overlaps[int]"], unfollowed := true, recurses := true, apart := false, narrowed := true }
def PagesNilUptoSaid : Prop := pagesNilUptoRow.holds Try.pinned (OpenSpec.upto pagesNilSpec)

end Rows
end Go.Proofs.Ytchffjnmkpedkaa
