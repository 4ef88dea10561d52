/-
  The functions of this seat as the evaluator has them: printed by a program of this session (wip/tools), each held against the translation by the kernel.
-/
import Derived.Test.YtchffjnmkpedkaaProg
import Derived.Test.YtchffjnmkpedkaaLu
import Derived.Test.YtchffjnmkpedkaaFz
import Derived.KernelRfl
namespace Go.Proofs.Ytchffjnmkpedkaa
open Go.Lite
/- moiety/moietyref10.at -/
def s63 : SFn := ⟨[.cell 6 (some 25)], (.seq (.reg [⟨(some 6), none, (.new [(.bool false), (.int .i64 0), (.int .i64 0), (.int .i64 0), (.int .i64 0), (.int .i64 0), (.int .i64 0), (.int .i64 0), (.int .i64 0), (.int .i64 0), (.bool false), (.int .i64 0), (.bool false), (.int .i64 0), (.bool false), (.int .i64 0), (.bool false), (.int .i64 0), (.bool false), (.int .i64 0), (.bool false), (.int .i64 0), (.bool false), (.int .i64 0), (.bool false)])⟩]) (.seq (.seq (.reg [⟨(some 7), none, (.mov (.t 1))⟩,
    ⟨(some 8), none, (.bin .eql (.t 7) (.c (.int .i64 0)))⟩]) (.cond (.t 8) (.seq (.reg [⟨(some 9), none, (.mov (.t 2))⟩,
    ⟨(some 10), none, (.build [(.bool false), (.int .i64 0), (.int .i64 0), (.int .i64 0), (.int .i64 0), (.int .i64 0), (.int .i64 0), (.int .i64 0), (.int .i64 0), (.int .i64 0), (.bool false), (.int .i64 0), (.bool false), (.int .i64 0), (.bool false), (.int .i64 0), (.bool false), (.int .i64 0), (.bool false), (.int .i64 0), (.bool false), (.int .i64 0), (.bool false), (.int .i64 0), (.bool false)] [(0, 1, (.t 9))])⟩,
    ⟨none, none, (.store 25 (.t 6) (.t 10))⟩]) .ret) .skip)) (.seq (.reg [⟨(some 11), none, (.mov (.t 0))⟩,
    ⟨(some 12), none, (.nilCheck (.t 11))⟩,
    ⟨(some 13), none, (.fieldAddr 1 (.t 12))⟩,
    ⟨(some 14), none, (.load none (.t 13))⟩,
    ⟨(some 15), none, (.mov (.t 1))⟩,
    ⟨(some 16), none, (.indexAddr none 25 (.t 14) (.t 15))⟩,
    ⟨(some 17), none, (.load (some 25) (.t 16))⟩,
    ⟨none, none, (.store 25 (.t 6) (.t 17))⟩]) .ret)))⟩
/- moiety/moietyref10.empty -/
def s64 : SFn := ⟨[.tmp 2], (.seq (.reg [⟨(some 1), none, (.box (.t 0))⟩,
    ⟨(some 2), none, (.mov (.c (.bool false)))⟩]) (.seq (.reg [⟨(some 4), none, (.fieldAddr 0 (.t 1))⟩,
    ⟨(some 5), none, (.load none (.t 4))⟩,
    ⟨(some 6), none, (.build [(.bool false), (.int .i64 0), (.int .i64 0), (.int .i64 0), (.int .i64 0), (.int .i64 0), (.int .i64 0), (.int .i64 0), (.int .i64 0), (.int .i64 0), (.bool false), (.int .i64 0), (.bool false), (.int .i64 0), (.bool false), (.int .i64 0), (.bool false), (.int .i64 0), (.bool false), (.int .i64 0), (.bool false), (.int .i64 0), (.bool false), (.int .i64 0), (.bool false)] [(0, 1, (.t 5))])⟩,
    ⟨(some 3), none, (.new [(.bool false), (.int .i64 0), (.int .i64 0), (.int .i64 0), (.int .i64 0), (.int .i64 0), (.int .i64 0), (.int .i64 0), (.int .i64 0), (.int .i64 0), (.bool false), (.int .i64 0), (.bool false), (.int .i64 0), (.bool false), (.int .i64 0), (.bool false), (.int .i64 0), (.bool false), (.int .i64 0), (.bool false), (.int .i64 0), (.bool false), (.int .i64 0), (.bool false)])⟩,
    ⟨none, none, (.store 25 (.t 3) (.t 6))⟩]) (.seq (.reg [⟨(some 7), none, (.load (some 25) (.t 1))⟩,
    ⟨(some 8), none, (.load (some 25) (.t 3))⟩,
    ⟨(some 9), none, (.eq false (.flat [.bool, .int .i64, .int .i64, .int .i64, .int .i64, .int .i64, .int .i64, .int .i64, .int .i64, .int .i64, .bool, .int .i64, .bool, .int .i64, .bool, .int .i64, .bool, .int .i64, .bool, .int .i64, .bool, .int .i64, .bool, .int .i64, .bool]) (.t 7) (.t 8))⟩,
    ⟨(some 2), none, (.mov (.t 9))⟩]) .ret)))⟩
/- (*moiety/pages.Pages).made -/
def s65 : SFn := ⟨[.tmp 4, .tmp 5], (.seq (.reg [⟨(some 3), none, (.box (.t 1))⟩,
    ⟨(some 4), none, (.mov (.c (.int .i64 0)))⟩,
    ⟨(some 5), none, (.mov (.c (.int .i64 0)))⟩]) (.seq (.seq (.reg [⟨(some 6), none, (.load (some 25) (.t 3))⟩,
    ⟨(some 7), none, (.fieldAddr 0 (.t 3))⟩,
    ⟨(some 8), none, (.load none (.t 7))⟩,
    ⟨(some 9), none, (.build [(.bool false), (.int .i64 0), (.int .i64 0), (.int .i64 0), (.int .i64 0), (.int .i64 0), (.int .i64 0), (.int .i64 0), (.int .i64 0), (.int .i64 0), (.bool false), (.int .i64 0), (.bool false), (.int .i64 0), (.bool false), (.int .i64 0), (.bool false), (.int .i64 0), (.bool false), (.int .i64 0), (.bool false), (.int .i64 0), (.bool false), (.int .i64 0), (.bool false)] [(0, 1, (.t 8))])⟩,
    ⟨(some 10), none, (.eq false (.flat [.bool, .int .i64, .int .i64, .int .i64, .int .i64, .int .i64, .int .i64, .int .i64, .int .i64, .int .i64, .bool, .int .i64, .bool, .int .i64, .bool, .int .i64, .bool, .int .i64, .bool, .int .i64, .bool, .int .i64, .bool, .int .i64, .bool]) (.t 6) (.t 9))⟩]) (.cond (.t 10) (.seq (.reg [⟨(some 4), none, (.mov (.c (.int .i64 0)))⟩,
    ⟨(some 5), none, (.mov (.c (.int .i64 0)))⟩]) .ret) .skip)) (.seq (.dreg false [⟨⟨(some 11), none, (.mov (.t 0))⟩, 0, 0⟩,
    ⟨⟨(some 12), none, (.nilCheck (.t 11))⟩, 0, 0⟩,
    ⟨⟨(some 13), none, (.fieldAddr 0 (.t 12))⟩, 0, 0⟩,
    ⟨⟨(some 14), none, (.load none (.t 13))⟩, 0, 0⟩,
    ⟨⟨(some 15), none, (.load (some 25) (.t 3))⟩, 0, 0⟩,
    ⟨⟨(some 16), none, (.call (.f 15) [(.t 14), (.t 15)])⟩, 0, 1⟩,
    ⟨⟨(some 17), none, (.extract (.t 16) 0)⟩, 1, 1⟩,
    ⟨⟨(some 18), none, (.extract (.t 16) 1)⟩, 1, 1⟩,
    ⟨⟨(some 4), none, (.mov (.t 17))⟩, 1, 1⟩,
    ⟨⟨(some 5), none, (.mov (.t 18))⟩, 1, 1⟩]) .ret)))⟩
/- (*moiety/pages.Pages).release -/
def s66 : SFn := ⟨[], (.seq (.reg [⟨(some 4), none, (.mov (.t 1))⟩,
    ⟨(some 5), none, (.bin .neq (.t 4) (.c (.int .i64 0)))⟩]) (.cond (.t 5) (.reg [⟨(some 6), none, (.mov (.t 0))⟩,
    ⟨(some 7), none, (.nilCheck (.t 6))⟩,
    ⟨(some 8), none, (.fieldAddr 0 (.t 7))⟩,
    ⟨(some 9), none, (.load none (.t 8))⟩,
    ⟨(some 10), none, (.mov (.t 1))⟩,
    ⟨(some 11), none, (.call (.f 18) [(.t 9), (.t 10)])⟩]) .skip))⟩
/- slices.rotateRight[int] -/
def s68 : SFn := ⟨[], (.reg [⟨(some 4), none, (.mov (.t 0))⟩,
    ⟨(some 5), none, (.mov (.t 0))⟩,
    ⟨(some 6), none, (.len false (.t 5))⟩,
    ⟨(some 7), none, (.mov (.t 1))⟩,
    ⟨(some 8), none, (.bin .sub (.t 6) (.t 7))⟩,
    ⟨(some 9), none, (.call (.f 69) [(.t 4), (.t 8)])⟩])⟩
/- slices.rotateLeft[int] -/
def s69 : SFn := ⟨[], (.seq (.reg [⟨(some 4), none, (.mov (.t 0))⟩,
    ⟨(some 5), none, (.mov (.t 1))⟩,
    ⟨(some 6), none, (.slice (.slice 1) (.t 4) none (some (.t 5)) none)⟩,
    ⟨(some 7), none, (.call (.f 70) [(.t 6)])⟩]) (.seq (.reg [⟨(some 8), none, (.mov (.t 0))⟩,
    ⟨(some 9), none, (.mov (.t 1))⟩,
    ⟨(some 10), none, (.slice (.slice 1) (.t 8) (some (.t 9)) none none)⟩,
    ⟨(some 11), none, (.call (.f 70) [(.t 10)])⟩]) (.reg [⟨(some 12), none, (.mov (.t 0))⟩,
    ⟨(some 13), none, (.call (.f 70) [(.t 12)])⟩])))⟩
/- slices.Reverse[[]int,int] -/
def s70_l0 : S := (.seq (.seq (.reg [⟨(some 7), none, (.mov (.t 2))⟩,
    ⟨(some 8), none, (.mov (.t 3))⟩,
    ⟨(some 9), none, (.bin .lss (.t 7) (.t 8))⟩]) (.cond (.t 9) .skip (.exit 0))) (.seq (.block 1 (.dreg false [⟨⟨(some 14), none, (.mov (.t 0))⟩, 0, 0⟩,
    ⟨⟨(some 15), none, (.mov (.t 2))⟩, 0, 0⟩,
    ⟨⟨(some 16), none, (.mov (.t 0))⟩, 0, 1⟩,
    ⟨⟨(some 17), none, (.mov (.t 3))⟩, 0, 1⟩,
    ⟨⟨(some 18), none, (.mov (.t 0))⟩, 0, 0⟩,
    ⟨⟨(some 19), none, (.mov (.t 3))⟩, 0, 0⟩,
    ⟨⟨(some 20), none, (.indexAddr none 1 (.t 18) (.t 19))⟩, 0, 0⟩,
    ⟨⟨(some 21), none, (.load none (.t 20))⟩, 0, 0⟩,
    ⟨⟨(some 22), none, (.mov (.t 0))⟩, 0, 0⟩,
    ⟨⟨(some 23), none, (.mov (.t 2))⟩, 0, 0⟩,
    ⟨⟨(some 24), none, (.indexAddr none 1 (.t 22) (.t 23))⟩, 0, 0⟩,
    ⟨⟨(some 25), none, (.load none (.t 24))⟩, 0, 0⟩,
    ⟨⟨(some 26), none, (.indexAddr none 1 (.t 14) (.t 15))⟩, 0, 0⟩,
    ⟨⟨none, none, (.store 1 (.t 26) (.t 21))⟩, 0, 1⟩,
    ⟨⟨(some 27), none, (.indexAddr none 1 (.t 16) (.t 17))⟩, 1, 1⟩,
    ⟨⟨none, none, (.store 1 (.t 27) (.t 25))⟩, 1, 2⟩])) (.reg [⟨(some 10), none, (.mov (.t 2))⟩,
    ⟨(some 11), none, (.bin .add (.t 10) (.c (.int .i64 1)))⟩,
    ⟨(some 12), none, (.mov (.t 3))⟩,
    ⟨(some 13), none, (.bin .sub (.t 12) (.c (.int .i64 1)))⟩,
    ⟨(some 2), none, (.mov (.t 11))⟩,
    ⟨(some 3), none, (.mov (.t 13))⟩])))
def s70 : SFn := ⟨[], (.seq (.reg [⟨(some 4), none, (.mov (.t 0))⟩,
    ⟨(some 5), none, (.len false (.t 4))⟩,
    ⟨(some 6), none, (.bin .sub (.t 5) (.c (.int .i64 1)))⟩,
    ⟨(some 2), none, (.mov (.c (.int .i64 0)))⟩,
    ⟨(some 3), none, (.mov (.t 6))⟩]) (.block 0 (.loop s70_l0)))⟩
theorem low63 : lowerFn Try.prog Try.f63 = some s63 := by kernel_rfl
theorem low64 : lowerFn Try.prog Try.f64 = some s64 := by kernel_rfl
theorem low65 : lowerFn Try.prog Try.f65 = some s65 := by kernel_rfl
theorem low66 : lowerFn Try.prog Try.f66 = some s66 := by kernel_rfl
theorem low68 : lowerFn Try.prog Try.f68 = some s68 := by kernel_rfl
theorem low69 : lowerFn Try.prog Try.f69 = some s69 := by kernel_rfl
theorem low70 : lowerFn Try.prog Try.f70 = some s70 := by kernel_rfl
theorem ok63 : DefOk Try.prog 63 (.text s63) := ⟨Try.call63, _, Try.func63, low63⟩
theorem ok64 : DefOk Try.prog 64 (.text s64) := ⟨Try.call64, _, Try.func64, low64⟩
theorem ok65 : DefOk Try.prog 65 (.text s65) := ⟨Try.call65, _, Try.func65, low65⟩
theorem ok66 : DefOk Try.prog 66 (.text s66) := ⟨Try.call66, _, Try.func66, low66⟩
theorem ok68 : DefOk Try.prog 68 (.text s68) := ⟨Try.call68, _, Try.func68, low68⟩
theorem ok69 : DefOk Try.prog 69 (.text s69) := ⟨Try.call69, _, Try.func69, low69⟩
theorem ok70 : DefOk Try.prog 70 (.text s70) := ⟨Try.call70, _, Try.func70, low70⟩
def TFb0 : FuncId → Option Def
  | 63 => some (.text s63)
  | 64 => some (.text s64)
  | 65 => some (.text s65)
  | 66 => some (.text s66)
  | 68 => some (.text s68)
  | 69 => some (.text s69)
  | 70 => some (.text s70)
  | _ => none
theorem TFb0_ok : ∀ f d, TFb0 f = some d → DefOk Try.prog f d := by
  intro f d h
  unfold TFb0 at h
  split at h
  · cases h; exact ok63
  · cases h; exact ok64
  · cases h; exact ok65
  · cases h; exact ok66
  · cases h; exact ok68
  · cases h; exact ok69
  · cases h; exact ok70
  · cases h
def TFb (f : FuncId) : Option Def := TFb0 f
theorem TFb_ok : ∀ f d, TFb f = some d → DefOk Try.prog f d := by
  intro f d h
  unfold TFb at h
  exact TFb0_ok f d h
end Go.Proofs.Ytchffjnmkpedkaa
