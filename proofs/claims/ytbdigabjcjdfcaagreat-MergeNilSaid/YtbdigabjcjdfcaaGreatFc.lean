/-
  The functions of this seat as the evaluator has them: printed by a program of this session (wip/tools), each held against the translation by the kernel.
-/
import Derived.Test.YtbdigabjcjdfcaaGreatProg
import Derived.Test.YtbdigabjcjdfcaaGreatLu
import Derived.Test.YtbdigabjcjdfcaaGreatFz
import Derived.KernelRfl
namespace Go.Proofs.YtbdigabjcjdfcaaGreat
open Go.Lite
/- (*moiety/coord.Space).Within -/
def s133_l0 : S := (.seq (.reg [⟨(some 42), none, (.bin .lss (.t 41) (.t 40))⟩]) (.seq (.cond (.t 42) .skip (.exit 0)) (.seq (.block 1 (.seq (.reg [⟨(some 43), none, (.mov (.t 41))⟩,
    ⟨(some 44), none, (.indexAddr none 1 (.t 39) (.t 41))⟩,
    ⟨(some 45), none, (.load none (.t 44))⟩,
    ⟨(some 7), none, (.mov (.t 43))⟩,
    ⟨(some 8), none, (.mov (.t 45))⟩]) (.seq (.dreg false [⟨⟨(some 46), none, (.mov (.t 8))⟩, 0, 0⟩,
    ⟨⟨(some 47), none, (.mov (.t 7))⟩, 0, 0⟩,
    ⟨⟨(some 48), none, (.fieldAddr 1 (.t 4))⟩, 0, 0⟩,
    ⟨⟨(some 49), none, (.indexAddr (some 4) 1 (.t 48) (.t 47))⟩, 0, 0⟩,
    ⟨⟨(some 50), none, (.load none (.t 49))⟩, 0, 0⟩,
    ⟨⟨(some 51), none, (.mov (.t 7))⟩, 0, 0⟩,
    ⟨⟨(some 52), none, (.fieldAddr 1 (.t 5))⟩, 0, 0⟩,
    ⟨⟨(some 53), none, (.indexAddr (some 4) 1 (.t 52) (.t 51))⟩, 0, 0⟩,
    ⟨⟨(some 54), none, (.load none (.t 53))⟩, 0, 0⟩,
    ⟨⟨(some 55), none, (.call (.f 223) [(.t 46), (.t 50), (.t 54)])⟩, 0, 1⟩,
    ⟨⟨(some 56), none, (.un .not (.t 55))⟩, 1, 1⟩]) (.cond (.t 56) (.seq (.reg [⟨(some 6), none, (.mov (.c (.bool false)))⟩]) .ret) .skip)))) (.reg [⟨(some 57), none, (.bin .add (.t 41) (.c (.int .i64 1)))⟩,
    ⟨(some 41), none, (.mov (.t 57))⟩]))))
def s133 : SFn := ⟨[.tmp 6], (.seq (.reg [⟨(some 4), none, (.box (.t 1))⟩,
    ⟨(some 5), none, (.box (.t 2))⟩,
    ⟨(some 6), none, (.mov (.c (.bool false)))⟩]) (.seq (.seq (.dreg false [⟨⟨(some 9), none, (.mov (.t 0))⟩, 0, 0⟩,
    ⟨⟨(some 10), none, (.eq false .ptr (.t 9) (.c (.ptr none)))⟩, 0, 0⟩,
    ⟨⟨(some 11), none, (.mov (.t 10))⟩, 0, 0⟩,
    ⟨⟨(some 12), (some (11, false)), (.mov (.t 0))⟩, 0, 0⟩,
    ⟨⟨(some 13), (some (11, false)), (.nilCheck (.t 12))⟩, 0, 0⟩,
    ⟨⟨(some 14), (some (11, false)), (.fieldAddr 0 (.t 13))⟩, 0, 0⟩,
    ⟨⟨(some 15), (some (11, false)), (.load none (.t 14))⟩, 0, 0⟩,
    ⟨⟨(some 16), (some (11, false)), (.load (some 5) (.t 4))⟩, 0, 0⟩,
    ⟨⟨(some 17), (some (11, false)), (.call (.f 189) [(.t 15), (.t 16)])⟩, 0, 1⟩,
    ⟨⟨(some 18), (some (11, false)), (.un .not (.t 17))⟩, 1, 1⟩,
    ⟨⟨(some 19), none, (.pick (.t 11) (.c (.bool true)) (.t 18))⟩, 1, 1⟩,
    ⟨⟨(some 20), none, (.mov (.t 19))⟩, 1, 1⟩,
    ⟨⟨(some 21), (some (20, false)), (.mov (.t 0))⟩, 1, 1⟩,
    ⟨⟨(some 22), (some (20, false)), (.nilCheck (.t 21))⟩, 1, 1⟩,
    ⟨⟨(some 23), (some (20, false)), (.fieldAddr 0 (.t 22))⟩, 1, 1⟩,
    ⟨⟨(some 24), (some (20, false)), (.load none (.t 23))⟩, 1, 1⟩,
    ⟨⟨(some 25), (some (20, false)), (.load (some 5) (.t 5))⟩, 1, 1⟩,
    ⟨⟨(some 26), (some (20, false)), (.call (.f 189) [(.t 24), (.t 25)])⟩, 1, 2⟩,
    ⟨⟨(some 27), (some (20, false)), (.un .not (.t 26))⟩, 2, 2⟩,
    ⟨⟨(some 28), none, (.pick (.t 20) (.c (.bool true)) (.t 27))⟩, 2, 2⟩,
    ⟨⟨(some 29), none, (.mov (.t 28))⟩, 2, 2⟩,
    ⟨⟨(some 30), (some (29, false)), (.fieldAddr 0 (.t 4))⟩, 2, 2⟩,
    ⟨⟨(some 31), (some (29, false)), (.load none (.t 30))⟩, 2, 2⟩,
    ⟨⟨(some 32), (some (29, false)), (.fieldAddr 0 (.t 5))⟩, 2, 2⟩,
    ⟨⟨(some 33), (some (29, false)), (.load none (.t 32))⟩, 2, 2⟩,
    ⟨⟨(some 34), (some (29, false)), (.bin .neq (.t 31) (.t 33))⟩, 2, 2⟩,
    ⟨⟨(some 35), none, (.pick (.t 29) (.c (.bool true)) (.t 34))⟩, 2, 2⟩]) (.cond (.t 35) (.seq (.reg [⟨(some 6), none, (.mov (.c (.bool false)))⟩]) .ret) .skip)) (.seq (.seq (.reg [⟨(some 36), none, (.mov (.t 0))⟩,
    ⟨(some 37), none, (.nilCheck (.t 36))⟩,
    ⟨(some 38), none, (.fieldAddr 2 (.t 37))⟩,
    ⟨(some 39), none, (.load none (.t 38))⟩,
    ⟨(some 40), none, (.len false (.t 39))⟩,
    ⟨(some 41), none, (.mov (.c (.int .i64 0)))⟩]) (.block 0 (.loop s133_l0))) (.seq (.reg [⟨(some 6), none, (.mov (.c (.bool true)))⟩]) .ret))))⟩
/- slices.ContainsFunc[[]moiety/api.Cell,moiety/api.Cell] -/
def s134 : SFn := ⟨[.tmp 4], (.seq (.reg [⟨(some 4), none, (.mov (.c (.bool false)))⟩]) (.seq (.reg [⟨(some 5), none, (.mov (.t 0))⟩,
    ⟨(some 6), none, (.mov (.t 1))⟩,
    ⟨(some 7), none, (.call (.f 224) [(.t 5), (.t 6)])⟩,
    ⟨(some 8), none, (.bin .geq (.t 7) (.c (.int .i64 0)))⟩,
    ⟨(some 4), none, (.mov (.t 8))⟩]) .ret))⟩
/- (*moiety/state.Book).Held -/
def s135_l0 : S := (.seq (.reg [⟨(some 20), none, (.bin .lss (.t 19) (.t 18))⟩]) (.seq (.cond (.t 20) .skip (.exit 0)) (.seq (.block 1 (.seq (.reg [⟨(some 21), none, (.indexAddr none 1 (.t 17) (.t 19))⟩,
    ⟨(some 22), none, (.load none (.t 21))⟩,
    ⟨(some 7), none, (.mov (.t 22))⟩]) (.seq (.reg [⟨(some 24), none, (.load none (.t 2))⟩,
    ⟨(some 25), none, (.call (.f 41) [(.t 24)])⟩,
    ⟨(some 26), none, (.mov (.t 7))⟩,
    ⟨(some 27), none, (.call (.f 174) [(.t 25), (.t 26)])⟩,
    ⟨(some 23), none, (.mov (.t 27))⟩,
    ⟨(some 28), none, (.extract (.t 23) 0)⟩,
    ⟨(some 29), none, (.extract (.t 23) 1)⟩,
    ⟨(some 8), none, (.new [(.int .i64 0), (.int .i64 0), (.int .i64 0), (.int .i64 0), (.int .i64 0)])⟩,
    ⟨none, none, (.store 5 (.t 8) (.t 28))⟩,
    ⟨(some 9), none, (.mov (.t 29))⟩]) (.reg [⟨(some 30), none, (.mov (.t 5))⟩,
    ⟨(some 31), none, (.load (some 5) (.t 8))⟩,
    ⟨(some 32), none, (.buildSlice 1 [(.int .i64 0), (.int .i64 0), (.int .i64 0), (.int .i64 0), (.int .i64 0)] [(0, 5, (.t 31))])⟩,
    ⟨(some 33), none, (.append 5 40 (.t 30) (.t 32))⟩,
    ⟨(some 5), none, (.mov (.t 33))⟩])))) (.reg [⟨(some 34), none, (.bin .add (.t 19) (.c (.int .i64 1)))⟩,
    ⟨(some 19), none, (.mov (.t 34))⟩]))))
def s135 : SFn := ⟨[.tmp 4], (.seq (.reg [⟨(some 2), none, (.box (.t 0))⟩,
    ⟨(some 3), none, (.box (.t 1))⟩,
    ⟨(some 4), none, (.mov (.c (.slice none 0 (.known 0))))⟩]) (.seq (.seq (.reg [⟨(some 10), none, (.load none (.t 2))⟩,
    ⟨(some 11), none, (.eq false .ptr (.t 10) (.c (.ptr none)))⟩]) (.cond (.t 11) (.seq (.reg [⟨(some 4), none, (.mov (.c (.slice none 0 (.known 0))))⟩]) .ret) .skip)) (.seq (.reg [⟨(some 12), none, (.fieldAddr 1 (.t 3))⟩,
    ⟨(some 13), none, (.load (some 1) (.t 12))⟩,
    ⟨(some 14), none, (.call (.f 225) [(.t 13)])⟩,
    ⟨(some 5), none, (.mov (.t 14))⟩]) (.seq (.seq (.reg [⟨(some 15), none, (.load none (.t 2))⟩,
    ⟨(some 16), none, (.load (some 3) (.t 3))⟩,
    ⟨(some 17), none, (.call (.f 146) [(.t 15), (.t 16), (.f 226)])⟩,
    ⟨(some 18), none, (.len false (.t 17))⟩,
    ⟨(some 19), none, (.mov (.c (.int .i64 0)))⟩]) (.block 0 (.loop s135_l0))) (.seq (.reg [⟨(some 35), none, (.mov (.t 5))⟩,
    ⟨(some 36), none, (.makeFunc 228 [] [(.t 2)])⟩,
    ⟨(some 37), none, (.call (.f 227) [(.t 35), (.t 36)])⟩]) (.seq (.reg [⟨(some 38), none, (.mov (.t 5))⟩,
    ⟨(some 4), none, (.mov (.t 38))⟩]) .ret))))))⟩
/- (moiety/lock.Locks).Within -/
def s136 : SFn := ⟨[.tmp 8], (.seq (.reg [⟨(some 4), none, (.box (.t 0))⟩,
    ⟨(some 5), none, (.box (.t 1))⟩,
    ⟨(some 6), none, (.box (.t 2))⟩,
    ⟨(some 7), none, (.box (.t 3))⟩,
    ⟨(some 8), none, (.mov (.c (.bool false)))⟩]) (.seq (.reg [⟨(some 9), none, (.fieldAddr 0 (.t 4))⟩,
    ⟨(some 10), none, (.load none (.t 9))⟩,
    ⟨(some 11), none, (.makeFunc 230 [] [(.t 7), (.t 5), (.t 6)])⟩,
    ⟨(some 12), none, (.call (.f 229) [(.t 10), (.t 11)])⟩,
    ⟨(some 8), none, (.mov (.t 12))⟩]) .ret))⟩
/- (moiety/region.Set).Less -/
def s137_l0 : S := (.seq (.reg [⟨(some 21), none, (.bin .lss (.t 20) (.t 19))⟩]) (.seq (.cond (.t 21) .skip (.exit 2)) (.seq (.block 3 (.seq (.reg [⟨(some 22), none, (.indexAddr none 2 (.t 18) (.t 20))⟩,
    ⟨(some 23), none, (.load (some 2) (.t 22))⟩,
    ⟨(some 9), none, (.new [(.int .i64 0), (.int .i64 0)])⟩,
    ⟨none, none, (.store 2 (.t 9) (.t 23))⟩]) (.seq (.seq (.reg [⟨(some 24), none, (.fieldAddr 1 (.t 9))⟩,
    ⟨(some 25), none, (.load none (.t 24))⟩,
    ⟨(some 26), none, (.fieldAddr 0 (.t 7))⟩,
    ⟨(some 27), none, (.load none (.t 26))⟩,
    ⟨(some 28), none, (.bin .lss (.t 25) (.t 27))⟩,
    ⟨(some 29), none, (.mov (.t 28))⟩,
    ⟨(some 30), (some (29, false)), (.fieldAddr 0 (.t 9))⟩,
    ⟨(some 31), (some (29, false)), (.load none (.t 30))⟩,
    ⟨(some 32), (some (29, false)), (.fieldAddr 1 (.t 7))⟩,
    ⟨(some 33), (some (29, false)), (.load none (.t 32))⟩,
    ⟨(some 34), (some (29, false)), (.bin .gtr (.t 31) (.t 33))⟩,
    ⟨(some 35), none, (.pick (.t 29) (.c (.bool true)) (.t 34))⟩]) (.cond (.t 35) (.exit 3) .skip)) (.seq (.reg [⟨(some 36), none, (.mov (.t 5))⟩,
    ⟨(some 37), none, (.fieldAddr 0 (.t 7))⟩,
    ⟨(some 38), none, (.load none (.t 37))⟩,
    ⟨(some 39), none, (.fieldAddr 0 (.t 9))⟩,
    ⟨(some 40), none, (.load none (.t 39))⟩,
    ⟨(some 41), none, (.bin .sub (.t 40) (.c (.int .i64 1)))⟩,
    ⟨(some 42), none, (.build [(.int .i64 0), (.int .i64 0)] [(0, 1, (.t 38)), (1, 1, (.t 41))])⟩,
    ⟨(some 43), none, (.buildSlice 1 [(.int .i64 0), (.int .i64 0)] [(0, 2, (.t 42))])⟩,
    ⟨(some 44), none, (.append 2 16 (.t 36) (.t 43))⟩,
    ⟨(some 5), none, (.mov (.t 44))⟩]) (.seq (.seq (.reg [⟨(some 45), none, (.fieldAddr 1 (.t 9))⟩,
    ⟨(some 46), none, (.load none (.t 45))⟩,
    ⟨(some 47), none, (.fieldAddr 1 (.t 7))⟩,
    ⟨(some 48), none, (.load none (.t 47))⟩,
    ⟨(some 49), none, (.bin .geq (.t 46) (.t 48))⟩]) (.cond (.t 49) (.seq (.reg [⟨(some 50), none, (.build [(.int .i64 0), (.int .i64 0)] [(0, 1, (.c (.int .i64 1))), (1, 1, (.c (.int .i64 0)))])⟩,
    ⟨none, none, (.store 2 (.t 7) (.t 50))⟩]) (.exit 2)) .skip)) (.reg [⟨(some 51), none, (.fieldAddr 1 (.t 9))⟩,
    ⟨(some 52), none, (.load none (.t 51))⟩,
    ⟨(some 53), none, (.bin .add (.t 52) (.c (.int .i64 1)))⟩,
    ⟨(some 54), none, (.fieldAddr 0 (.t 7))⟩,
    ⟨none, none, (.store 1 (.t 54) (.t 53))⟩])))))) (.reg [⟨(some 55), none, (.bin .add (.t 20) (.c (.int .i64 1)))⟩,
    ⟨(some 20), none, (.mov (.t 55))⟩]))))
def s137_l1 : S := (.seq (.reg [⟨(some 14), none, (.bin .lss (.t 13) (.t 12))⟩]) (.seq (.cond (.t 14) .skip (.exit 0)) (.seq (.block 1 (.seq (.reg [⟨(some 15), none, (.indexAddr none 2 (.t 11) (.t 13))⟩,
    ⟨(some 16), none, (.load (some 2) (.t 15))⟩,
    ⟨(some 7), none, (.new [(.int .i64 0), (.int .i64 0)])⟩,
    ⟨none, none, (.store 2 (.t 7) (.t 16))⟩]) (.seq (.seq (.reg [⟨(some 17), none, (.fieldAddr 0 (.t 3))⟩,
    ⟨(some 18), none, (.load none (.t 17))⟩,
    ⟨(some 19), none, (.len false (.t 18))⟩,
    ⟨(some 20), none, (.mov (.c (.int .i64 0)))⟩]) (.block 2 (.loop s137_l0))) (.reg [⟨(some 56), none, (.mov (.t 5))⟩,
    ⟨(some 57), none, (.load (some 2) (.t 7))⟩,
    ⟨(some 58), none, (.buildSlice 1 [(.int .i64 0), (.int .i64 0)] [(0, 2, (.t 57))])⟩,
    ⟨(some 59), none, (.append 2 16 (.t 56) (.t 58))⟩,
    ⟨(some 5), none, (.mov (.t 59))⟩])))) (.reg [⟨(some 60), none, (.bin .add (.t 13) (.c (.int .i64 1)))⟩,
    ⟨(some 13), none, (.mov (.t 60))⟩]))))
def s137 : SFn := ⟨[.cell 4 (some 1)], (.seq (.reg [⟨(some 2), none, (.box (.t 0))⟩,
    ⟨(some 3), none, (.box (.t 1))⟩,
    ⟨(some 4), none, (.new [(.slice none 0 (.known 0))])⟩]) (.seq (.reg [⟨(some 5), none, (.mov (.c (.slice none 0 (.known 0))))⟩]) (.seq (.seq (.reg [⟨(some 10), none, (.fieldAddr 0 (.t 2))⟩,
    ⟨(some 11), none, (.load none (.t 10))⟩,
    ⟨(some 12), none, (.len false (.t 11))⟩,
    ⟨(some 13), none, (.mov (.c (.int .i64 0)))⟩]) (.block 0 (.loop s137_l1))) (.seq (.reg [⟨(some 61), none, (.mov (.t 5))⟩,
    ⟨(some 62), none, (.call (.f 99) [(.t 61)])⟩,
    ⟨none, none, (.store 1 (.t 4) (.t 62))⟩]) .ret))))⟩
/- moiety/basis.Weights -/
def s138_l0 : S := (.seq (.reg [⟨(some 33), none, (.bin .lss (.t 32) (.t 31))⟩]) (.seq (.cond (.t 33) .skip (.exit 1)) (.seq (.block 2 (.seq (.reg [⟨(some 34), none, (.indexAddr none 1 (.t 30) (.t 32))⟩,
    ⟨(some 35), none, (.load none (.t 34))⟩,
    ⟨(some 15), none, (.mov (.t 35))⟩]) (.seq (.seq (.reg [⟨(some 36), none, (.mov (.t 15))⟩,
    ⟨(some 37), none, (.bin .lss (.t 36) (.c (.int .i64 0)))⟩,
    ⟨(some 38), none, (.mov (.t 37))⟩,
    ⟨(some 39), (some (38, false)), (.mov (.t 15))⟩,
    ⟨(some 40), (some (38, false)), (.mov (.t 0))⟩,
    ⟨(some 41), (some (38, false)), (.call (.f 41) [(.t 40)])⟩,
    ⟨(some 42), (some (38, false)), (.call (.f 119) [(.t 41)])⟩,
    ⟨(some 43), (some (38, false)), (.bin .geq (.t 39) (.t 42))⟩,
    ⟨(some 44), none, (.pick (.t 38) (.c (.bool true)) (.t 43))⟩]) (.cond (.t 44) (.seq (.reg [⟨(some 10), none, (.mov (.c (.slice none 0 (.known 0))))⟩,
    ⟨(some 11), none, (.mov (.c (.int .i64 17)))⟩]) .ret) .skip)) (.reg [⟨(some 45), none, (.mov (.t 13))⟩,
    ⟨(some 46), none, (.mov (.t 12))⟩,
    ⟨(some 47), none, (.mov (.t 15))⟩,
    ⟨(some 48), none, (.call (.t 46) [(.t 47)])⟩,
    ⟨(some 49), none, (.buildSlice 1 [(.int .u64 0)] [(0, 1, (.t 48))])⟩,
    ⟨(some 50), none, (.append 1 8 (.t 45) (.t 49))⟩,
    ⟨(some 13), none, (.mov (.t 50))⟩])))) (.reg [⟨(some 51), none, (.bin .add (.t 32) (.c (.int .i64 1)))⟩,
    ⟨(some 32), none, (.mov (.t 51))⟩]))))
def s138 : SFn := ⟨[.tmp 10, .tmp 11], (.seq (.reg [⟨(some 6), none, (.box (.t 1))⟩,
    ⟨(some 10), none, (.mov (.c (.slice none 0 (.known 0))))⟩,
    ⟨(some 11), none, (.mov (.c (.int .i64 0)))⟩]) (.seq (.block 0 (.seq (.reg [⟨(some 17), none, (.mov (.t 0))⟩,
    ⟨(some 18), none, (.eq false .ptr (.t 17) (.c (.ptr none)))⟩,
    ⟨(some 16), none, (.mov (.t 18))⟩]) (.cond (.t 16) (.seq (.reg [⟨(some 10), none, (.mov (.c (.slice none 0 (.known 0))))⟩,
    ⟨(some 11), none, (.mov (.c (.int .i64 1)))⟩]) .ret) (.seq (.reg [⟨(some 20), none, (.mov (.t 0))⟩,
    ⟨(some 21), none, (.mov (.t 3))⟩,
    ⟨(some 22), none, (.mov (.t 4))⟩,
    ⟨(some 23), none, (.call (.f 131) [(.t 20), (.t 21), (.t 22)])⟩,
    ⟨(some 24), none, (.un .not (.t 23))⟩,
    ⟨(some 19), none, (.mov (.t 24))⟩]) (.cond (.t 19) (.seq (.reg [⟨(some 10), none, (.mov (.c (.slice none 0 (.known 0))))⟩,
    ⟨(some 11), none, (.mov (.c (.int .i64 2)))⟩]) .ret) .skip))))) (.seq (.reg [⟨(some 25), none, (.mov (.t 0))⟩,
    ⟨(some 26), none, (.load (some 3) (.t 6))⟩,
    ⟨(some 27), none, (.mov (.t 3))⟩,
    ⟨(some 28), none, (.mov (.t 4))⟩,
    ⟨(some 29), none, (.call (.f 231) [(.t 25), (.t 26), (.t 27), (.t 28)])⟩,
    ⟨(some 12), none, (.mov (.t 29))⟩]) (.seq (.reg [⟨(some 13), none, (.mov (.c (.slice none 0 (.known 0))))⟩]) (.seq (.seq (.reg [⟨(some 30), none, (.mov (.t 2))⟩,
    ⟨(some 31), none, (.len false (.t 30))⟩,
    ⟨(some 32), none, (.mov (.c (.int .i64 0)))⟩]) (.block 1 (.loop s138_l0))) (.seq (.reg [⟨(some 52), none, (.mov (.t 13))⟩,
    ⟨(some 10), none, (.mov (.t 52))⟩,
    ⟨(some 11), none, (.mov (.c (.int .i64 0)))⟩]) .ret))))))⟩
/- moiety/share.Split -/
def s139_l0 : S := (.seq (.reg [⟨(some 29), none, (.bin .lss (.t 28) (.t 27))⟩]) (.seq (.cond (.t 29) .skip (.exit 1)) (.seq (.block 2 (.seq (.reg [⟨(some 30), none, (.indexAddr none 1 (.t 26) (.t 28))⟩,
    ⟨(some 31), none, (.load none (.t 30))⟩,
    ⟨(some 8), none, (.mov (.t 31))⟩]) (.seq (.reg [⟨(some 32), none, (.mov (.t 6))⟩,
    ⟨(some 33), none, (.mov (.t 8))⟩,
    ⟨(some 34), none, (.bin .add (.t 32) (.t 33))⟩,
    ⟨(some 6), none, (.mov (.t 34))⟩]) (.seq (.reg [⟨(some 35), none, (.mov (.t 6))⟩,
    ⟨(some 36), none, (.mov (.t 8))⟩,
    ⟨(some 37), none, (.bin .lss (.t 35) (.t 36))⟩]) (.cond (.t 37) (.seq (.reg [⟨(some 4), none, (.mov (.c (.slice none 0 (.known 0))))⟩,
    ⟨(some 5), none, (.mov (.c (.int .i64 8)))⟩]) .ret) .skip))))) (.reg [⟨(some 38), none, (.bin .add (.t 28) (.c (.int .i64 1)))⟩,
    ⟨(some 28), none, (.mov (.t 38))⟩]))))
def s139_l1 : S := (.seq (.reg [⟨(some 49), none, (.bin .lss (.t 48) (.t 47))⟩]) (.seq (.cond (.t 49) .skip (.exit 3)) (.seq (.block 4 (.seq (.reg [⟨(some 50), none, (.mov (.t 48))⟩,
    ⟨(some 51), none, (.indexAddr none 1 (.t 46) (.t 48))⟩,
    ⟨(some 52), none, (.load none (.t 51))⟩,
    ⟨(some 12), none, (.mov (.t 50))⟩,
    ⟨(some 13), none, (.mov (.t 52))⟩]) (.seq (.reg [⟨(some 54), none, (.mov (.t 0))⟩,
    ⟨(some 55), none, (.mov (.t 13))⟩,
    ⟨(some 56), none, (.mov (.t 6))⟩,
    ⟨(some 57), none, (.call (.f 232) [(.t 54), (.t 55), (.t 56)])⟩,
    ⟨(some 53), none, (.mov (.t 57))⟩,
    ⟨(some 58), none, (.extract (.t 53) 0)⟩,
    ⟨(some 59), none, (.extract (.t 53) 1)⟩,
    ⟨(some 60), none, (.extract (.t 53) 2)⟩,
    ⟨(some 14), none, (.mov (.t 58))⟩,
    ⟨(some 15), none, (.mov (.t 59))⟩,
    ⟨(some 16), none, (.mov (.t 60))⟩]) (.seq (.seq (.reg [⟨(some 61), none, (.mov (.t 16))⟩,
    ⟨(some 62), none, (.bin .neq (.t 61) (.c (.int .i64 0)))⟩]) (.cond (.t 62) (.seq (.reg [⟨(some 63), none, (.mov (.t 16))⟩,
    ⟨(some 4), none, (.mov (.c (.slice none 0 (.known 0))))⟩,
    ⟨(some 5), none, (.mov (.t 63))⟩]) .ret) .skip)) (.seq (.reg [⟨(some 64), none, (.mov (.t 9))⟩,
    ⟨(some 65), none, (.mov (.t 12))⟩,
    ⟨(some 66), none, (.mov (.t 10))⟩,
    ⟨(some 67), none, (.mov (.t 12))⟩,
    ⟨(some 68), none, (.mov (.t 14))⟩,
    ⟨(some 69), none, (.mov (.t 12))⟩,
    ⟨(some 70), none, (.mov (.t 15))⟩,
    ⟨(some 71), none, (.build [(.int .i64 0), (.int .u64 0)] [(0, 1, (.t 69)), (1, 1, (.t 70))])⟩,
    ⟨(some 72), none, (.indexAddr none 1 (.t 64) (.t 65))⟩,
    ⟨none, none, (.store 1 (.t 72) (.t 68))⟩,
    ⟨(some 73), none, (.indexAddr none 2 (.t 66) (.t 67))⟩,
    ⟨none, none, (.store 2 (.t 73) (.t 71))⟩]) (.reg [⟨(some 74), none, (.mov (.t 11))⟩,
    ⟨(some 75), none, (.mov (.t 14))⟩,
    ⟨(some 76), none, (.bin .sub (.t 74) (.t 75))⟩,
    ⟨(some 11), none, (.mov (.t 76))⟩])))))) (.reg [⟨(some 77), none, (.bin .add (.t 48) (.c (.int .i64 1)))⟩,
    ⟨(some 48), none, (.mov (.t 77))⟩]))))
def s139_l2 : S := (.seq (.seq (.reg [⟨(some 80), none, (.mov (.t 11))⟩,
    ⟨(some 81), none, (.bin .gtr (.t 80) (.c (.int .u64 0)))⟩,
    ⟨(some 82), none, (.mov (.t 81))⟩,
    ⟨(some 83), (some (82, true)), (.mov (.t 17))⟩,
    ⟨(some 84), (some (82, true)), (.mov (.t 10))⟩,
    ⟨(some 85), (some (82, true)), (.len false (.t 84))⟩,
    ⟨(some 86), (some (82, true)), (.bin .lss (.t 83) (.t 85))⟩,
    ⟨(some 87), none, (.pick (.t 82) (.t 86) (.c (.bool false)))⟩]) (.cond (.t 87) .skip (.exit 5))) (.seq (.block 6 (.seq (.reg [⟨(some 90), none, (.mov (.t 9))⟩,
    ⟨(some 91), none, (.mov (.t 10))⟩,
    ⟨(some 92), none, (.mov (.t 17))⟩,
    ⟨(some 93), none, (.indexAddr none 2 (.t 91) (.t 92))⟩,
    ⟨(some 94), none, (.fieldAddr 0 (.t 93))⟩,
    ⟨(some 95), none, (.load none (.t 94))⟩,
    ⟨(some 96), none, (.indexAddr none 1 (.t 90) (.t 95))⟩,
    ⟨(some 97), none, (.load none (.t 96))⟩,
    ⟨(some 98), none, (.bin .add (.t 97) (.c (.int .u64 1)))⟩,
    ⟨(some 99), none, (.indexAddr none 1 (.t 90) (.t 95))⟩,
    ⟨none, none, (.store 1 (.t 99) (.t 98))⟩]) (.reg [⟨(some 100), none, (.mov (.t 11))⟩,
    ⟨(some 101), none, (.bin .sub (.t 100) (.c (.int .u64 1)))⟩,
    ⟨(some 11), none, (.mov (.t 101))⟩]))) (.reg [⟨(some 88), none, (.mov (.t 17))⟩,
    ⟨(some 89), none, (.bin .add (.t 88) (.c (.int .i64 1)))⟩,
    ⟨(some 17), none, (.mov (.t 89))⟩])))
def s139 : SFn := ⟨[.tmp 4, .tmp 5], (.seq (.reg [⟨(some 4), none, (.mov (.c (.slice none 0 (.known 0))))⟩,
    ⟨(some 5), none, (.mov (.c (.int .i64 0)))⟩]) (.seq (.block 0 (.seq (.reg [⟨(some 19), none, (.mov (.t 1))⟩,
    ⟨(some 20), none, (.len false (.t 19))⟩,
    ⟨(some 21), none, (.bin .eql (.t 20) (.c (.int .i64 0)))⟩,
    ⟨(some 18), none, (.mov (.t 21))⟩]) (.cond (.t 18) (.seq (.reg [⟨(some 4), none, (.mov (.c (.slice none 0 (.known 0))))⟩,
    ⟨(some 5), none, (.mov (.c (.int .i64 13)))⟩]) .ret) (.seq (.reg [⟨(some 23), none, (.mov (.t 1))⟩,
    ⟨(some 24), none, (.len false (.t 23))⟩,
    ⟨(some 25), none, (.bin .gtr (.t 24) (.c (.int .i64 1024)))⟩,
    ⟨(some 22), none, (.mov (.t 25))⟩]) (.cond (.t 22) (.seq (.reg [⟨(some 4), none, (.mov (.c (.slice none 0 (.known 0))))⟩,
    ⟨(some 5), none, (.mov (.c (.int .i64 5)))⟩]) .ret) .skip))))) (.seq (.reg [⟨(some 6), none, (.mov (.c (.int .u64 0)))⟩]) (.seq (.seq (.reg [⟨(some 26), none, (.mov (.t 1))⟩,
    ⟨(some 27), none, (.len false (.t 26))⟩,
    ⟨(some 28), none, (.mov (.c (.int .i64 0)))⟩]) (.block 1 (.loop s139_l0))) (.seq (.reg [⟨(some 39), none, (.mov (.t 1))⟩,
    ⟨(some 40), none, (.len false (.t 39))⟩,
    ⟨(some 41), none, (.makeSlice 8 [(.int .u64 0)] (.t 40) (.t 40))⟩,
    ⟨(some 9), none, (.mov (.t 41))⟩]) (.seq (.reg [⟨(some 42), none, (.mov (.t 1))⟩,
    ⟨(some 43), none, (.len false (.t 42))⟩,
    ⟨(some 44), none, (.makeSlice 16 [(.int .i64 0), (.int .u64 0)] (.t 43) (.t 43))⟩,
    ⟨(some 10), none, (.mov (.t 44))⟩]) (.seq (.reg [⟨(some 45), none, (.mov (.t 0))⟩,
    ⟨(some 11), none, (.mov (.t 45))⟩]) (.seq (.seq (.reg [⟨(some 46), none, (.mov (.t 1))⟩,
    ⟨(some 47), none, (.len false (.t 46))⟩,
    ⟨(some 48), none, (.mov (.c (.int .i64 0)))⟩]) (.block 3 (.loop s139_l1))) (.seq (.reg [⟨(some 78), none, (.mov (.t 10))⟩,
    ⟨(some 79), none, (.call (.f 233) [(.t 78), (.f 234)])⟩]) (.seq (.seq (.reg [⟨(some 17), none, (.mov (.c (.int .i64 0)))⟩]) (.block 5 (.loop s139_l2))) (.seq (.reg [⟨(some 102), none, (.mov (.t 9))⟩,
    ⟨(some 4), none, (.mov (.t 102))⟩,
    ⟨(some 5), none, (.mov (.c (.int .i64 0)))⟩]) .ret)))))))))))⟩
/- moiety/num.Off -/
def s140 : SFn := ⟨[.tmp 6, .tmp 7], (.seq (.reg [⟨(some 6), none, (.mov (.c (.int .i64 0)))⟩,
    ⟨(some 7), none, (.mov (.c (.int .i64 0)))⟩]) (.seq (.seq (.reg [⟨(some 14), none, (.mov (.t 2))⟩]) (.cond (.t 14) (.seq (.reg [⟨(some 15), none, (.mov (.t 0))⟩,
    ⟨(some 16), none, (.convInt .u64 (.t 15))⟩,
    ⟨(some 17), none, (.mov (.t 1))⟩,
    ⟨(some 18), none, (.bin .sub (.t 16) (.t 17))⟩,
    ⟨(some 19), none, (.convInt .i64 (.t 18))⟩,
    ⟨(some 8), none, (.mov (.t 19))⟩]) (.seq (.reg [⟨(some 21), none, (.mov (.t 0))⟩,
    ⟨(some 22), none, (.call (.f 66) [(.t 21), (.c (.int .i64 (-9223372036854775808)))])⟩,
    ⟨(some 20), none, (.mov (.t 22))⟩,
    ⟨(some 23), none, (.extract (.t 20) 0)⟩,
    ⟨(some 24), none, (.extract (.t 20) 1)⟩,
    ⟨(some 9), none, (.mov (.t 23))⟩,
    ⟨(some 10), none, (.mov (.t 24))⟩]) (.seq (.reg [⟨(some 25), none, (.mov (.t 8))⟩,
    ⟨(some 26), none, (.mov (.t 1))⟩,
    ⟨(some 27), none, (.mov (.t 9))⟩,
    ⟨(some 28), none, (.bin .leq (.t 26) (.t 27))⟩,
    ⟨(some 29), none, (.call (.f 235) [(.t 25), (.t 28)])⟩,
    ⟨(some 30), none, (.extract (.t 29) 0)⟩,
    ⟨(some 31), none, (.extract (.t 29) 1)⟩,
    ⟨(some 6), none, (.mov (.t 30))⟩,
    ⟨(some 7), none, (.mov (.t 31))⟩]) .ret))) .skip)) (.seq (.reg [⟨(some 32), none, (.mov (.t 0))⟩,
    ⟨(some 33), none, (.convInt .u64 (.t 32))⟩,
    ⟨(some 34), none, (.mov (.t 1))⟩,
    ⟨(some 35), none, (.bin .add (.t 33) (.t 34))⟩,
    ⟨(some 36), none, (.convInt .i64 (.t 35))⟩,
    ⟨(some 11), none, (.mov (.t 36))⟩]) (.seq (.reg [⟨(some 38), none, (.mov (.t 0))⟩,
    ⟨(some 39), none, (.call (.f 66) [(.c (.int .i64 9223372036854775807)), (.t 38)])⟩,
    ⟨(some 37), none, (.mov (.t 39))⟩,
    ⟨(some 40), none, (.extract (.t 37) 0)⟩,
    ⟨(some 41), none, (.extract (.t 37) 1)⟩,
    ⟨(some 12), none, (.mov (.t 40))⟩,
    ⟨(some 13), none, (.mov (.t 41))⟩]) (.seq (.reg [⟨(some 42), none, (.mov (.t 11))⟩,
    ⟨(some 43), none, (.mov (.t 1))⟩,
    ⟨(some 44), none, (.mov (.t 12))⟩,
    ⟨(some 45), none, (.bin .leq (.t 43) (.t 44))⟩,
    ⟨(some 46), none, (.call (.f 235) [(.t 42), (.t 45)])⟩,
    ⟨(some 47), none, (.extract (.t 46) 0)⟩,
    ⟨(some 48), none, (.extract (.t 46) 1)⟩,
    ⟨(some 6), none, (.mov (.t 47))⟩,
    ⟨(some 7), none, (.mov (.t 48))⟩]) .ret)))))⟩
/- (*moiety/coord.Space).Cells -/
def s141 : SFn := ⟨[.tmp 2], (.seq (.reg [⟨(some 2), none, (.mov (.c (.int .i64 0)))⟩]) (.seq (.seq (.reg [⟨(some 3), none, (.mov (.t 0))⟩,
    ⟨(some 4), none, (.eq false .ptr (.t 3) (.c (.ptr none)))⟩]) (.cond (.t 4) (.seq (.reg [⟨(some 2), none, (.mov (.c (.int .i64 0)))⟩]) .ret) .skip)) (.seq (.reg [⟨(some 5), none, (.mov (.t 0))⟩,
    ⟨(some 6), none, (.mov (.t 0))⟩,
    ⟨(some 7), none, (.nilCheck (.t 6))⟩,
    ⟨(some 8), none, (.fieldAddr 4 (.t 7))⟩,
    ⟨(some 9), none, (.load (some 4) (.t 8))⟩,
    ⟨(some 10), none, (.call (.f 208) [(.t 5), (.t 9)])⟩,
    ⟨(some 2), none, (.mov (.t 10))⟩]) .ret)))⟩
/- (*moiety/coord.Space).Over -/
def s142_l0 : S := (.seq (.reg [⟨(some 27), none, (.bin .lss (.t 26) (.t 25))⟩]) (.seq (.cond (.t 27) .skip (.exit 0)) (.seq (.block 1 (.seq (.reg [⟨(some 28), none, (.mov (.t 26))⟩,
    ⟨(some 29), none, (.indexAddr none 1 (.t 24) (.t 26))⟩,
    ⟨(some 30), none, (.load none (.t 29))⟩,
    ⟨(some 8), none, (.mov (.t 28))⟩,
    ⟨(some 9), none, (.mov (.t 30))⟩]) (.seq (.reg [⟨(some 31), none, (.mov (.t 9))⟩,
    ⟨(some 32), none, (.mov (.t 8))⟩,
    ⟨(some 33), none, (.fieldAddr 1 (.t 5))⟩,
    ⟨(some 34), none, (.indexAddr (some 4) 1 (.t 33) (.t 32))⟩,
    ⟨(some 35), none, (.load none (.t 34))⟩,
    ⟨(some 36), none, (.call (.f 236) [(.t 31), (.t 35)])⟩,
    ⟨(some 10), none, (.mov (.t 36))⟩]) (.seq (.reg [⟨(some 37), none, (.mov (.t 10))⟩,
    ⟨(some 38), none, (.call (.f 237) [(.t 37)])⟩]) (.reg [⟨(some 39), none, (.mov (.t 7))⟩,
    ⟨(some 40), none, (.mov (.t 10))⟩,
    ⟨(some 41), none, (.buildSlice 1 [(.slice none 0 (.known 0))] [(0, 1, (.t 40))])⟩,
    ⟨(some 42), none, (.append 1 24 (.t 39) (.t 41))⟩,
    ⟨(some 7), none, (.mov (.t 42))⟩]))))) (.reg [⟨(some 43), none, (.bin .add (.t 26) (.c (.int .i64 1)))⟩,
    ⟨(some 26), none, (.mov (.t 43))⟩]))))
def s142 : SFn := ⟨[.tmp 4], (.seq (.reg [⟨(some 4), none, (.mov (.c (.slice none 0 (.known 0))))⟩]) (.seq (.reg [⟨(some 14), none, (.mov (.t 0))⟩,
    ⟨(some 15), none, (.mov (.t 1))⟩,
    ⟨(some 16), none, (.call (.f 174) [(.t 14), (.t 15)])⟩,
    ⟨(some 13), none, (.mov (.t 16))⟩,
    ⟨(some 17), none, (.extract (.t 13) 0)⟩,
    ⟨(some 18), none, (.extract (.t 13) 1)⟩,
    ⟨(some 5), none, (.new [(.int .i64 0), (.int .i64 0), (.int .i64 0), (.int .i64 0), (.int .i64 0)])⟩,
    ⟨none, none, (.store 5 (.t 5) (.t 17))⟩,
    ⟨(some 6), none, (.mov (.t 18))⟩]) (.seq (.seq (.reg [⟨(some 19), none, (.mov (.t 6))⟩,
    ⟨(some 20), none, (.un .not (.t 19))⟩]) (.cond (.t 20) (.seq (.reg [⟨(some 4), none, (.mov (.c (.slice none 0 (.known 0))))⟩]) .ret) .skip)) (.seq (.reg [⟨(some 7), none, (.mov (.c (.slice none 0 (.known 0))))⟩]) (.seq (.seq (.reg [⟨(some 21), none, (.mov (.t 0))⟩,
    ⟨(some 22), none, (.nilCheck (.t 21))⟩,
    ⟨(some 23), none, (.fieldAddr 2 (.t 22))⟩,
    ⟨(some 24), none, (.load none (.t 23))⟩,
    ⟨(some 25), none, (.len false (.t 24))⟩,
    ⟨(some 26), none, (.mov (.c (.int .i64 0)))⟩]) (.block 0 (.loop s142_l0))) (.seq (.reg [⟨(some 11), none, (.new [(.slice none 0 (.known 0))])⟩]) (.seq (.seq (.reg [⟨(some 44), none, (.mov (.t 7))⟩,
    ⟨(some 45), none, (.call (.f 191) [(.t 44)])⟩]) (.block 2 (.range (.t 45) [46] (.reg [⟨(some 12), none, (.new [(.int .i64 0), (.int .i64 0), (.int .i64 0), (.int .i64 0)])⟩,
    ⟨none, none, (.store 4 (.t 12) (.t 46))⟩]) (.block 3 (.reg [⟨(some 47), none, (.load none (.t 11))⟩,
    ⟨(some 48), none, (.fieldAddr 0 (.t 5))⟩,
    ⟨(some 49), none, (.load none (.t 48))⟩,
    ⟨(some 50), none, (.load (some 4) (.t 12))⟩,
    ⟨(some 51), none, (.build [(.int .i64 0), (.int .i64 0), (.int .i64 0), (.int .i64 0), (.int .i64 0)] [(0, 1, (.t 49)), (1, 4, (.t 50))])⟩,
    ⟨(some 52), none, (.buildSlice 1 [(.int .i64 0), (.int .i64 0), (.int .i64 0), (.int .i64 0), (.int .i64 0)] [(0, 5, (.t 51))])⟩,
    ⟨(some 53), none, (.append 5 40 (.t 47) (.t 52))⟩,
    ⟨none, none, (.store 1 (.t 11) (.t 53))⟩]))))) (.seq (.reg [⟨(some 54), none, (.load none (.t 11))⟩,
    ⟨(some 4), none, (.mov (.t 54))⟩]) .ret))))))))⟩
/- moiety/num.More -/
def s143_l0 : S := (.seq (.reg [⟨(some 12), none, (.bin .lss (.t 11) (.t 10))⟩]) (.seq (.cond (.t 12) .skip (.exit 0)) (.seq (.block 1 (.seq (.reg [⟨(some 13), none, (.indexAddr none 1 (.t 9) (.t 11))⟩,
    ⟨(some 14), none, (.load none (.t 13))⟩,
    ⟨(some 6), none, (.mov (.t 14))⟩]) (.seq (.reg [⟨(some 16), none, (.fieldAddr 1 (.t 2))⟩,
    ⟨(some 17), none, (.load none (.t 16))⟩,
    ⟨(some 18), none, (.mov (.t 6))⟩,
    ⟨(some 19), none, (.convInt .u64 (.t 18))⟩,
    ⟨(some 20), none, (.call (.f 238) [(.t 17), (.t 19), (.c (.int .u64 0))])⟩,
    ⟨(some 15), none, (.mov (.t 20))⟩,
    ⟨(some 21), none, (.extract (.t 15) 0)⟩,
    ⟨(some 22), none, (.extract (.t 15) 1)⟩,
    ⟨(some 7), none, (.mov (.t 21))⟩,
    ⟨(some 8), none, (.mov (.t 22))⟩]) (.reg [⟨(some 23), none, (.fieldAddr 0 (.t 2))⟩,
    ⟨(some 24), none, (.load none (.t 23))⟩,
    ⟨(some 25), none, (.mov (.t 6))⟩,
    ⟨(some 26), none, (.bin .shr (.t 25) (.c (.int .u64 63)))⟩,
    ⟨(some 27), none, (.bin .add (.t 24) (.t 26))⟩,
    ⟨(some 28), none, (.mov (.t 8))⟩,
    ⟨(some 29), none, (.convInt .i64 (.t 28))⟩,
    ⟨(some 30), none, (.bin .add (.t 27) (.t 29))⟩,
    ⟨(some 31), none, (.mov (.t 7))⟩,
    ⟨(some 32), none, (.build [(.int .i64 0), (.int .u64 0)] [(0, 1, (.t 30)), (1, 1, (.t 31))])⟩,
    ⟨none, none, (.store 2 (.t 2) (.t 32))⟩])))) (.reg [⟨(some 33), none, (.bin .add (.t 11) (.c (.int .i64 1)))⟩,
    ⟨(some 11), none, (.mov (.t 33))⟩]))))
def s143 : SFn := ⟨[.cell 4 (some 2)], (.seq (.reg [⟨(some 2), none, (.box (.t 0))⟩,
    ⟨(some 4), none, (.new [(.int .i64 0), (.int .u64 0)])⟩]) (.seq (.seq (.reg [⟨(some 9), none, (.mov (.t 1))⟩,
    ⟨(some 10), none, (.len false (.t 9))⟩,
    ⟨(some 11), none, (.mov (.c (.int .i64 0)))⟩]) (.block 0 (.loop s143_l0))) (.seq (.reg [⟨(some 34), none, (.load (some 2) (.t 2))⟩,
    ⟨none, none, (.store 2 (.t 4) (.t 34))⟩]) .ret)))⟩
/- moiety/num.Fits -/
def s144 : SFn := ⟨[.tmp 2, .tmp 3], (.seq (.reg [⟨(some 1), none, (.box (.t 0))⟩,
    ⟨(some 2), none, (.mov (.c (.int .i64 0)))⟩,
    ⟨(some 3), none, (.mov (.c (.int .i64 0)))⟩]) (.seq (.reg [⟨(some 5), none, (.fieldAddr 1 (.t 1))⟩,
    ⟨(some 6), none, (.load none (.t 5))⟩,
    ⟨(some 7), none, (.convInt .i64 (.t 6))⟩,
    ⟨(some 4), none, (.mov (.t 7))⟩]) (.seq (.reg [⟨(some 8), none, (.mov (.t 4))⟩,
    ⟨(some 9), none, (.fieldAddr 0 (.t 1))⟩,
    ⟨(some 10), none, (.load none (.t 9))⟩,
    ⟨(some 11), none, (.mov (.t 4))⟩,
    ⟨(some 12), none, (.bin .shr (.t 11) (.c (.int .u64 63)))⟩,
    ⟨(some 13), none, (.bin .eql (.t 10) (.t 12))⟩,
    ⟨(some 14), none, (.call (.f 235) [(.t 8), (.t 13)])⟩,
    ⟨(some 15), none, (.extract (.t 14) 0)⟩,
    ⟨(some 16), none, (.extract (.t 14) 1)⟩,
    ⟨(some 2), none, (.mov (.t 15))⟩,
    ⟨(some 3), none, (.mov (.t 16))⟩]) .ret)))⟩
/- (*moiety/state.Book).leaves -/
def s146_l0 : S := (.seq (.reg [⟨(some 23), none, (.bin .lss (.t 22) (.t 21))⟩]) (.seq (.cond (.t 23) .skip (.exit 0)) (.seq (.block 1 (.seq (.reg [⟨(some 24), none, (.indexAddr none 3 (.t 20) (.t 22))⟩,
    ⟨(some 25), none, (.load (some 3) (.t 24))⟩,
    ⟨(some 11), none, (.new [(.int .i64 0), (.int .i64 0), (.bool false)])⟩,
    ⟨none, none, (.store 3 (.t 11) (.t 25))⟩]) (.seq (.reg [⟨(some 26), none, (.mov (.t 2))⟩,
    ⟨(some 27), none, (.fieldAddr 1 (.t 11))⟩,
    ⟨(some 28), none, (.load (some 2) (.t 27))⟩,
    ⟨(some 29), none, (.call (.t 26) [(.t 28)])⟩]) (.cond (.t 29) (.reg [⟨(some 30), none, (.mov (.t 9))⟩,
    ⟨(some 31), none, (.fieldAddr 0 (.t 11))⟩,
    ⟨(some 32), none, (.load none (.t 31))⟩,
    ⟨(some 33), none, (.buildSlice 1 [(.int .i64 0)] [(0, 1, (.t 32))])⟩,
    ⟨(some 34), none, (.append 1 8 (.t 30) (.t 33))⟩,
    ⟨(some 9), none, (.mov (.t 34))⟩]) .skip)))) (.reg [⟨(some 35), none, (.bin .add (.t 22) (.c (.int .i64 1)))⟩,
    ⟨(some 22), none, (.mov (.t 35))⟩]))))
def s146 : SFn := ⟨[.tmp 6], (.seq (.reg [⟨(some 4), none, (.box (.t 1))⟩,
    ⟨(some 6), none, (.mov (.c (.slice none 0 (.known 0))))⟩]) (.seq (.dreg false [⟨⟨(some 13), none, (.mov (.t 0))⟩, 0, 0⟩,
    ⟨⟨(some 14), none, (.call (.f 105) [(.t 13)])⟩, 0, 1⟩,
    ⟨⟨(some 15), none, (.fieldAddr 0 (.t 4))⟩, 0, 1⟩,
    ⟨⟨(some 16), none, (.load none (.t 15))⟩, 0, 1⟩,
    ⟨⟨(some 17), none, (.call (.f 240) [(.t 14), (.t 16)])⟩, 1, 2⟩,
    ⟨⟨(some 12), none, (.mov (.t 17))⟩, 2, 2⟩,
    ⟨⟨(some 18), none, (.extract (.t 12) 0)⟩, 2, 2⟩,
    ⟨⟨(some 19), none, (.extract (.t 12) 1)⟩, 2, 2⟩,
    ⟨⟨(some 7), none, (.mov (.t 18))⟩, 2, 2⟩,
    ⟨⟨(some 8), none, (.mov (.t 19))⟩, 2, 2⟩]) (.seq (.reg [⟨(some 9), none, (.mov (.c (.slice none 0 (.known 0))))⟩]) (.seq (.seq (.reg [⟨(some 20), none, (.mov (.t 7))⟩,
    ⟨(some 21), none, (.len false (.t 20))⟩,
    ⟨(some 22), none, (.mov (.c (.int .i64 0)))⟩]) (.block 0 (.loop s146_l0))) (.seq (.reg [⟨(some 36), none, (.mov (.t 9))⟩,
    ⟨(some 6), none, (.mov (.t 36))⟩]) .ret)))))⟩
/- (*moiety/state.Book).Full$1 -/
def s147 : SFn := ⟨[.tmp 2], (.seq (.reg [⟨(some 1), none, (.box (.t 0))⟩,
    ⟨(some 2), none, (.mov (.c (.bool false)))⟩]) (.seq (.reg [⟨(some 3), none, (.fieldAddr 0 (.t 1))⟩,
    ⟨(some 4), none, (.load none (.t 3))⟩,
    ⟨(some 5), none, (.bin .neq (.t 4) (.c (.int .i64 0)))⟩,
    ⟨(some 2), none, (.mov (.t 5))⟩]) .ret))⟩
/- moiety/moietyref15.New -/
def s148_l0 : S := (.seq (.seq (.reg [⟨(some 9), none, (.mov (.t 5))⟩,
    ⟨(some 10), none, (.mov (.t 4))⟩,
    ⟨(some 11), none, (.bin .lss (.t 9) (.t 10))⟩]) (.cond (.t 11) .skip (.exit 0))) (.seq (.block 1 (.reg [⟨(some 14), none, (.fieldAddr 0 (.t 3))⟩,
    ⟨(some 15), none, (.load none (.t 14))⟩,
    ⟨(some 16), none, (.build [(.int .i64 0), (.bool false)] [])⟩,
    ⟨(some 17), none, (.buildSlice 1 [(.int .i64 0), (.bool false)] [(0, 2, (.t 16))])⟩,
    ⟨(some 18), none, (.append 2 16 (.t 15) (.t 17))⟩,
    ⟨(some 19), none, (.fieldAddr 0 (.t 3))⟩,
    ⟨none, none, (.store 1 (.t 19) (.t 18))⟩])) (.reg [⟨(some 12), none, (.mov (.t 5))⟩,
    ⟨(some 13), none, (.bin .add (.t 12) (.c (.int .i64 1)))⟩,
    ⟨(some 5), none, (.mov (.t 13))⟩])))
def s148 : SFn := ⟨[.cell 2 (some 3)], (.seq (.reg [⟨(some 2), none, (.new [(.slice none 0 (.known 0)), (.slice none 0 (.known 0)), (.slice none 0 (.known 0))])⟩]) (.seq (.reg [⟨(some 6), none, (.build [(.slice none 0 (.known 0)), (.slice none 0 (.known 0)), (.slice none 0 (.known 0))] [])⟩,
    ⟨(some 3), none, (.new [(.slice none 0 (.known 0)), (.slice none 0 (.known 0)), (.slice none 0 (.known 0))])⟩,
    ⟨none, none, (.store 3 (.t 3) (.t 6))⟩]) (.seq (.reg [⟨(some 7), none, (.mov (.t 0))⟩,
    ⟨(some 8), none, (.call (.f 241) [(.t 7)])⟩,
    ⟨(some 4), none, (.mov (.t 8))⟩]) (.seq (.seq (.reg [⟨(some 5), none, (.mov (.c (.int .i64 0)))⟩]) (.block 0 (.loop s148_l0))) (.seq (.reg [⟨(some 20), none, (.load (some 3) (.t 3))⟩,
    ⟨none, none, (.store 3 (.t 2) (.t 20))⟩]) .ret)))))⟩
/- (*moiety/state.Book).Hold -/
def s149 : SFn := ⟨[.cell 6 (some 3), .tmp 7], (.seq (.reg [⟨(some 4), none, (.box (.t 1))⟩,
    ⟨(some 5), none, (.box (.t 2))⟩,
    ⟨(some 6), none, (.new [(.int .i64 0), (.slice none 0 (.known 0)), (.slice none 0 (.known 0))])⟩,
    ⟨(some 7), none, (.mov (.c (.int .i64 0)))⟩]) (.seq (.seq (.dreg false [⟨⟨(some 11), none, (.mov (.t 0))⟩, 0, 0⟩,
    ⟨⟨(some 12), none, (.call (.f 41) [(.t 11)])⟩, 0, 1⟩,
    ⟨⟨(some 13), none, (.load (some 5) (.t 5))⟩, 0, 1⟩,
    ⟨⟨(some 14), none, (.call (.f 91) [(.t 12), (.t 13)])⟩, 1, 2⟩,
    ⟨⟨(some 8), none, (.mov (.t 14))⟩, 2, 2⟩]) (.seq (.reg [⟨(some 15), none, (.mov (.t 8))⟩,
    ⟨(some 16), none, (.bin .geq (.t 15) (.c (.int .i64 0)))⟩]) (.cond (.t 16) (.seq (.reg [⟨(some 17), none, (.mov (.t 0))⟩,
    ⟨(some 18), none, (.load (some 3) (.t 4))⟩,
    ⟨(some 19), none, (.mov (.t 8))⟩,
    ⟨(some 20), none, (.call (.f 242) [(.t 17), (.t 18), (.t 19), (.c (.bool true)), (.c (.int .i64 4))])⟩,
    ⟨(some 21), none, (.extract (.t 20) 0)⟩,
    ⟨(some 22), none, (.extract (.t 20) 1)⟩,
    ⟨none, none, (.store 3 (.t 6) (.t 21))⟩,
    ⟨(some 7), none, (.mov (.t 22))⟩]) .ret) .skip))) (.seq (.dreg false [⟨⟨(some 24), none, (.fieldAddr 1 (.t 4))⟩, 0, 1⟩,
    ⟨⟨(some 25), none, (.load (some 1) (.t 24))⟩, 0, 1⟩,
    ⟨⟨(some 26), none, (.mov (.t 0))⟩, 0, 0⟩,
    ⟨⟨(some 27), none, (.call (.f 41) [(.t 26)])⟩, 0, 1⟩,
    ⟨⟨(some 28), none, (.load (some 5) (.t 5))⟩, 0, 1⟩,
    ⟨⟨(some 29), none, (.call (.f 243) [(.t 25), (.t 27), (.t 28)])⟩, 1, 2⟩,
    ⟨⟨(some 23), none, (.mov (.t 29))⟩, 2, 2⟩,
    ⟨⟨(some 30), none, (.extract (.t 23) 0)⟩, 2, 2⟩,
    ⟨⟨(some 31), none, (.extract (.t 23) 1)⟩, 2, 3⟩,
    ⟨⟨(some 9), none, (.new [(.slice none 0 (.known 0))])⟩, 0, 2⟩,
    ⟨⟨none, none, (.store 1 (.t 9) (.t 30))⟩, 2, 3⟩,
    ⟨⟨(some 10), none, (.mov (.t 31))⟩, 3, 3⟩]) (.seq (.reg [⟨(some 32), none, (.mov (.t 0))⟩,
    ⟨(some 33), none, (.load (some 3) (.t 4))⟩,
    ⟨(some 34), none, (.load (some 1) (.t 9))⟩,
    ⟨(some 35), none, (.mov (.t 10))⟩,
    ⟨(some 36), none, (.call (.f 244) [(.t 32), (.t 33), (.t 34), (.t 35)])⟩,
    ⟨(some 37), none, (.extract (.t 36) 0)⟩,
    ⟨(some 38), none, (.extract (.t 36) 1)⟩,
    ⟨none, none, (.store 3 (.t 6) (.t 37))⟩,
    ⟨(some 7), none, (.mov (.t 38))⟩]) .ret))))⟩
/- moiety/moietyref15.Hold -/
def s150 : SFn := ⟨[.cell 6 (some 3), .tmp 7], (.seq (.reg [⟨(some 4), none, (.box (.t 1))⟩,
    ⟨(some 5), none, (.box (.t 2))⟩,
    ⟨(some 6), none, (.new [(.slice none 0 (.known 0)), (.slice none 0 (.known 0)), (.slice none 0 (.known 0))])⟩,
    ⟨(some 7), none, (.mov (.c (.int .i64 0)))⟩]) (.seq (.reg [⟨(some 11), none, (.mov (.t 0))⟩,
    ⟨(some 12), none, (.load (some 5) (.t 5))⟩,
    ⟨(some 13), none, (.call (.f 196) [(.t 11), (.t 12)])⟩,
    ⟨(some 8), none, (.mov (.t 13))⟩]) (.seq (.seq (.reg [⟨(some 14), none, (.mov (.t 8))⟩,
    ⟨(some 15), none, (.bin .lss (.t 14) (.c (.int .i64 0)))⟩]) (.cond (.t 15) (.seq (.reg [⟨(some 17), none, (.mov (.t 0))⟩,
    ⟨(some 18), none, (.fieldAddr 1 (.t 4))⟩,
    ⟨(some 19), none, (.load none (.t 18))⟩,
    ⟨(some 20), none, (.load (some 5) (.t 5))⟩,
    ⟨(some 21), none, (.call (.f 245) [(.t 17), (.t 19), (.t 20)])⟩,
    ⟨(some 16), none, (.mov (.t 21))⟩,
    ⟨(some 22), none, (.extract (.t 16) 0)⟩,
    ⟨(some 23), none, (.extract (.t 16) 1)⟩,
    ⟨(some 9), none, (.mov (.t 22))⟩,
    ⟨(some 10), none, (.mov (.t 23))⟩]) (.seq (.seq (.reg [⟨(some 24), none, (.mov (.t 10))⟩,
    ⟨(some 25), none, (.bin .neq (.t 24) (.c (.int .i64 0)))⟩]) (.cond (.t 25) (.seq (.reg [⟨(some 26), none, (.build [(.slice none 0 (.known 0)), (.slice none 0 (.known 0)), (.slice none 0 (.known 0))] [])⟩,
    ⟨(some 27), none, (.mov (.t 10))⟩,
    ⟨none, none, (.store 3 (.t 6) (.t 26))⟩,
    ⟨(some 7), none, (.mov (.t 27))⟩]) .ret) .skip)) (.seq (.reg [⟨(some 28), none, (.mov (.t 9))⟩,
    ⟨(some 29), none, (.fieldAddr 1 (.t 4))⟩,
    ⟨none, none, (.store 1 (.t 29) (.t 28))⟩]) (.seq (.reg [⟨(some 30), none, (.load (some 3) (.t 4))⟩,
    ⟨none, none, (.store 3 (.t 6) (.t 30))⟩,
    ⟨(some 7), none, (.mov (.c (.int .i64 0)))⟩]) .ret)))) .skip)) (.seq (.seq (.reg [⟨(some 31), none, (.fieldAddr 0 (.t 4))⟩,
    ⟨(some 32), none, (.load none (.t 31))⟩,
    ⟨(some 33), none, (.mov (.t 8))⟩,
    ⟨(some 34), none, (.indexAddr none 2 (.t 32) (.t 33))⟩,
    ⟨(some 35), none, (.fieldAddr 1 (.t 34))⟩,
    ⟨(some 36), none, (.load none (.t 35))⟩]) (.cond (.t 36) (.seq (.reg [⟨(some 37), none, (.build [(.slice none 0 (.known 0)), (.slice none 0 (.known 0)), (.slice none 0 (.known 0))] [])⟩,
    ⟨none, none, (.store 3 (.t 6) (.t 37))⟩,
    ⟨(some 7), none, (.mov (.c (.int .i64 4)))⟩]) .ret) .skip)) (.seq (.reg [⟨(some 38), none, (.load (some 3) (.t 4))⟩,
    ⟨(some 39), none, (.call (.f 246) [(.t 38)])⟩,
    ⟨none, none, (.store 3 (.t 4) (.t 39))⟩]) (.seq (.reg [⟨(some 40), none, (.fieldAddr 0 (.t 4))⟩,
    ⟨(some 41), none, (.load none (.t 40))⟩,
    ⟨(some 42), none, (.mov (.t 8))⟩,
    ⟨(some 43), none, (.indexAddr none 2 (.t 41) (.t 42))⟩,
    ⟨(some 44), none, (.fieldAddr 1 (.t 43))⟩,
    ⟨none, none, (.store 1 (.t 44) (.c (.bool true)))⟩]) (.seq (.reg [⟨(some 45), none, (.load (some 3) (.t 4))⟩,
    ⟨none, none, (.store 3 (.t 6) (.t 45))⟩,
    ⟨(some 7), none, (.mov (.c (.int .i64 0)))⟩]) .ret)))))))⟩
/- (*moiety/cube.Cube).now -/
def s157 : SFn := ⟨[.cell 4 (some 3)], (.seq (.reg [⟨(some 4), none, (.new [(.int .i64 0), (.slice none 0 (.known 0)), (.slice none 0 (.known 0))])⟩]) (.seq (.reg [⟨(some 8), none, (.mov (.t 0))⟩,
    ⟨(some 9), none, (.nilCheck (.t 8))⟩,
    ⟨(some 10), none, (.fieldAddr 0 (.t 9))⟩,
    ⟨(some 11), none, (.load none (.t 10))⟩,
    ⟨(some 12), none, (.mov (.t 1))⟩,
    ⟨(some 13), none, (.call (.f 10) [(.t 11), (.t 12)])⟩,
    ⟨(some 7), none, (.mov (.t 13))⟩,
    ⟨(some 14), none, (.extract (.t 7) 0)⟩,
    ⟨(some 15), none, (.extract (.t 7) 1)⟩,
    ⟨(some 5), none, (.new [(.int .i64 0), (.slice none 0 (.known 0)), (.slice none 0 (.known 0))])⟩,
    ⟨none, none, (.store 3 (.t 5) (.t 14))⟩,
    ⟨(some 6), none, (.mov (.t 15))⟩]) (.seq (.reg [⟨(some 16), none, (.load (some 3) (.t 5))⟩,
    ⟨none, none, (.store 3 (.t 4) (.t 16))⟩]) .ret)))⟩
/- (*moiety/cube.Cube).book -/
def s158 : SFn := ⟨[.tmp 2], (.seq (.reg [⟨(some 2), none, (.mov (.c (.ptr none)))⟩]) (.seq (.reg [⟨(some 3), none, (.mov (.t 0))⟩,
    ⟨(some 4), none, (.nilCheck (.t 3))⟩,
    ⟨(some 5), none, (.fieldAddr 0 (.t 4))⟩,
    ⟨(some 6), none, (.load none (.t 5))⟩,
    ⟨(some 7), none, (.call (.f 14) [(.t 6)])⟩,
    ⟨(some 2), none, (.mov (.t 7))⟩]) .ret))⟩
/- (*moiety/cube.Cube).put -/
def s159 : SFn := ⟨[.tmp 8], (.seq (.reg [⟨(some 4), none, (.box (.t 0))⟩,
    ⟨(some 5), none, (.box (.t 1))⟩,
    ⟨(some 6), none, (.box (.t 2))⟩,
    ⟨(some 8), none, (.mov (.c (.int .i64 0)))⟩]) (.seq (.seq (.reg [⟨(some 9), none, (.mov (.t 3))⟩,
    ⟨(some 10), none, (.bin .neq (.t 9) (.c (.int .i64 0)))⟩]) (.cond (.t 10) (.seq (.reg [⟨(some 11), none, (.mov (.t 3))⟩,
    ⟨(some 8), none, (.mov (.t 11))⟩]) .ret) .skip)) (.seq (.reg [⟨(some 12), none, (.load none (.t 4))⟩,
    ⟨(some 13), none, (.load none (.t 5))⟩,
    ⟨(some 14), none, (.makeFunc 254 [] [(.t 4), (.t 5), (.t 6)])⟩,
    ⟨(some 15), none, (.call (.f 78) [(.t 12), (.t 13), (.t 14)])⟩,
    ⟨(some 8), none, (.mov (.t 15))⟩]) .ret)))⟩
/- (*moiety/cube.Cube).follow -/
def s160_l0 : S := (.seq (.reg [⟨(some 23), none, (.bin .lss (.t 22) (.t 21))⟩]) (.seq (.cond (.t 23) .skip (.exit 0)) (.seq (.block 1 (.seq (.reg [⟨(some 24), none, (.indexAddr none 7 (.t 20) (.t 22))⟩,
    ⟨(some 25), none, (.load (some 7) (.t 24))⟩,
    ⟨(some 9), none, (.new [(.int .i64 0), (.int .i64 0), (.int .i64 0), (.int .i64 0), (.int .i64 0), (.int .i64 0), (.int .i64 0)])⟩,
    ⟨none, none, (.store 7 (.t 9) (.t 25))⟩]) (.dreg false [⟨⟨(some 26), none, (.mov (.t 0))⟩, 0, 3⟩,
    ⟨⟨(some 27), none, (.nilCheck (.t 26))⟩, 0, 3⟩,
    ⟨⟨(some 28), none, (.fieldAddr 1 (.t 27))⟩, 0, 3⟩,
    ⟨⟨(some 29), none, (.load none (.t 28))⟩, 0, 3⟩,
    ⟨⟨(some 30), none, (.mov (.t 1))⟩, 0, 3⟩,
    ⟨⟨(some 31), none, (.lookup (.str) (.ptr none) false (.t 29) (.t 30))⟩, 0, 3⟩,
    ⟨⟨(some 32), none, (.mov (.t 0))⟩, 0, 0⟩,
    ⟨⟨(some 33), none, (.call (.f 158) [(.t 32)])⟩, 0, 1⟩,
    ⟨⟨(some 34), none, (.call (.f 41) [(.t 33)])⟩, 1, 2⟩,
    ⟨⟨(some 35), none, (.fieldAddr 0 (.t 9))⟩, 0, 2⟩,
    ⟨⟨(some 36), none, (.load (some 5) (.t 35))⟩, 0, 2⟩,
    ⟨⟨(some 37), none, (.call (.f 91) [(.t 34), (.t 36)])⟩, 2, 3⟩,
    ⟨⟨(some 38), none, (.fieldAddr 6 (.t 9))⟩, 0, 3⟩,
    ⟨⟨(some 39), none, (.load none (.t 38))⟩, 0, 3⟩,
    ⟨⟨(some 40), none, (.call (.f 255) [(.t 31), (.t 37), (.t 39)])⟩, 3, 4⟩]))) (.reg [⟨(some 41), none, (.bin .add (.t 22) (.c (.int .i64 1)))⟩,
    ⟨(some 22), none, (.mov (.t 41))⟩]))))
def s160 : SFn := ⟨[], (.seq (.reg [⟨(some 5), none, (.box (.t 2))⟩]) (.seq (.dreg false [⟨⟨(some 11), none, (.mov (.t 0))⟩, 0, 0⟩,
    ⟨⟨(some 12), none, (.call (.f 158) [(.t 11)])⟩, 0, 1⟩,
    ⟨⟨(some 13), none, (.load (some 3) (.t 5))⟩, 0, 2⟩,
    ⟨⟨(some 14), none, (.mov (.t 0))⟩, 0, 1⟩,
    ⟨⟨(some 15), none, (.mov (.t 1))⟩, 0, 1⟩,
    ⟨⟨(some 16), none, (.call (.f 157) [(.t 14), (.t 15)])⟩, 1, 2⟩,
    ⟨⟨(some 17), none, (.call (.f 89) [(.t 12), (.t 13), (.t 16)])⟩, 2, 3⟩,
    ⟨⟨(some 10), none, (.mov (.t 17))⟩, 3, 3⟩,
    ⟨⟨(some 18), none, (.extract (.t 10) 0)⟩, 3, 3⟩,
    ⟨⟨(some 19), none, (.extract (.t 10) 1)⟩, 3, 3⟩,
    ⟨⟨(some 6), none, (.mov (.t 18))⟩, 3, 3⟩,
    ⟨⟨(some 7), none, (.mov (.t 19))⟩, 3, 3⟩]) (.seq (.reg [⟨(some 20), none, (.mov (.t 6))⟩,
    ⟨(some 21), none, (.len false (.t 20))⟩,
    ⟨(some 22), none, (.mov (.c (.int .i64 0)))⟩]) (.block 0 (.loop s160_l0)))))⟩
/- (*moiety/roll.Roll).Value -/
def s163 : SFn := ⟨[.tmp 4, .tmp 5], (.seq (.reg [⟨(some 3), none, (.box (.t 1))⟩,
    ⟨(some 4), none, (.mov (.c (.int .i64 0)))⟩,
    ⟨(some 5), none, (.mov (.c (.int .i64 0)))⟩]) (.seq (.seq (.reg [⟨(some 7), none, (.mov (.t 0))⟩,
    ⟨(some 8), none, (.eq false .ptr (.t 7) (.c (.ptr none)))⟩]) (.cond (.t 8) (.seq (.reg [⟨(some 4), none, (.mov (.c (.int .i64 0)))⟩,
    ⟨(some 5), none, (.mov (.c (.int .i64 1)))⟩]) .ret) .skip)) (.seq (.dreg false [⟨⟨(some 9), none, (.mov (.t 0))⟩, 0, 0⟩,
    ⟨⟨(some 10), none, (.nilCheck (.t 9))⟩, 0, 0⟩,
    ⟨⟨(some 11), none, (.fieldAddr 0 (.t 10))⟩, 0, 0⟩,
    ⟨⟨(some 12), none, (.load none (.t 11))⟩, 0, 0⟩,
    ⟨⟨(some 13), none, (.load (some 5) (.t 3))⟩, 0, 0⟩,
    ⟨⟨(some 14), none, (.call (.f 130) [(.t 12), (.t 13)])⟩, 0, 1⟩,
    ⟨⟨(some 6), none, (.mov (.t 14))⟩, 1, 1⟩]) (.seq (.seq (.reg [⟨(some 15), none, (.mov (.t 6))⟩,
    ⟨(some 16), none, (.bin .lss (.t 15) (.c (.int .i64 0)))⟩]) (.cond (.t 16) (.seq (.reg [⟨(some 4), none, (.mov (.c (.int .i64 0)))⟩,
    ⟨(some 5), none, (.mov (.c (.int .i64 17)))⟩]) .ret) .skip)) (.seq (.reg [⟨(some 17), none, (.mov (.t 0))⟩,
    ⟨(some 18), none, (.nilCheck (.t 17))⟩,
    ⟨(some 19), none, (.fieldAddr 2 (.t 18))⟩,
    ⟨(some 20), none, (.load none (.t 19))⟩,
    ⟨(some 21), none, (.mov (.t 6))⟩,
    ⟨(some 22), none, (.indexAddr none 2 (.t 20) (.t 21))⟩,
    ⟨(some 23), none, (.load (some 2) (.t 22))⟩,
    ⟨(some 24), none, (.call (.f 144) [(.t 23)])⟩,
    ⟨(some 25), none, (.extract (.t 24) 0)⟩,
    ⟨(some 26), none, (.extract (.t 24) 1)⟩,
    ⟨(some 4), none, (.mov (.t 25))⟩,
    ⟨(some 5), none, (.mov (.t 26))⟩]) .ret)))))⟩
/- moiety/moietylaw22.few -/
def s170_l0 : S := (.seq (.seq (.reg [⟨(some 5), none, (.mov (.t 4))⟩,
    ⟨(some 6), none, (.fieldAddr 0 (.t 1))⟩,
    ⟨(some 7), none, (.load none (.t 6))⟩,
    ⟨(some 8), none, (.len false (.t 7))⟩,
    ⟨(some 9), none, (.bin .lss (.t 5) (.t 8))⟩]) (.cond (.t 9) .skip (.exit 0))) (.seq (.block 1 (.seq (.seq (.reg [⟨(some 12), none, (.fieldAddr 0 (.t 1))⟩,
    ⟨(some 13), none, (.load none (.t 12))⟩,
    ⟨(some 14), none, (.mov (.t 4))⟩,
    ⟨(some 15), none, (.indexAddr none 2 (.t 13) (.t 14))⟩,
    ⟨(some 16), none, (.fieldAddr 1 (.t 15))⟩,
    ⟨(some 17), none, (.load none (.t 16))⟩,
    ⟨(some 18), none, (.len false (.t 17))⟩,
    ⟨(some 19), none, (.bin .gtr (.t 18) (.c (.int .i64 12)))⟩]) (.cond (.t 19) (.seq (.reg [⟨(some 2), none, (.mov (.c (.bool false)))⟩]) .ret) .skip)) (.reg [⟨(some 20), none, (.mov (.t 3))⟩,
    ⟨(some 21), none, (.fieldAddr 0 (.t 1))⟩,
    ⟨(some 22), none, (.load none (.t 21))⟩,
    ⟨(some 23), none, (.mov (.t 4))⟩,
    ⟨(some 24), none, (.indexAddr none 2 (.t 22) (.t 23))⟩,
    ⟨(some 25), none, (.fieldAddr 1 (.t 24))⟩,
    ⟨(some 26), none, (.load none (.t 25))⟩,
    ⟨(some 27), none, (.len false (.t 26))⟩,
    ⟨(some 28), none, (.bin .mul (.t 20) (.t 27))⟩,
    ⟨(some 3), none, (.mov (.t 28))⟩]))) (.reg [⟨(some 10), none, (.mov (.t 4))⟩,
    ⟨(some 11), none, (.bin .add (.t 10) (.c (.int .i64 1)))⟩,
    ⟨(some 4), none, (.mov (.t 11))⟩])))
def s170 : SFn := ⟨[.tmp 2], (.seq (.reg [⟨(some 1), none, (.box (.t 0))⟩,
    ⟨(some 2), none, (.mov (.c (.bool false)))⟩]) (.seq (.reg [⟨(some 3), none, (.mov (.c (.int .i64 1)))⟩]) (.seq (.seq (.reg [⟨(some 4), none, (.mov (.c (.int .i64 0)))⟩]) (.block 0 (.loop s170_l0))) (.seq (.reg [⟨(some 29), none, (.fieldAddr 0 (.t 1))⟩,
    ⟨(some 30), none, (.load none (.t 29))⟩,
    ⟨(some 31), none, (.len false (.t 30))⟩,
    ⟨(some 32), none, (.bin .leq (.t 31) (.c (.int .i64 4)))⟩,
    ⟨(some 33), none, (.mov (.t 32))⟩,
    ⟨(some 34), (some (33, true)), (.fieldAddr 1 (.t 1))⟩,
    ⟨(some 35), (some (33, true)), (.load none (.t 34))⟩,
    ⟨(some 36), (some (33, true)), (.len false (.t 35))⟩,
    ⟨(some 37), (some (33, true)), (.bin .leq (.t 36) (.c (.int .i64 4)))⟩,
    ⟨(some 38), none, (.pick (.t 33) (.t 37) (.c (.bool false)))⟩,
    ⟨(some 39), none, (.mov (.t 38))⟩,
    ⟨(some 40), (some (39, true)), (.mov (.t 3))⟩,
    ⟨(some 41), (some (39, true)), (.bin .leq (.t 40) (.c (.int .i64 150)))⟩,
    ⟨(some 42), none, (.pick (.t 39) (.t 41) (.c (.bool false)))⟩,
    ⟨(some 2), none, (.mov (.t 42))⟩]) .ret))))⟩
/- moiety/cube.New -/
def s171 : SFn := ⟨[.tmp 2, .tmp 3, .tmp 4], (.seq (.reg [⟨(some 1), none, (.box (.t 0))⟩,
    ⟨(some 2), none, (.mov (.c (.ptr none)))⟩,
    ⟨(some 3), none, (.mov (.c (.int .i64 0)))⟩,
    ⟨(some 4), none, (.mov (.c (.int .i64 0)))⟩]) (.seq (.reg [⟨(some 11), none, (.load (some 4) (.t 1))⟩,
    ⟨(some 12), none, (.call (.f 127) [(.t 11)])⟩,
    ⟨(some 10), none, (.mov (.t 12))⟩,
    ⟨(some 13), none, (.extract (.t 10) 0)⟩,
    ⟨(some 14), none, (.extract (.t 10) 1)⟩,
    ⟨(some 15), none, (.extract (.t 10) 2)⟩,
    ⟨(some 5), none, (.mov (.t 13))⟩,
    ⟨(some 6), none, (.mov (.t 14))⟩,
    ⟨(some 7), none, (.mov (.t 15))⟩]) (.seq (.seq (.reg [⟨(some 16), none, (.mov (.t 7))⟩,
    ⟨(some 17), none, (.bin .neq (.t 16) (.c (.int .i64 0)))⟩]) (.cond (.t 17) (.seq (.reg [⟨(some 18), none, (.mov (.t 6))⟩,
    ⟨(some 19), none, (.mov (.t 7))⟩,
    ⟨(some 2), none, (.mov (.c (.ptr none)))⟩,
    ⟨(some 3), none, (.mov (.t 18))⟩,
    ⟨(some 4), none, (.mov (.t 19))⟩]) .ret) .skip)) (.seq (.reg [⟨(some 21), none, (.mov (.t 5))⟩,
    ⟨(some 22), none, (.call (.f 13) [(.t 21), (.c (.int .i64 20000))])⟩,
    ⟨(some 20), none, (.mov (.t 22))⟩,
    ⟨(some 23), none, (.extract (.t 20) 0)⟩,
    ⟨(some 24), none, (.extract (.t 20) 1)⟩,
    ⟨(some 8), none, (.mov (.t 23))⟩,
    ⟨(some 7), none, (.mov (.t 24))⟩]) (.seq (.seq (.reg [⟨(some 25), none, (.mov (.t 7))⟩,
    ⟨(some 26), none, (.bin .neq (.t 25) (.c (.int .i64 0)))⟩]) (.cond (.t 26) (.seq (.reg [⟨(some 27), none, (.mov (.t 7))⟩,
    ⟨(some 2), none, (.mov (.c (.ptr none)))⟩,
    ⟨(some 3), none, (.mov (.c (.int .i64 (-1))))⟩,
    ⟨(some 4), none, (.mov (.t 27))⟩]) .ret) .skip)) (.seq (.reg [⟨(some 29), none, (.mov (.t 8))⟩,
    ⟨(some 30), none, (.call (.f 262) [(.t 29)])⟩,
    ⟨(some 28), none, (.mov (.t 30))⟩,
    ⟨(some 31), none, (.extract (.t 28) 0)⟩,
    ⟨(some 32), none, (.extract (.t 28) 1)⟩,
    ⟨(some 9), none, (.mov (.t 31))⟩,
    ⟨(some 7), none, (.mov (.t 32))⟩]) (.seq (.seq (.reg [⟨(some 33), none, (.mov (.t 7))⟩,
    ⟨(some 34), none, (.bin .neq (.t 33) (.c (.int .i64 0)))⟩]) (.cond (.t 34) (.seq (.reg [⟨(some 35), none, (.mov (.t 7))⟩,
    ⟨(some 2), none, (.mov (.c (.ptr none)))⟩,
    ⟨(some 3), none, (.mov (.c (.int .i64 (-1))))⟩,
    ⟨(some 4), none, (.mov (.t 35))⟩]) .ret) .skip)) (.seq (.reg [⟨(some 36), none, (.mov (.t 9))⟩,
    ⟨(some 2), none, (.mov (.t 36))⟩,
    ⟨(some 3), none, (.mov (.c (.int .i64 0)))⟩,
    ⟨(some 4), none, (.mov (.c (.int .i64 0)))⟩]) .ret))))))))⟩
/- moiety/moietyref22.New -/
def s172 : SFn := ⟨[.tmp 2, .tmp 3, .tmp 4], (.seq (.reg [⟨(some 1), none, (.box (.t 0))⟩,
    ⟨(some 2), none, (.mov (.c (.ptr none)))⟩,
    ⟨(some 3), none, (.mov (.c (.int .i64 0)))⟩,
    ⟨(some 4), none, (.mov (.c (.int .i64 0)))⟩]) (.seq (.reg [⟨(some 9), none, (.load (some 4) (.t 1))⟩,
    ⟨(some 10), none, (.call (.f 128) [(.t 9)])⟩,
    ⟨(some 8), none, (.mov (.t 10))⟩,
    ⟨(some 11), none, (.extract (.t 8) 0)⟩,
    ⟨(some 12), none, (.extract (.t 8) 1)⟩,
    ⟨(some 13), none, (.extract (.t 8) 2)⟩,
    ⟨(some 5), none, (.mov (.t 11))⟩,
    ⟨(some 6), none, (.mov (.t 12))⟩,
    ⟨(some 7), none, (.mov (.t 13))⟩]) (.seq (.seq (.reg [⟨(some 14), none, (.mov (.t 7))⟩,
    ⟨(some 15), none, (.bin .neq (.t 14) (.c (.int .i64 0)))⟩]) (.cond (.t 15) (.seq (.reg [⟨(some 16), none, (.mov (.t 6))⟩,
    ⟨(some 17), none, (.mov (.t 7))⟩,
    ⟨(some 2), none, (.mov (.c (.ptr none)))⟩,
    ⟨(some 3), none, (.mov (.t 16))⟩,
    ⟨(some 4), none, (.mov (.t 17))⟩]) .ret) .skip)) (.seq (.reg [⟨(some 18), none, (.mov (.t 5))⟩,
    ⟨(some 19), none, (.build [(.ptr none), (.slice none 0 (.known 0)), (.slice none 0 (.known 0)), (.slice none 0 (.known 0)), (.slice none 0 (.known 0)), (.slice none 0 (.known 0))] [(0, 1, (.t 18))])⟩,
    ⟨(some 20), none, (.box (.t 19))⟩,
    ⟨(some 21), none, (.call (.f 129) [(.t 20)])⟩,
    ⟨(some 2), none, (.mov (.t 21))⟩,
    ⟨(some 3), none, (.mov (.c (.int .i64 0)))⟩,
    ⟨(some 4), none, (.mov (.c (.int .i64 0)))⟩]) .ret))))⟩
/- (*moiety/pages.Pages).Differ -/
def s173 : SFn := ⟨[.tmp 6, .tmp 7], (.seq (.reg [⟨(some 3), none, (.box (.t 0))⟩,
    ⟨(some 6), none, (.mov (.c (.slice none 0 (.known 0))))⟩,
    ⟨(some 7), none, (.mov (.c (.int .i64 0)))⟩]) (.seq (.seq (.reg [⟨(some 10), none, (.load none (.t 3))⟩,
    ⟨(some 11), none, (.eq false .ptr (.t 10) (.c (.ptr none)))⟩]) (.cond (.t 11) (.seq (.reg [⟨(some 6), none, (.mov (.c (.slice none 0 (.known 0))))⟩,
    ⟨(some 7), none, (.mov (.c (.int .i64 1)))⟩]) .ret) .skip)) (.seq (.reg [⟨(some 8), none, (.new [(.slice none 0 (.known 0))])⟩]) (.seq (.reg [⟨(some 9), none, (.new [.nilFunc])⟩]) (.seq (.reg [⟨(some 12), none, (.makeFunc 263 [] [(.t 3), (.t 8), (.t 9)])⟩,
    ⟨none, none, (.store 1 (.t 9) (.t 12))⟩]) (.seq (.dreg false [⟨⟨(some 13), none, (.load none (.t 9))⟩, 0, 0⟩,
    ⟨⟨(some 14), none, (.mov (.t 1))⟩, 0, 0⟩,
    ⟨⟨(some 15), none, (.mov (.t 2))⟩, 0, 0⟩,
    ⟨⟨(some 16), none, (.load none (.t 3))⟩, 0, 0⟩,
    ⟨⟨(some 17), none, (.nilCheck (.t 16))⟩, 0, 0⟩,
    ⟨⟨(some 18), none, (.fieldAddr 3 (.t 17))⟩, 0, 0⟩,
    ⟨⟨(some 19), none, (.load none (.t 18))⟩, 0, 0⟩,
    ⟨⟨(some 20), none, (.call (.t 13) [(.t 14), (.t 15), (.c (.int .i64 0)), (.t 19)])⟩, 0, 1⟩]) (.seq (.reg [⟨(some 21), none, (.load none (.t 8))⟩,
    ⟨(some 6), none, (.mov (.t 21))⟩,
    ⟨(some 7), none, (.mov (.c (.int .i64 0)))⟩]) .ret)))))))⟩
/- (*moiety/coord.Space).Leaf -/
def s174_l0 : S := (.seq (.reg [⟨(some 37), none, (.bin .lss (.t 36) (.t 35))⟩]) (.seq (.cond (.t 37) .skip (.exit 0)) (.seq (.block 1 (.seq (.reg [⟨(some 38), none, (.mov (.t 36))⟩,
    ⟨(some 39), none, (.indexAddr none 1 (.t 34) (.t 36))⟩,
    ⟨(some 40), none, (.load none (.t 39))⟩,
    ⟨(some 10), none, (.mov (.t 38))⟩,
    ⟨(some 11), none, (.mov (.t 40))⟩]) (.reg [⟨(some 41), none, (.mov (.t 10))⟩,
    ⟨(some 42), none, (.mov (.t 11))⟩,
    ⟨(some 43), none, (.mov (.t 10))⟩,
    ⟨(some 44), none, (.indexAddr (some 4) 1 (.t 7) (.t 43))⟩,
    ⟨(some 45), none, (.load none (.t 44))⟩,
    ⟨(some 46), none, (.indexAddr none 1 (.t 42) (.t 45))⟩,
    ⟨(some 47), none, (.load none (.t 46))⟩,
    ⟨(some 48), none, (.fieldAddr 1 (.t 9))⟩,
    ⟨(some 49), none, (.indexAddr (some 4) 1 (.t 48) (.t 41))⟩,
    ⟨none, none, (.store 1 (.t 49) (.t 47))⟩]))) (.reg [⟨(some 50), none, (.bin .add (.t 36) (.c (.int .i64 1)))⟩,
    ⟨(some 36), none, (.mov (.t 50))⟩]))))
def s174 : SFn := ⟨[.cell 4 (some 5), .tmp 5], (.seq (.reg [⟨(some 4), none, (.new [(.int .i64 0), (.int .i64 0), (.int .i64 0), (.int .i64 0), (.int .i64 0)])⟩,
    ⟨(some 5), none, (.mov (.c (.bool false)))⟩]) (.seq (.seq (.reg [⟨(some 12), none, (.mov (.t 0))⟩,
    ⟨(some 13), none, (.eq false .ptr (.t 12) (.c (.ptr none)))⟩]) (.cond (.t 13) (.seq (.reg [⟨(some 14), none, (.build [(.int .i64 0), (.int .i64 0), (.int .i64 0), (.int .i64 0), (.int .i64 0)] [])⟩,
    ⟨none, none, (.store 5 (.t 4) (.t 14))⟩,
    ⟨(some 5), none, (.mov (.c (.bool false)))⟩]) .ret) .skip)) (.seq (.reg [⟨(some 16), none, (.mov (.t 0))⟩,
    ⟨(some 17), none, (.mov (.t 1))⟩,
    ⟨(some 18), none, (.mov (.t 0))⟩,
    ⟨(some 19), none, (.nilCheck (.t 18))⟩,
    ⟨(some 20), none, (.fieldAddr 8 (.t 19))⟩,
    ⟨(some 21), none, (.load (some 4) (.t 20))⟩,
    ⟨(some 22), none, (.call (.f 239) [(.t 16), (.t 17), (.t 21)])⟩,
    ⟨(some 15), none, (.mov (.t 22))⟩,
    ⟨(some 23), none, (.extract (.t 15) 0)⟩,
    ⟨(some 24), none, (.extract (.t 15) 1)⟩,
    ⟨(some 25), none, (.extract (.t 15) 2)⟩,
    ⟨(some 7), none, (.new [(.int .i64 0), (.int .i64 0), (.int .i64 0), (.int .i64 0)])⟩,
    ⟨(some 6), none, (.mov (.t 23))⟩,
    ⟨none, none, (.store 4 (.t 7) (.t 24))⟩,
    ⟨(some 8), none, (.mov (.t 25))⟩]) (.seq (.seq (.reg [⟨(some 26), none, (.mov (.t 8))⟩,
    ⟨(some 27), none, (.un .not (.t 26))⟩]) (.cond (.t 27) (.seq (.reg [⟨(some 28), none, (.build [(.int .i64 0), (.int .i64 0), (.int .i64 0), (.int .i64 0), (.int .i64 0)] [])⟩,
    ⟨none, none, (.store 5 (.t 4) (.t 28))⟩,
    ⟨(some 5), none, (.mov (.c (.bool false)))⟩]) .ret) .skip)) (.seq (.reg [⟨(some 29), none, (.mov (.t 6))⟩,
    ⟨(some 30), none, (.build [(.int .i64 0), (.int .i64 0), (.int .i64 0), (.int .i64 0), (.int .i64 0)] [(0, 1, (.t 29))])⟩,
    ⟨(some 9), none, (.new [(.int .i64 0), (.int .i64 0), (.int .i64 0), (.int .i64 0), (.int .i64 0)])⟩,
    ⟨none, none, (.store 5 (.t 9) (.t 30))⟩]) (.seq (.seq (.reg [⟨(some 31), none, (.mov (.t 0))⟩,
    ⟨(some 32), none, (.nilCheck (.t 31))⟩,
    ⟨(some 33), none, (.fieldAddr 3 (.t 32))⟩,
    ⟨(some 34), none, (.load none (.t 33))⟩,
    ⟨(some 35), none, (.len false (.t 34))⟩,
    ⟨(some 36), none, (.mov (.c (.int .i64 0)))⟩]) (.block 0 (.loop s174_l0))) (.seq (.reg [⟨(some 51), none, (.load (some 5) (.t 9))⟩,
    ⟨none, none, (.store 5 (.t 4) (.t 51))⟩,
    ⟨(some 5), none, (.mov (.c (.bool true)))⟩]) .ret)))))))⟩
/- moiety/diff.value -/
def s175 : SFn := ⟨[.tmp 6], (.seq (.reg [⟨(some 4), none, (.box (.t 1))⟩,
    ⟨(some 6), none, (.mov (.c (.int .i64 0)))⟩]) (.seq (.dreg false [⟨⟨(some 10), none, (.mov (.t 0))⟩, 0, 0⟩,
    ⟨⟨(some 11), none, (.call (.f 70) [(.t 10)])⟩, 0, 1⟩,
    ⟨⟨(some 12), none, (.call (.f 92) [(.t 11)])⟩, 1, 2⟩,
    ⟨⟨(some 13), none, (.fieldAddr 0 (.t 4))⟩, 0, 2⟩,
    ⟨⟨(some 14), none, (.load none (.t 13))⟩, 0, 2⟩,
    ⟨⟨(some 15), none, (.mov (.t 2))⟩, 0, 2⟩,
    ⟨⟨(some 16), none, (.call (.f 93) [(.t 12), (.t 14), (.t 15)])⟩, 2, 3⟩,
    ⟨⟨(some 9), none, (.mov (.t 16))⟩, 3, 3⟩,
    ⟨⟨(some 17), none, (.extract (.t 9) 0)⟩, 3, 3⟩,
    ⟨⟨(some 18), none, (.extract (.t 9) 1)⟩, 3, 4⟩,
    ⟨⟨(some 7), none, (.new [(.int .i64 0), (.bool false)])⟩, 0, 3⟩,
    ⟨⟨none, none, (.store 2 (.t 7) (.t 17))⟩, 3, 4⟩,
    ⟨⟨(some 8), none, (.mov (.t 18))⟩, 4, 4⟩]) (.seq (.reg [⟨(some 19), none, (.fieldAddr 0 (.t 7))⟩,
    ⟨(some 20), none, (.load none (.t 19))⟩,
    ⟨(some 6), none, (.mov (.t 20))⟩]) .ret)))⟩
/- (*moiety/state.Book).Barred$1 -/
def s176 : SFn := ⟨[.tmp 2], (.seq (.reg [⟨(some 1), none, (.box (.t 0))⟩,
    ⟨(some 2), none, (.mov (.c (.bool false)))⟩]) (.seq (.reg [⟨(some 3), none, (.fieldAddr 1 (.t 1))⟩,
    ⟨(some 4), none, (.load none (.t 3))⟩,
    ⟨(some 2), none, (.mov (.t 4))⟩]) .ret))⟩
/- (moiety/hold.Holds).Region -/
def s177_l0 : S := (.seq (.reg [⟨(some 12), none, (.bin .lss (.t 11) (.t 10))⟩]) (.seq (.cond (.t 12) .skip (.exit 0)) (.seq (.block 1 (.seq (.reg [⟨(some 13), none, (.indexAddr none 5 (.t 9) (.t 11))⟩,
    ⟨(some 14), none, (.load (some 5) (.t 13))⟩,
    ⟨(some 7), none, (.new [(.int .i64 0), (.int .i64 0), (.int .i64 0), (.int .i64 0), (.int .i64 0)])⟩,
    ⟨none, none, (.store 5 (.t 7) (.t 14))⟩]) (.reg [⟨(some 15), none, (.mov (.t 5))⟩,
    ⟨(some 16), none, (.mov (.t 1))⟩,
    ⟨(some 17), none, (.load (some 5) (.t 7))⟩,
    ⟨(some 18), none, (.call (.f 100) [(.t 16), (.t 17)])⟩,
    ⟨(some 19), none, (.call (.f 98) [(.t 18)])⟩,
    ⟨(some 20), none, (.buildSlice 1 [(.slice none 0 (.known 0))] [(0, 1, (.t 19))])⟩,
    ⟨(some 21), none, (.append 1 24 (.t 15) (.t 20))⟩,
    ⟨(some 5), none, (.mov (.t 21))⟩]))) (.reg [⟨(some 22), none, (.bin .add (.t 11) (.c (.int .i64 1)))⟩,
    ⟨(some 11), none, (.mov (.t 22))⟩]))))
def s177 : SFn := ⟨[.cell 4 (some 1)], (.seq (.reg [⟨(some 2), none, (.box (.t 0))⟩,
    ⟨(some 4), none, (.new [(.slice none 0 (.known 0))])⟩]) (.seq (.reg [⟨(some 5), none, (.mov (.c (.slice none 0 (.known 0))))⟩]) (.seq (.seq (.reg [⟨(some 8), none, (.fieldAddr 0 (.t 2))⟩,
    ⟨(some 9), none, (.load none (.t 8))⟩,
    ⟨(some 10), none, (.len false (.t 9))⟩,
    ⟨(some 11), none, (.mov (.c (.int .i64 0)))⟩]) (.block 0 (.loop s177_l0))) (.seq (.reg [⟨(some 23), none, (.build [(.slice none 0 (.known 0))] [])⟩,
    ⟨(some 24), none, (.mov (.t 5))⟩,
    ⟨(some 25), none, (.call (.f 101) [(.t 23), (.t 24)])⟩,
    ⟨none, none, (.store 1 (.t 4) (.t 25))⟩]) .ret))))⟩
/- (*moiety/dims.Dims).Leaf -/
def s178_l0 : S := (.seq (.reg [⟨(some 17), none, (.bin .lss (.t 16) (.t 15))⟩]) (.seq (.cond (.t 17) .skip (.exit 0)) (.seq (.block 1 (.seq (.reg [⟨(some 18), none, (.mov (.t 16))⟩,
    ⟨(some 19), none, (.indexAddr none 2 (.t 14) (.t 16))⟩,
    ⟨(some 20), none, (.load (some 2) (.t 19))⟩,
    ⟨(some 6), none, (.new [(.ptr none), (.str ⟨#[]⟩)])⟩,
    ⟨(some 5), none, (.mov (.t 18))⟩,
    ⟨none, none, (.store 2 (.t 6) (.t 20))⟩]) (.seq (.dreg false [⟨⟨(some 21), none, (.fieldAddr 0 (.t 6))⟩, 0, 0⟩,
    ⟨⟨(some 22), none, (.load none (.t 21))⟩, 0, 0⟩,
    ⟨⟨(some 23), none, (.mov (.t 5))⟩, 0, 0⟩,
    ⟨⟨(some 24), none, (.fieldAddr 1 (.t 3))⟩, 0, 0⟩,
    ⟨⟨(some 25), none, (.indexAddr (some 4) 1 (.t 24) (.t 23))⟩, 0, 0⟩,
    ⟨⟨(some 26), none, (.load none (.t 25))⟩, 0, 0⟩,
    ⟨⟨(some 27), none, (.call (.f 264) [(.t 22), (.t 26)])⟩, 0, 1⟩,
    ⟨⟨(some 28), none, (.un .not (.t 27))⟩, 1, 1⟩]) (.cond (.t 28) (.seq (.reg [⟨(some 4), none, (.mov (.c (.bool false)))⟩]) .ret) .skip)))) (.reg [⟨(some 29), none, (.bin .add (.t 16) (.c (.int .i64 1)))⟩,
    ⟨(some 16), none, (.mov (.t 29))⟩]))))
def s178 : SFn := ⟨[.tmp 4], (.seq (.reg [⟨(some 3), none, (.box (.t 1))⟩,
    ⟨(some 4), none, (.mov (.c (.bool false)))⟩]) (.seq (.seq (.reg [⟨(some 7), none, (.mov (.t 0))⟩,
    ⟨(some 8), none, (.load (some 5) (.t 3))⟩,
    ⟨(some 9), none, (.call (.f 189) [(.t 7), (.t 8)])⟩,
    ⟨(some 10), none, (.un .not (.t 9))⟩]) (.cond (.t 10) (.seq (.reg [⟨(some 4), none, (.mov (.c (.bool false)))⟩]) .ret) .skip)) (.seq (.seq (.reg [⟨(some 11), none, (.mov (.t 0))⟩,
    ⟨(some 12), none, (.nilCheck (.t 11))⟩,
    ⟨(some 13), none, (.fieldAddr 4 (.t 12))⟩,
    ⟨(some 14), none, (.load none (.t 13))⟩,
    ⟨(some 15), none, (.len false (.t 14))⟩,
    ⟨(some 16), none, (.mov (.c (.int .i64 0)))⟩]) (.block 0 (.loop s178_l0))) (.seq (.reg [⟨(some 4), none, (.mov (.c (.bool true)))⟩]) .ret))))⟩
/- (*moiety/tree.Tree).Rank -/
def s179 : SFn := ⟨[.tmp 4], (.seq (.reg [⟨(some 4), none, (.mov (.c (.int .i64 0)))⟩]) (.seq (.seq (.reg [⟨(some 5), none, (.mov (.t 0))⟩,
    ⟨(some 6), none, (.mov (.t 1))⟩,
    ⟨(some 7), none, (.call (.f 264) [(.t 5), (.t 6)])⟩,
    ⟨(some 8), none, (.un .not (.t 7))⟩]) (.cond (.t 8) (.seq (.reg [⟨(some 4), none, (.mov (.c (.int .i64 (-1))))⟩]) .ret) .skip)) (.seq (.reg [⟨(some 9), none, (.mov (.t 0))⟩,
    ⟨(some 10), none, (.nilCheck (.t 9))⟩,
    ⟨(some 11), none, (.fieldAddr 5 (.t 10))⟩,
    ⟨(some 12), none, (.load none (.t 11))⟩,
    ⟨(some 13), none, (.mov (.t 1))⟩,
    ⟨(some 14), none, (.indexAddr none 2 (.t 12) (.t 13))⟩,
    ⟨(some 15), none, (.fieldAddr 0 (.t 14))⟩,
    ⟨(some 16), none, (.load none (.t 15))⟩,
    ⟨(some 4), none, (.mov (.t 16))⟩]) .ret)))⟩
/- (*moiety/coord.Space).pack -/
def s180_l0 : S := (.seq (.reg [⟨(some 18), none, (.bin .lss (.t 17) (.t 16))⟩]) (.seq (.cond (.t 18) .skip (.exit 0)) (.seq (.block 1 (.seq (.reg [⟨(some 19), none, (.mov (.t 17))⟩,
    ⟨(some 10), none, (.mov (.t 19))⟩]) (.dreg false [⟨⟨(some 20), none, (.mov (.t 9))⟩, 0, 0⟩,
    ⟨⟨(some 21), none, (.mov (.t 10))⟩, 0, 0⟩,
    ⟨⟨(some 22), none, (.indexAddr (some 4) 1 (.t 7) (.t 21))⟩, 0, 0⟩,
    ⟨⟨(some 23), none, (.load none (.t 22))⟩, 0, 0⟩,
    ⟨⟨(some 24), none, (.bin .mul (.t 20) (.t 23))⟩, 0, 0⟩,
    ⟨⟨(some 25), none, (.mov (.t 10))⟩, 0, 0⟩,
    ⟨⟨(some 26), none, (.indexAddr (some 4) 1 (.t 6) (.t 25))⟩, 0, 0⟩,
    ⟨⟨(some 27), none, (.load none (.t 26))⟩, 0, 0⟩,
    ⟨⟨(some 28), none, (.bin .add (.t 24) (.t 27))⟩, 0, 0⟩,
    ⟨⟨(some 9), none, (.mov (.t 28))⟩, 0, 0⟩]))) (.reg [⟨(some 29), none, (.bin .add (.t 17) (.c (.int .i64 1)))⟩,
    ⟨(some 17), none, (.mov (.t 29))⟩]))))
def s180 : SFn := ⟨[.tmp 8], (.seq (.reg [⟨(some 6), none, (.box (.t 2))⟩,
    ⟨(some 7), none, (.box (.t 3))⟩,
    ⟨(some 8), none, (.mov (.c (.int .i64 0)))⟩]) (.seq (.reg [⟨(some 11), none, (.mov (.t 1))⟩,
    ⟨(some 9), none, (.mov (.t 11))⟩]) (.seq (.seq (.reg [⟨(some 12), none, (.mov (.t 0))⟩,
    ⟨(some 13), none, (.nilCheck (.t 12))⟩,
    ⟨(some 14), none, (.fieldAddr 2 (.t 13))⟩,
    ⟨(some 15), none, (.load none (.t 14))⟩,
    ⟨(some 16), none, (.len false (.t 15))⟩,
    ⟨(some 17), none, (.mov (.c (.int .i64 0)))⟩]) (.block 0 (.loop s180_l0))) (.seq (.reg [⟨(some 30), none, (.mov (.t 9))⟩,
    ⟨(some 8), none, (.mov (.t 30))⟩]) .ret))))⟩
/- (*moiety/pages.Pages).may -/
def s181 : SFn := ⟨[.tmp 4], (.seq (.reg [⟨(some 4), none, (.mov (.c (.int .i64 0)))⟩]) (.seq (.block 0 (.seq (.reg [⟨(some 6), none, (.mov (.t 0))⟩,
    ⟨(some 7), none, (.eq false .ptr (.t 6) (.c (.ptr none)))⟩,
    ⟨(some 5), none, (.mov (.t 7))⟩]) (.cond (.t 5) (.seq (.reg [⟨(some 4), none, (.mov (.c (.int .i64 1)))⟩]) .ret) (.seq (.reg [⟨(some 9), none, (.mov (.t 1))⟩,
    ⟨(some 10), none, (.bin .lss (.t 9) (.c (.int .i64 0)))⟩,
    ⟨(some 11), none, (.mov (.t 10))⟩,
    ⟨(some 12), (some (11, false)), (.mov (.t 1))⟩,
    ⟨(some 13), (some (11, false)), (.mov (.t 0))⟩,
    ⟨(some 14), (some (11, false)), (.nilCheck (.t 13))⟩,
    ⟨(some 15), (some (11, false)), (.fieldAddr 1 (.t 14))⟩,
    ⟨(some 16), (some (11, false)), (.load none (.t 15))⟩,
    ⟨(some 17), (some (11, false)), (.bin .geq (.t 12) (.t 16))⟩,
    ⟨(some 18), none, (.pick (.t 11) (.c (.bool true)) (.t 17))⟩,
    ⟨(some 8), none, (.mov (.t 18))⟩]) (.cond (.t 8) (.seq (.reg [⟨(some 4), none, (.mov (.c (.int .i64 17)))⟩]) .ret) .skip))))) (.seq (.reg [⟨(some 4), none, (.mov (.c (.int .i64 0)))⟩]) .ret)))⟩
/- (*moiety/pages.Pages).node -/
def s182 : SFn := ⟨[.cell 6 (some 25)], (.seq (.reg [⟨(some 6), none, (.new [(.bool false), (.int .i64 0), (.int .i64 0), (.int .i64 0), (.int .i64 0), (.int .i64 0), (.int .i64 0), (.int .i64 0), (.int .i64 0), (.int .i64 0), (.bool false), (.int .i64 0), (.bool false), (.int .i64 0), (.bool false), (.int .i64 0), (.bool false), (.int .i64 0), (.bool false), (.int .i64 0), (.bool false), (.int .i64 0), (.bool false), (.int .i64 0), (.bool false)])⟩]) (.seq (.reg [⟨(some 10), none, (.mov (.t 0))⟩,
    ⟨(some 11), none, (.nilCheck (.t 10))⟩,
    ⟨(some 12), none, (.fieldAddr 0 (.t 11))⟩,
    ⟨(some 13), none, (.load none (.t 12))⟩,
    ⟨(some 14), none, (.mov (.t 1))⟩,
    ⟨(some 15), none, (.call (.f 265) [(.t 13), (.t 14)])⟩,
    ⟨(some 9), none, (.mov (.t 15))⟩,
    ⟨(some 16), none, (.extract (.t 9) 0)⟩,
    ⟨(some 17), none, (.extract (.t 9) 1)⟩,
    ⟨(some 7), none, (.new [(.bool false), (.int .i64 0), (.int .i64 0), (.int .i64 0), (.int .i64 0), (.int .i64 0), (.int .i64 0), (.int .i64 0), (.int .i64 0), (.int .i64 0), (.bool false), (.int .i64 0), (.bool false), (.int .i64 0), (.bool false), (.int .i64 0), (.bool false), (.int .i64 0), (.bool false), (.int .i64 0), (.bool false), (.int .i64 0), (.bool false), (.int .i64 0), (.bool false)])⟩,
    ⟨none, none, (.store 25 (.t 7) (.t 16))⟩,
    ⟨(some 8), none, (.mov (.t 17))⟩]) (.seq (.seq (.reg [⟨(some 18), none, (.mov (.t 8))⟩,
    ⟨(some 19), none, (.bin .neq (.t 18) (.c (.int .i64 0)))⟩,
    ⟨(some 20), none, (.mov (.t 19))⟩,
    ⟨(some 21), (some (20, false)), (.fieldAddr 0 (.t 7))⟩,
    ⟨(some 22), (some (20, false)), (.load none (.t 21))⟩,
    ⟨(some 23), (some (20, false)), (.mov (.t 2))⟩,
    ⟨(some 24), (some (20, false)), (.eq true .bool (.t 22) (.t 23))⟩,
    ⟨(some 25), none, (.pick (.t 20) (.c (.bool true)) (.t 24))⟩]) (.cond (.t 25) (.seq (.reg [⟨(some 26), none, (.mov (.t 2))⟩,
    ⟨(some 27), none, (.build [(.bool false), (.int .i64 0), (.int .i64 0), (.int .i64 0), (.int .i64 0), (.int .i64 0), (.int .i64 0), (.int .i64 0), (.int .i64 0), (.int .i64 0), (.bool false), (.int .i64 0), (.bool false), (.int .i64 0), (.bool false), (.int .i64 0), (.bool false), (.int .i64 0), (.bool false), (.int .i64 0), (.bool false), (.int .i64 0), (.bool false), (.int .i64 0), (.bool false)] [(0, 1, (.t 26))])⟩,
    ⟨none, none, (.store 25 (.t 6) (.t 27))⟩]) .ret) .skip)) (.seq (.reg [⟨(some 28), none, (.load (some 25) (.t 7))⟩,
    ⟨none, none, (.store 25 (.t 6) (.t 28))⟩]) .ret))))⟩
/- slices.ContainsFunc[[]moiety/region.run,moiety/region.run] -/
def s183 : SFn := ⟨[.tmp 4], (.seq (.reg [⟨(some 4), none, (.mov (.c (.bool false)))⟩]) (.seq (.reg [⟨(some 5), none, (.mov (.t 0))⟩,
    ⟨(some 6), none, (.mov (.t 1))⟩,
    ⟨(some 7), none, (.call (.f 266) [(.t 5), (.t 6)])⟩,
    ⟨(some 8), none, (.bin .geq (.t 7) (.c (.int .i64 0)))⟩,
    ⟨(some 4), none, (.mov (.t 8))⟩]) .ret))⟩
/- slices.SortFunc[[]moiety/region.run,moiety/region.run] -/
def s185 : SFn := ⟨[], (.seq (.reg [⟨(some 5), none, (.mov (.t 0))⟩,
    ⟨(some 6), none, (.len false (.t 5))⟩,
    ⟨(some 4), none, (.mov (.t 6))⟩]) (.reg [⟨(some 7), none, (.mov (.t 0))⟩,
    ⟨(some 8), none, (.mov (.t 4))⟩,
    ⟨(some 9), none, (.mov (.t 4))⟩,
    ⟨(some 10), none, (.convInt .u64 (.t 9))⟩,
    ⟨(some 11), none, (.call (.f 214) [(.t 10)])⟩,
    ⟨(some 12), none, (.mov (.t 1))⟩,
    ⟨(some 13), none, (.call (.f 267) [(.t 7), (.c (.int .i64 0)), (.t 8), (.t 11), (.t 12)])⟩]))⟩
/- moiety/region.ordered$1 -/
def s186 : SFn := ⟨[.tmp 4], (.seq (.reg [⟨(some 2), none, (.box (.t 0))⟩,
    ⟨(some 3), none, (.box (.t 1))⟩,
    ⟨(some 4), none, (.mov (.c (.int .i64 0)))⟩]) (.seq (.dreg false [⟨⟨(some 5), none, (.fieldAddr 0 (.t 2))⟩, 0, 0⟩,
    ⟨⟨(some 6), none, (.load none (.t 5))⟩, 0, 0⟩,
    ⟨⟨(some 7), none, (.fieldAddr 0 (.t 3))⟩, 0, 0⟩,
    ⟨⟨(some 8), none, (.load none (.t 7))⟩, 0, 0⟩,
    ⟨⟨(some 9), none, (.call (.f 188) [(.t 6), (.t 8)])⟩, 0, 1⟩,
    ⟨⟨(some 10), none, (.fieldAddr 1 (.t 2))⟩, 0, 1⟩,
    ⟨⟨(some 11), none, (.load none (.t 10))⟩, 0, 1⟩,
    ⟨⟨(some 12), none, (.fieldAddr 1 (.t 3))⟩, 0, 1⟩,
    ⟨⟨(some 13), none, (.load none (.t 12))⟩, 0, 1⟩,
    ⟨⟨(some 14), none, (.call (.f 188) [(.t 11), (.t 13)])⟩, 1, 2⟩,
    ⟨⟨(some 15), none, (.buildSlice 2 [(.int .i64 0), (.int .i64 0)] [(0, 1, (.t 9)), (1, 1, (.t 14))])⟩, 2, 3⟩,
    ⟨⟨(some 16), none, (.call (.f 187) [(.t 15)])⟩, 3, 4⟩,
    ⟨⟨(some 4), none, (.mov (.t 16))⟩, 4, 4⟩]) .ret))⟩
/- cmp.Or[int] -/
def s187_l0 : S := (.seq (.reg [⟨(some 9), none, (.bin .lss (.t 8) (.t 7))⟩]) (.seq (.cond (.t 9) .skip (.exit 0)) (.seq (.block 1 (.seq (.reg [⟨(some 10), none, (.indexAddr none 1 (.t 6) (.t 8))⟩,
    ⟨(some 11), none, (.load none (.t 10))⟩,
    ⟨(some 5), none, (.mov (.t 11))⟩]) (.seq (.reg [⟨(some 12), none, (.mov (.t 5))⟩,
    ⟨(some 13), none, (.mov (.t 3))⟩,
    ⟨(some 14), none, (.bin .neq (.t 12) (.t 13))⟩]) (.cond (.t 14) (.seq (.reg [⟨(some 15), none, (.mov (.t 5))⟩,
    ⟨(some 2), none, (.mov (.t 15))⟩]) .ret) .skip)))) (.reg [⟨(some 16), none, (.bin .add (.t 8) (.c (.int .i64 1)))⟩,
    ⟨(some 8), none, (.mov (.t 16))⟩]))))
def s187 : SFn := ⟨[.tmp 2], (.seq (.reg [⟨(some 2), none, (.mov (.c (.int .i64 0)))⟩]) (.seq (.reg [⟨(some 3), none, (.mov (.c (.int .i64 0)))⟩]) (.seq (.seq (.reg [⟨(some 6), none, (.mov (.t 0))⟩,
    ⟨(some 7), none, (.len false (.t 6))⟩,
    ⟨(some 8), none, (.mov (.c (.int .i64 0)))⟩]) (.block 0 (.loop s187_l0))) (.seq (.reg [⟨(some 17), none, (.mov (.t 3))⟩,
    ⟨(some 2), none, (.mov (.t 17))⟩]) .ret))))⟩
/- cmp.Compare[int] -/
def s188 : SFn := ⟨[.tmp 4], (.seq (.reg [⟨(some 4), none, (.mov (.c (.int .i64 0)))⟩]) (.seq (.reg [⟨(some 7), none, (.mov (.t 0))⟩,
    ⟨(some 8), none, (.call (.f 268) [(.t 7)])⟩,
    ⟨(some 5), none, (.mov (.t 8))⟩]) (.seq (.reg [⟨(some 9), none, (.mov (.t 1))⟩,
    ⟨(some 10), none, (.call (.f 268) [(.t 9)])⟩,
    ⟨(some 6), none, (.mov (.t 10))⟩]) (.seq (.seq (.reg [⟨(some 11), none, (.mov (.t 5))⟩]) (.cond (.t 11) (.seq (.seq (.reg [⟨(some 12), none, (.mov (.t 6))⟩]) (.cond (.t 12) (.seq (.reg [⟨(some 4), none, (.mov (.c (.int .i64 0)))⟩]) .ret) .skip)) (.seq (.reg [⟨(some 4), none, (.mov (.c (.int .i64 (-1))))⟩]) .ret)) .skip)) (.seq (.seq (.reg [⟨(some 13), none, (.mov (.t 6))⟩]) (.cond (.t 13) (.seq (.reg [⟨(some 4), none, (.mov (.c (.int .i64 1)))⟩]) .ret) .skip)) (.seq (.seq (.reg [⟨(some 14), none, (.mov (.t 0))⟩,
    ⟨(some 15), none, (.mov (.t 1))⟩,
    ⟨(some 16), none, (.bin .lss (.t 14) (.t 15))⟩]) (.cond (.t 16) (.seq (.reg [⟨(some 4), none, (.mov (.c (.int .i64 (-1))))⟩]) .ret) .skip)) (.seq (.seq (.reg [⟨(some 17), none, (.mov (.t 0))⟩,
    ⟨(some 18), none, (.mov (.t 1))⟩,
    ⟨(some 19), none, (.bin .gtr (.t 17) (.t 18))⟩]) (.cond (.t 19) (.seq (.reg [⟨(some 4), none, (.mov (.c (.int .i64 1)))⟩]) .ret) .skip)) (.seq (.reg [⟨(some 4), none, (.mov (.c (.int .i64 0)))⟩]) .ret))))))))⟩
/- (*moiety/dims.Dims).Right -/
def s189_l0 : S := (.seq (.reg [⟨(some 26), none, (.bin .lss (.t 25) (.c (.int .i64 4)))⟩]) (.seq (.cond (.t 26) .skip (.exit 0)) (.seq (.block 1 (.seq (.reg [⟨(some 27), none, (.mov (.t 25))⟩,
    ⟨(some 28), none, (.indexArr 4 1 none (.t 24) (.t 25))⟩,
    ⟨(some 5), none, (.mov (.t 27))⟩,
    ⟨(some 6), none, (.mov (.t 28))⟩]) (.seq (.reg [⟨(some 7), none, (.mov (.c (.int .i64 0)))⟩]) (.seq (.seq (.reg [⟨(some 29), none, (.mov (.t 5))⟩,
    ⟨(some 30), none, (.mov (.t 0))⟩,
    ⟨(some 31), none, (.nilCheck (.t 30))⟩,
    ⟨(some 32), none, (.fieldAddr 4 (.t 31))⟩,
    ⟨(some 33), none, (.load none (.t 32))⟩,
    ⟨(some 34), none, (.len false (.t 33))⟩,
    ⟨(some 35), none, (.bin .lss (.t 29) (.t 34))⟩]) (.cond (.t 35) (.reg [⟨(some 36), none, (.mov (.t 0))⟩,
    ⟨(some 37), none, (.nilCheck (.t 36))⟩,
    ⟨(some 38), none, (.fieldAddr 4 (.t 37))⟩,
    ⟨(some 39), none, (.load none (.t 38))⟩,
    ⟨(some 40), none, (.mov (.t 5))⟩,
    ⟨(some 41), none, (.indexAddr none 2 (.t 39) (.t 40))⟩,
    ⟨(some 42), none, (.fieldAddr 0 (.t 41))⟩,
    ⟨(some 43), none, (.load none (.t 42))⟩,
    ⟨(some 44), none, (.call (.f 207) [(.t 43)])⟩,
    ⟨(some 45), none, (.bin .sub (.t 44) (.c (.int .i64 1)))⟩,
    ⟨(some 7), none, (.mov (.t 45))⟩]) .skip)) (.seq (.reg [⟨(some 46), none, (.mov (.t 6))⟩,
    ⟨(some 47), none, (.mov (.t 7))⟩,
    ⟨(some 48), none, (.call (.f 216) [(.t 46), (.c (.int .i64 0)), (.t 47)])⟩,
    ⟨(some 49), none, (.un .not (.t 48))⟩]) (.cond (.t 49) (.seq (.reg [⟨(some 4), none, (.mov (.c (.bool false)))⟩]) .ret) .skip)))))) (.reg [⟨(some 50), none, (.bin .add (.t 25) (.c (.int .i64 1)))⟩,
    ⟨(some 25), none, (.mov (.t 50))⟩]))))
def s189 : SFn := ⟨[.tmp 4], (.seq (.reg [⟨(some 3), none, (.box (.t 1))⟩,
    ⟨(some 4), none, (.mov (.c (.bool false)))⟩]) (.seq (.seq (.dreg false [⟨⟨(some 8), none, (.mov (.t 0))⟩, 0, 0⟩,
    ⟨⟨(some 9), none, (.eq false .ptr (.t 8) (.c (.ptr none)))⟩, 0, 0⟩,
    ⟨⟨(some 10), none, (.mov (.t 9))⟩, 0, 0⟩,
    ⟨⟨(some 11), (some (10, false)), (.fieldAddr 0 (.t 3))⟩, 0, 0⟩,
    ⟨⟨(some 12), (some (10, false)), (.load none (.t 11))⟩, 0, 0⟩,
    ⟨⟨(some 13), (some (10, false)), (.mov (.t 0))⟩, 0, 0⟩,
    ⟨⟨(some 14), (some (10, false)), (.nilCheck (.t 13))⟩, 0, 0⟩,
    ⟨⟨(some 15), (some (10, false)), (.fieldAddr 0 (.t 14))⟩, 0, 0⟩,
    ⟨⟨(some 16), (some (10, false)), (.fieldAddr 1 (.t 15))⟩, 0, 0⟩,
    ⟨⟨(some 17), (some (10, false)), (.load none (.t 16))⟩, 0, 0⟩,
    ⟨⟨(some 18), (some (10, false)), (.len false (.t 17))⟩, 0, 0⟩,
    ⟨⟨(some 19), (some (10, false)), (.bin .sub (.t 18) (.c (.int .i64 1)))⟩, 0, 0⟩,
    ⟨⟨(some 20), (some (10, false)), (.call (.f 216) [(.t 12), (.c (.int .i64 0)), (.t 19)])⟩, 0, 1⟩,
    ⟨⟨(some 21), (some (10, false)), (.un .not (.t 20))⟩, 1, 1⟩,
    ⟨⟨(some 22), none, (.pick (.t 10) (.c (.bool true)) (.t 21))⟩, 1, 1⟩]) (.cond (.t 22) (.seq (.reg [⟨(some 4), none, (.mov (.c (.bool false)))⟩]) .ret) .skip)) (.seq (.seq (.reg [⟨(some 23), none, (.fieldAddr 1 (.t 3))⟩,
    ⟨(some 24), none, (.load (some 4) (.t 23))⟩,
    ⟨(some 25), none, (.mov (.c (.int .i64 0)))⟩]) (.block 0 (.loop s189_l0))) (.seq (.reg [⟨(some 4), none, (.mov (.c (.bool true)))⟩]) .ret))))⟩
/- (*moiety/tree.Tree).Span -/
def s190 : SFn := ⟨[.tmp 4, .tmp 5], (.seq (.reg [⟨(some 4), none, (.mov (.c (.int .i64 0)))⟩,
    ⟨(some 5), none, (.mov (.c (.int .i64 0)))⟩]) (.seq (.seq (.reg [⟨(some 6), none, (.mov (.t 0))⟩,
    ⟨(some 7), none, (.mov (.t 1))⟩,
    ⟨(some 8), none, (.call (.f 269) [(.t 6), (.t 7)])⟩,
    ⟨(some 9), none, (.un .not (.t 8))⟩]) (.cond (.t 9) (.seq (.reg [⟨(some 4), none, (.mov (.c (.int .i64 0)))⟩,
    ⟨(some 5), none, (.mov (.c (.int .i64 0)))⟩]) .ret) .skip)) (.seq (.dreg false [⟨⟨(some 10), none, (.mov (.t 0))⟩, 0, 0⟩,
    ⟨⟨(some 11), none, (.nilCheck (.t 10))⟩, 0, 0⟩,
    ⟨⟨(some 12), none, (.fieldAddr 5 (.t 11))⟩, 0, 0⟩,
    ⟨⟨(some 13), none, (.load none (.t 12))⟩, 0, 0⟩,
    ⟨⟨(some 14), none, (.mov (.t 1))⟩, 0, 0⟩,
    ⟨⟨(some 15), none, (.indexAddr none 2 (.t 13) (.t 14))⟩, 0, 0⟩,
    ⟨⟨(some 16), none, (.fieldAddr 0 (.t 15))⟩, 0, 0⟩,
    ⟨⟨(some 17), none, (.load none (.t 16))⟩, 0, 0⟩,
    ⟨⟨(some 18), none, (.mov (.t 0))⟩, 0, 0⟩,
    ⟨⟨(some 19), none, (.nilCheck (.t 18))⟩, 0, 0⟩,
    ⟨⟨(some 20), none, (.fieldAddr 5 (.t 19))⟩, 0, 0⟩,
    ⟨⟨(some 21), none, (.load none (.t 20))⟩, 0, 0⟩,
    ⟨⟨(some 22), none, (.mov (.t 1))⟩, 0, 0⟩,
    ⟨⟨(some 23), none, (.indexAddr none 2 (.t 21) (.t 22))⟩, 0, 0⟩,
    ⟨⟨(some 24), none, (.fieldAddr 1 (.t 23))⟩, 0, 0⟩,
    ⟨⟨(some 25), none, (.load none (.t 24))⟩, 0, 0⟩,
    ⟨⟨(some 4), none, (.mov (.t 17))⟩, 0, 0⟩,
    ⟨⟨(some 5), none, (.mov (.t 25))⟩, 0, 0⟩]) .ret)))⟩
/- moiety/coord.every -/
def s191 : SFn := ⟨[.tmp 2], (.seq (.reg [⟨(some 1), none, (.box (.t 0))⟩,
    ⟨(some 2), none, (.mov (.c .nilFunc))⟩]) (.seq (.reg [⟨(some 3), none, (.makeFunc 270 [] [(.t 1)])⟩,
    ⟨(some 2), none, (.mov (.t 3))⟩]) .ret))⟩
/- slices.Clone[[]moiety/region.run,moiety/region.run] -/
def s192 : SFn := ⟨[.tmp 2], (.seq (.reg [⟨(some 2), none, (.mov (.c (.slice none 0 (.known 0))))⟩]) (.seq (.seq (.reg [⟨(some 3), none, (.mov (.t 0))⟩,
    ⟨(some 4), none, (.eq false .slice (.t 3) (.c (.slice none 0 (.known 0))))⟩]) (.cond (.t 4) (.seq (.reg [⟨(some 2), none, (.mov (.c (.slice none 0 (.known 0))))⟩]) .ret) .skip)) (.seq (.reg [⟨(some 5), none, (.buildSlice 0 [] [])⟩,
    ⟨(some 6), none, (.mov (.t 0))⟩,
    ⟨(some 7), none, (.append 2 16 (.t 5) (.t 6))⟩,
    ⟨(some 2), none, (.mov (.t 7))⟩]) .ret)))⟩
/- slices.IndexFunc[[]moiety/state.Val,moiety/state.Val] -/
def s193_l0 : S := (.seq (.reg [⟨(some 9), none, (.bin .lss (.t 8) (.t 7))⟩]) (.seq (.cond (.t 9) .skip (.exit 0)) (.seq (.block 1 (.seq (.reg [⟨(some 10), none, (.mov (.t 8))⟩,
    ⟨(some 5), none, (.mov (.t 10))⟩]) (.seq (.reg [⟨(some 11), none, (.mov (.t 1))⟩,
    ⟨(some 12), none, (.mov (.t 0))⟩,
    ⟨(some 13), none, (.mov (.t 5))⟩,
    ⟨(some 14), none, (.indexAddr none 2 (.t 12) (.t 13))⟩,
    ⟨(some 15), none, (.load (some 2) (.t 14))⟩,
    ⟨(some 16), none, (.call (.t 11) [(.t 15)])⟩]) (.cond (.t 16) (.seq (.reg [⟨(some 17), none, (.mov (.t 5))⟩,
    ⟨(some 4), none, (.mov (.t 17))⟩]) .ret) .skip)))) (.reg [⟨(some 18), none, (.bin .add (.t 8) (.c (.int .i64 1)))⟩,
    ⟨(some 8), none, (.mov (.t 18))⟩]))))
def s193 : SFn := ⟨[.tmp 4], (.seq (.reg [⟨(some 4), none, (.mov (.c (.int .i64 0)))⟩]) (.seq (.seq (.reg [⟨(some 6), none, (.mov (.t 0))⟩,
    ⟨(some 7), none, (.len false (.t 6))⟩,
    ⟨(some 8), none, (.mov (.c (.int .i64 0)))⟩]) (.block 0 (.loop s193_l0))) (.seq (.reg [⟨(some 4), none, (.mov (.c (.int .i64 (-1))))⟩]) .ret)))⟩
/- (*moiety/pages.Pages).Set -/
def s194 : SFn := ⟨[.tmp 8, .tmp 9], (.seq (.reg [⟨(some 7), none, (.box (.t 3))⟩,
    ⟨(some 8), none, (.mov (.c (.int .i64 0)))⟩,
    ⟨(some 9), none, (.mov (.c (.int .i64 0)))⟩]) (.seq (.reg [⟨(some 13), none, (.mov (.t 0))⟩,
    ⟨(some 14), none, (.mov (.t 1))⟩,
    ⟨(some 15), none, (.mov (.t 2))⟩,
    ⟨(some 16), none, (.call (.f 93) [(.t 13), (.t 14), (.t 15)])⟩,
    ⟨(some 12), none, (.mov (.t 16))⟩,
    ⟨(some 17), none, (.extract (.t 12) 0)⟩,
    ⟨(some 18), none, (.extract (.t 12) 1)⟩,
    ⟨(some 10), none, (.new [(.int .i64 0), (.bool false)])⟩,
    ⟨none, none, (.store 2 (.t 10) (.t 17))⟩,
    ⟨(some 11), none, (.mov (.t 18))⟩]) (.seq (.block 0 (.seq (.reg [⟨(some 20), none, (.mov (.t 11))⟩,
    ⟨(some 21), none, (.bin .neq (.t 20) (.c (.int .i64 0)))⟩,
    ⟨(some 19), none, (.mov (.t 21))⟩]) (.cond (.t 19) (.seq (.reg [⟨(some 22), none, (.mov (.t 11))⟩,
    ⟨(some 8), none, (.mov (.c (.int .i64 0)))⟩,
    ⟨(some 9), none, (.mov (.t 22))⟩]) .ret) (.seq (.reg [⟨(some 24), none, (.load (some 2) (.t 10))⟩,
    ⟨(some 25), none, (.load (some 2) (.t 7))⟩,
    ⟨(some 26), none, (.eq false (.flat [.int .i64, .bool]) (.t 24) (.t 25))⟩,
    ⟨(some 23), none, (.mov (.t 26))⟩]) (.cond (.t 23) (.seq (.reg [⟨(some 27), none, (.mov (.t 1))⟩,
    ⟨(some 28), none, (.mov (.t 0))⟩,
    ⟨(some 29), none, (.mov (.t 1))⟩,
    ⟨(some 30), none, (.call (.f 114) [(.t 28), (.t 29)])⟩,
    ⟨(some 8), none, (.mov (.t 27))⟩,
    ⟨(some 9), none, (.mov (.t 30))⟩]) .ret) .skip))))) (.seq (.dreg false [⟨⟨(some 31), none, (.mov (.t 0))⟩, 0, 0⟩,
    ⟨⟨(some 32), none, (.mov (.t 1))⟩, 0, 0⟩,
    ⟨⟨(some 33), none, (.mov (.t 2))⟩, 0, 0⟩,
    ⟨⟨(some 34), none, (.mov (.t 0))⟩, 0, 0⟩,
    ⟨⟨(some 35), none, (.nilCheck (.t 34))⟩, 0, 0⟩,
    ⟨⟨(some 36), none, (.fieldAddr 3 (.t 35))⟩, 0, 0⟩,
    ⟨⟨(some 37), none, (.load none (.t 36))⟩, 0, 0⟩,
    ⟨⟨(some 38), none, (.load (some 2) (.t 7))⟩, 0, 0⟩,
    ⟨⟨(some 39), none, (.call (.f 272) [(.t 31), (.t 32), (.t 33), (.t 37), (.t 38)])⟩, 0, 1⟩,
    ⟨⟨(some 40), none, (.extract (.t 39) 0)⟩, 1, 1⟩,
    ⟨⟨(some 41), none, (.extract (.t 39) 1)⟩, 1, 1⟩,
    ⟨⟨(some 8), none, (.mov (.t 40))⟩, 1, 1⟩,
    ⟨⟨(some 9), none, (.mov (.t 41))⟩, 1, 1⟩]) .ret))))⟩
/- (*moiety/arena.Arena).Drop -/
def s195_l0 : S := (.seq (.reg [⟨(some 55), none, (.bin .lss (.t 54) (.c (.int .i64 8)))⟩]) (.seq (.cond (.t 55) .skip (.exit 2)) (.seq (.block 3 (.seq (.reg [⟨(some 56), none, (.indexArr 8 1 none (.t 53) (.t 54))⟩,
    ⟨(some 9), none, (.mov (.t 56))⟩]) (.seq (.reg [⟨(some 57), none, (.mov (.t 9))⟩,
    ⟨(some 58), none, (.bin .neq (.t 57) (.c (.int .i64 0)))⟩]) (.cond (.t 58) (.reg [⟨(some 59), none, (.mov (.t 5))⟩,
    ⟨(some 60), none, (.mov (.t 9))⟩,
    ⟨(some 61), none, (.buildSlice 1 [(.int .i64 0)] [(0, 1, (.t 60))])⟩,
    ⟨(some 62), none, (.append 1 8 (.t 59) (.t 61))⟩,
    ⟨(some 5), none, (.mov (.t 62))⟩]) .skip)))) (.reg [⟨(some 63), none, (.bin .add (.t 54) (.c (.int .i64 1)))⟩,
    ⟨(some 54), none, (.mov (.t 63))⟩]))))
def s195_l1 : S := (.seq (.seq (.reg [⟨(some 18), none, (.mov (.t 5))⟩,
    ⟨(some 19), none, (.len false (.t 18))⟩,
    ⟨(some 20), none, (.bin .gtr (.t 19) (.c (.int .i64 0)))⟩]) (.cond (.t 20) .skip (.exit 0))) (.block 1 (.seq (.reg [⟨(some 21), none, (.mov (.t 5))⟩,
    ⟨(some 22), none, (.mov (.t 5))⟩,
    ⟨(some 23), none, (.len false (.t 22))⟩,
    ⟨(some 24), none, (.bin .sub (.t 23) (.c (.int .i64 1)))⟩,
    ⟨(some 25), none, (.indexAddr none 1 (.t 21) (.t 24))⟩,
    ⟨(some 26), none, (.load none (.t 25))⟩,
    ⟨(some 6), none, (.mov (.t 26))⟩]) (.seq (.reg [⟨(some 27), none, (.mov (.t 5))⟩,
    ⟨(some 28), none, (.mov (.t 5))⟩,
    ⟨(some 29), none, (.len false (.t 28))⟩,
    ⟨(some 30), none, (.bin .sub (.t 29) (.c (.int .i64 1)))⟩,
    ⟨(some 31), none, (.slice (.slice 1) (.t 27) none (some (.t 30)) none)⟩,
    ⟨(some 5), none, (.mov (.t 31))⟩]) (.seq (.reg [⟨(some 32), none, (.mov (.t 0))⟩,
    ⟨(some 33), none, (.mov (.t 6))⟩,
    ⟨(some 34), none, (.call (.f 273) [(.t 32), (.t 33)])⟩,
    ⟨(some 7), none, (.mov (.t 34))⟩]) (.seq (.seq (.reg [⟨(some 35), none, (.mov (.t 7))⟩,
    ⟨(some 36), none, (.eq false .ptr (.t 35) (.c (.ptr none)))⟩]) (.cond (.t 36) (.exit 1) .skip)) (.seq (.seq (.reg [⟨(some 37), none, (.mov (.t 7))⟩,
    ⟨(some 38), none, (.nilCheck (.t 37))⟩,
    ⟨(some 39), none, (.fieldAddr 25 (.t 38))⟩,
    ⟨(some 40), none, (.load none (.t 39))⟩,
    ⟨(some 41), none, (.bin .sub (.t 40) (.c (.int .i64 1)))⟩,
    ⟨(some 42), none, (.nilCheck (.t 37))⟩,
    ⟨(some 43), none, (.fieldAddr 25 (.t 42))⟩,
    ⟨none, none, (.store 1 (.t 43) (.t 41))⟩]) (.seq (.reg [⟨(some 44), none, (.mov (.t 7))⟩,
    ⟨(some 45), none, (.nilCheck (.t 44))⟩,
    ⟨(some 46), none, (.fieldAddr 25 (.t 45))⟩,
    ⟨(some 47), none, (.load none (.t 46))⟩,
    ⟨(some 48), none, (.bin .gtr (.t 47) (.c (.int .i64 0)))⟩]) (.cond (.t 48) (.exit 1) .skip))) (.seq (.seq (.reg [⟨(some 49), none, (.mov (.t 7))⟩,
    ⟨(some 50), none, (.nilCheck (.t 49))⟩,
    ⟨(some 51), none, (.fieldAddr 0 (.t 50))⟩,
    ⟨(some 52), none, (.fieldAddr 1 (.t 51))⟩,
    ⟨(some 53), none, (.load (some 8) (.t 52))⟩,
    ⟨(some 54), none, (.mov (.c (.int .i64 0)))⟩]) (.block 2 (.loop s195_l0))) (.reg [⟨(some 64), none, (.mov (.t 0))⟩,
    ⟨(some 65), none, (.mov (.t 6))⟩,
    ⟨(some 66), none, (.call (.f 275) [(.t 64), (.t 65)])⟩])))))))))
def s195 : SFn := ⟨[.tmp 4], (.seq (.reg [⟨(some 4), none, (.mov (.c (.int .i64 0)))⟩]) (.seq (.seq (.reg [⟨(some 10), none, (.mov (.t 0))⟩,
    ⟨(some 11), none, (.mov (.t 1))⟩,
    ⟨(some 12), none, (.call (.f 273) [(.t 10), (.t 11)])⟩,
    ⟨(some 13), none, (.eq false .ptr (.t 12) (.c (.ptr none)))⟩]) (.cond (.t 13) (.seq (.reg [⟨(some 14), none, (.mov (.t 0))⟩,
    ⟨(some 15), none, (.call (.f 274) [(.t 14)])⟩,
    ⟨(some 4), none, (.mov (.t 15))⟩]) .ret) .skip)) (.seq (.seq (.reg [⟨(some 16), none, (.mov (.t 1))⟩,
    ⟨(some 17), none, (.buildSlice 1 [(.int .i64 0)] [(0, 1, (.t 16))])⟩,
    ⟨(some 5), none, (.mov (.t 17))⟩]) (.block 0 (.loop s195_l1))) (.seq (.reg [⟨(some 4), none, (.mov (.c (.int .i64 0)))⟩]) .ret))))⟩
/- (*moiety/moietyref07.Space).Code -/
def s196_l0 : S := (.seq (.seq (.reg [⟨(some 19), none, (.mov (.t 6))⟩,
    ⟨(some 20), none, (.mov (.t 0))⟩,
    ⟨(some 21), none, (.nilCheck (.t 20))⟩,
    ⟨(some 22), none, (.fieldAddr 0 (.t 21))⟩,
    ⟨(some 23), none, (.load none (.t 22))⟩,
    ⟨(some 24), none, (.nilCheck (.t 23))⟩,
    ⟨(some 25), none, (.fieldAddr 4 (.t 24))⟩,
    ⟨(some 26), none, (.load none (.t 25))⟩,
    ⟨(some 27), none, (.len false (.t 26))⟩,
    ⟨(some 28), none, (.bin .lss (.t 19) (.t 27))⟩]) (.cond (.t 28) .skip (.exit 0))) (.seq (.block 1 (.seq (.dreg false [⟨⟨(some 31), none, (.mov (.t 0))⟩, 0, 0⟩,
    ⟨⟨(some 32), none, (.nilCheck (.t 31))⟩, 0, 0⟩,
    ⟨⟨(some 33), none, (.fieldAddr 2 (.t 32))⟩, 0, 0⟩,
    ⟨⟨(some 34), none, (.load none (.t 33))⟩, 0, 0⟩,
    ⟨⟨(some 35), none, (.mov (.t 6))⟩, 0, 0⟩,
    ⟨⟨(some 36), none, (.indexAddr none 1 (.t 34) (.t 35))⟩, 0, 0⟩,
    ⟨⟨(some 37), none, (.load none (.t 36))⟩, 0, 0⟩,
    ⟨⟨(some 38), none, (.mov (.t 6))⟩, 0, 0⟩,
    ⟨⟨(some 39), none, (.fieldAddr 1 (.t 3))⟩, 0, 0⟩,
    ⟨⟨(some 40), none, (.indexAddr (some 4) 1 (.t 39) (.t 38))⟩, 0, 0⟩,
    ⟨⟨(some 41), none, (.load none (.t 40))⟩, 0, 0⟩,
    ⟨⟨(some 42), none, (.indexAddr none 1 (.t 37) (.t 41))⟩, 0, 0⟩,
    ⟨⟨(some 43), none, (.load none (.t 42))⟩, 0, 0⟩,
    ⟨⟨(some 7), none, (.mov (.t 43))⟩, 0, 0⟩]) (.seq (.seq (.reg [⟨(some 44), none, (.mov (.t 7))⟩,
    ⟨(some 45), none, (.bin .lss (.t 44) (.c (.int .i64 0)))⟩]) (.cond (.t 45) (.seq (.reg [⟨(some 4), none, (.mov (.c (.int .i64 (-1))))⟩]) .ret) .skip)) (.reg [⟨(some 46), none, (.mov (.t 5))⟩,
    ⟨(some 47), none, (.mov (.t 0))⟩,
    ⟨(some 48), none, (.nilCheck (.t 47))⟩,
    ⟨(some 49), none, (.fieldAddr 1 (.t 48))⟩,
    ⟨(some 50), none, (.load none (.t 49))⟩,
    ⟨(some 51), none, (.mov (.t 6))⟩,
    ⟨(some 52), none, (.indexAddr none 1 (.t 50) (.t 51))⟩,
    ⟨(some 53), none, (.load none (.t 52))⟩,
    ⟨(some 54), none, (.len false (.t 53))⟩,
    ⟨(some 55), none, (.bin .mul (.t 46) (.t 54))⟩,
    ⟨(some 56), none, (.mov (.t 7))⟩,
    ⟨(some 57), none, (.bin .add (.t 55) (.t 56))⟩,
    ⟨(some 5), none, (.mov (.t 57))⟩])))) (.reg [⟨(some 29), none, (.mov (.t 6))⟩,
    ⟨(some 30), none, (.bin .add (.t 29) (.c (.int .i64 1)))⟩,
    ⟨(some 6), none, (.mov (.t 30))⟩])))
def s196 : SFn := ⟨[.tmp 4], (.seq (.reg [⟨(some 3), none, (.box (.t 1))⟩,
    ⟨(some 4), none, (.mov (.c (.int .i64 0)))⟩]) (.seq (.seq (.dreg false [⟨⟨(some 8), none, (.mov (.t 0))⟩, 0, 0⟩,
    ⟨⟨(some 9), none, (.nilCheck (.t 8))⟩, 0, 0⟩,
    ⟨⟨(some 10), none, (.fieldAddr 0 (.t 9))⟩, 0, 0⟩,
    ⟨⟨(some 11), none, (.load none (.t 10))⟩, 0, 0⟩,
    ⟨⟨(some 12), none, (.load (some 5) (.t 3))⟩, 0, 0⟩,
    ⟨⟨(some 13), none, (.call (.f 276) [(.t 11), (.t 12)])⟩, 0, 1⟩,
    ⟨⟨(some 14), none, (.un .not (.t 13))⟩, 1, 1⟩]) (.cond (.t 14) (.seq (.reg [⟨(some 4), none, (.mov (.c (.int .i64 (-1))))⟩]) .ret) .skip)) (.seq (.reg [⟨(some 15), none, (.mov (.t 0))⟩,
    ⟨(some 16), none, (.call (.f 277) [(.t 15)])⟩]) (.seq (.reg [⟨(some 17), none, (.fieldAddr 0 (.t 3))⟩,
    ⟨(some 18), none, (.load none (.t 17))⟩,
    ⟨(some 5), none, (.mov (.t 18))⟩]) (.seq (.seq (.reg [⟨(some 6), none, (.mov (.c (.int .i64 0)))⟩]) (.block 0 (.loop s196_l0))) (.seq (.reg [⟨(some 58), none, (.mov (.t 5))⟩,
    ⟨(some 4), none, (.mov (.t 58))⟩]) .ret))))))⟩
/- moiety/moietyref15.Write -/
def s197 : SFn := ⟨[.cell 6 (some 3), .tmp 7], (.seq (.reg [⟨(some 3), none, (.box (.t 0))⟩,
    ⟨(some 6), none, (.new [(.slice none 0 (.known 0)), (.slice none 0 (.known 0)), (.slice none 0 (.known 0))])⟩,
    ⟨(some 7), none, (.mov (.c (.int .i64 0)))⟩]) (.seq (.seq (.reg [⟨(some 8), none, (.mov (.t 1))⟩,
    ⟨(some 9), none, (.bin .lss (.t 8) (.c (.int .i64 0)))⟩,
    ⟨(some 10), none, (.mov (.t 9))⟩,
    ⟨(some 11), (some (10, false)), (.mov (.t 1))⟩,
    ⟨(some 12), (some (10, false)), (.fieldAddr 0 (.t 3))⟩,
    ⟨(some 13), (some (10, false)), (.load none (.t 12))⟩,
    ⟨(some 14), (some (10, false)), (.len false (.t 13))⟩,
    ⟨(some 15), (some (10, false)), (.bin .geq (.t 11) (.t 14))⟩,
    ⟨(some 16), none, (.pick (.t 10) (.c (.bool true)) (.t 15))⟩]) (.cond (.t 16) (.seq (.reg [⟨(some 17), none, (.build [(.slice none 0 (.known 0)), (.slice none 0 (.known 0)), (.slice none 0 (.known 0))] [])⟩,
    ⟨none, none, (.store 3 (.t 6) (.t 17))⟩,
    ⟨(some 7), none, (.mov (.c (.int .i64 17)))⟩]) .ret) .skip)) (.seq (.reg [⟨(some 18), none, (.load (some 3) (.t 3))⟩,
    ⟨(some 19), none, (.call (.f 246) [(.t 18)])⟩,
    ⟨none, none, (.store 3 (.t 3) (.t 19))⟩]) (.seq (.reg [⟨(some 20), none, (.fieldAddr 0 (.t 3))⟩,
    ⟨(some 21), none, (.load none (.t 20))⟩,
    ⟨(some 22), none, (.mov (.t 1))⟩,
    ⟨(some 23), none, (.mov (.t 2))⟩,
    ⟨(some 24), none, (.indexAddr none 2 (.t 21) (.t 22))⟩,
    ⟨(some 25), none, (.fieldAddr 0 (.t 24))⟩,
    ⟨none, none, (.store 1 (.t 25) (.t 23))⟩]) (.seq (.reg [⟨(some 26), none, (.load (some 3) (.t 3))⟩,
    ⟨none, none, (.store 3 (.t 6) (.t 26))⟩,
    ⟨(some 7), none, (.mov (.c (.int .i64 0)))⟩]) .ret)))))⟩
/- (*moiety/moietylaw20.play).turn -/
def s198_l0 : S := (.seq (.seq (.reg [⟨(some 9), none, (.mov (.t 4))⟩,
    ⟨(some 10), none, (.mov (.t 1))⟩,
    ⟨(some 11), none, (.len false (.t 10))⟩,
    ⟨(some 12), none, (.bin .lss (.t 9) (.t 11))⟩,
    ⟨(some 13), none, (.mov (.t 12))⟩,
    ⟨(some 14), (some (13, true)), (.mov (.t 4))⟩,
    ⟨(some 15), (some (13, true)), (.bin .lss (.t 14) (.c (.int .i64 12)))⟩,
    ⟨(some 16), none, (.pick (.t 13) (.t 15) (.c (.bool false)))⟩]) (.cond (.t 16) .skip (.exit 0))) (.seq (.block 1 (.seq (.reg [⟨(some 19), none, (.mov (.t 0))⟩,
    ⟨(some 20), none, (.nilCheck (.t 19))⟩,
    ⟨(some 21), none, (.fieldAddr 1 (.t 20))⟩,
    ⟨(some 22), none, (.load (some 3) (.t 21))⟩,
    ⟨(some 5), none, (.new [(.int .i64 0), (.slice none 0 (.known 0)), (.slice none 0 (.known 0))])⟩,
    ⟨none, none, (.store 3 (.t 5) (.t 22))⟩]) (.seq (.reg [⟨(some 23), none, (.mov (.t 0))⟩,
    ⟨(some 24), none, (.nilCheck (.t 23))⟩,
    ⟨(some 25), none, (.fieldAddr 5 (.t 24))⟩,
    ⟨(some 26), none, (.load (some 3) (.t 25))⟩,
    ⟨(some 6), none, (.new [(.slice none 0 (.known 0)), (.slice none 0 (.known 0)), (.slice none 0 (.known 0))])⟩,
    ⟨none, none, (.store 3 (.t 6) (.t 26))⟩]) (.seq (.reg [⟨(some 7), none, (.mov (.c (.int .i64 0)))⟩]) (.seq (.reg [⟨(some 8), none, (.mov (.c (.int .i64 0)))⟩]) (.seq (.seq (.reg [⟨(some 27), none, (.mov (.t 1))⟩,
    ⟨(some 28), none, (.mov (.t 4))⟩,
    ⟨(some 29), none, (.indexAddr none 7 (.t 27) (.t 28))⟩,
    ⟨(some 30), none, (.fieldAddr 0 (.t 29))⟩,
    ⟨(some 31), none, (.load none (.t 30))⟩,
    ⟨(some 32), none, (.bin .rem (.t 31) (.c (.int .i64 4)))⟩]) (.block 2 (.seq (.reg [⟨(some 78), none, (.bin .eql (.t 32) (.c (.int .i64 0)))⟩,
    ⟨(some 77), none, (.mov (.t 78))⟩]) (.cond (.t 77) (.seq (.dreg false [⟨⟨(some 80), none, (.mov (.t 0))⟩, 0, 0⟩,
    ⟨⟨(some 81), none, (.nilCheck (.t 80))⟩, 0, 0⟩,
    ⟨⟨(some 82), none, (.fieldAddr 0 (.t 81))⟩, 0, 0⟩,
    ⟨⟨(some 83), none, (.load none (.t 82))⟩, 0, 0⟩,
    ⟨⟨(some 84), none, (.mov (.t 0))⟩, 0, 0⟩,
    ⟨⟨(some 85), none, (.nilCheck (.t 84))⟩, 0, 0⟩,
    ⟨⟨(some 86), none, (.fieldAddr 1 (.t 85))⟩, 0, 0⟩,
    ⟨⟨(some 87), none, (.load (some 3) (.t 86))⟩, 0, 0⟩,
    ⟨⟨(some 88), none, (.mov (.t 1))⟩, 0, 0⟩,
    ⟨⟨(some 89), none, (.mov (.t 4))⟩, 0, 0⟩,
    ⟨⟨(some 90), none, (.indexAddr none 7 (.t 88) (.t 89))⟩, 0, 0⟩,
    ⟨⟨(some 91), none, (.fieldAddr 1 (.t 90))⟩, 0, 0⟩,
    ⟨⟨(some 92), none, (.load (some 5) (.t 91))⟩, 0, 0⟩,
    ⟨⟨(some 93), none, (.call (.f 149) [(.t 83), (.t 87), (.t 92)])⟩, 0, 1⟩,
    ⟨⟨(some 79), none, (.mov (.t 93))⟩, 1, 1⟩,
    ⟨⟨(some 94), none, (.extract (.t 79) 0)⟩, 1, 1⟩,
    ⟨⟨(some 95), none, (.extract (.t 79) 1)⟩, 1, 2⟩,
    ⟨⟨none, none, (.store 3 (.t 5) (.t 94))⟩, 1, 2⟩,
    ⟨⟨(some 7), none, (.mov (.t 95))⟩, 2, 2⟩]) (.dreg false [⟨⟨(some 97), none, (.mov (.t 0))⟩, 0, 0⟩,
    ⟨⟨(some 98), none, (.nilCheck (.t 97))⟩, 0, 0⟩,
    ⟨⟨(some 99), none, (.fieldAddr 4 (.t 98))⟩, 0, 0⟩,
    ⟨⟨(some 100), none, (.load none (.t 99))⟩, 0, 0⟩,
    ⟨⟨(some 101), none, (.mov (.t 0))⟩, 0, 0⟩,
    ⟨⟨(some 102), none, (.nilCheck (.t 101))⟩, 0, 0⟩,
    ⟨⟨(some 103), none, (.fieldAddr 5 (.t 102))⟩, 0, 0⟩,
    ⟨⟨(some 104), none, (.load (some 3) (.t 103))⟩, 0, 0⟩,
    ⟨⟨(some 105), none, (.mov (.t 1))⟩, 0, 0⟩,
    ⟨⟨(some 106), none, (.mov (.t 4))⟩, 0, 0⟩,
    ⟨⟨(some 107), none, (.indexAddr none 7 (.t 105) (.t 106))⟩, 0, 0⟩,
    ⟨⟨(some 108), none, (.fieldAddr 1 (.t 107))⟩, 0, 0⟩,
    ⟨⟨(some 109), none, (.load (some 5) (.t 108))⟩, 0, 0⟩,
    ⟨⟨(some 110), none, (.call (.f 150) [(.t 100), (.t 104), (.t 109)])⟩, 0, 1⟩,
    ⟨⟨(some 96), none, (.mov (.t 110))⟩, 1, 1⟩,
    ⟨⟨(some 111), none, (.extract (.t 96) 0)⟩, 1, 1⟩,
    ⟨⟨(some 112), none, (.extract (.t 96) 1)⟩, 1, 2⟩,
    ⟨⟨none, none, (.store 3 (.t 6) (.t 111))⟩, 1, 2⟩,
    ⟨⟨(some 8), none, (.mov (.t 112))⟩, 2, 2⟩])) (.seq (.reg [⟨(some 114), none, (.bin .eql (.t 32) (.c (.int .i64 1)))⟩,
    ⟨(some 113), none, (.mov (.t 114))⟩]) (.cond (.t 113) (.seq (.dreg false [⟨⟨(some 116), none, (.mov (.t 0))⟩, 0, 0⟩,
    ⟨⟨(some 117), none, (.nilCheck (.t 116))⟩, 0, 0⟩,
    ⟨⟨(some 118), none, (.fieldAddr 0 (.t 117))⟩, 0, 0⟩,
    ⟨⟨(some 119), none, (.load none (.t 118))⟩, 0, 0⟩,
    ⟨⟨(some 120), none, (.mov (.t 0))⟩, 0, 0⟩,
    ⟨⟨(some 121), none, (.nilCheck (.t 120))⟩, 0, 0⟩,
    ⟨⟨(some 122), none, (.fieldAddr 1 (.t 121))⟩, 0, 0⟩,
    ⟨⟨(some 123), none, (.load (some 3) (.t 122))⟩, 0, 0⟩,
    ⟨⟨(some 124), none, (.mov (.t 1))⟩, 0, 0⟩,
    ⟨⟨(some 125), none, (.mov (.t 4))⟩, 0, 0⟩,
    ⟨⟨(some 126), none, (.indexAddr none 7 (.t 124) (.t 125))⟩, 0, 0⟩,
    ⟨⟨(some 127), none, (.fieldAddr 1 (.t 126))⟩, 0, 0⟩,
    ⟨⟨(some 128), none, (.load (some 5) (.t 127))⟩, 0, 0⟩,
    ⟨⟨(some 129), none, (.call (.f 151) [(.t 119), (.t 123), (.t 128)])⟩, 0, 1⟩,
    ⟨⟨(some 115), none, (.mov (.t 129))⟩, 1, 1⟩,
    ⟨⟨(some 130), none, (.extract (.t 115) 0)⟩, 1, 1⟩,
    ⟨⟨(some 131), none, (.extract (.t 115) 1)⟩, 1, 2⟩,
    ⟨⟨none, none, (.store 3 (.t 5) (.t 130))⟩, 1, 2⟩,
    ⟨⟨(some 7), none, (.mov (.t 131))⟩, 2, 2⟩]) (.dreg false [⟨⟨(some 133), none, (.mov (.t 0))⟩, 0, 0⟩,
    ⟨⟨(some 134), none, (.nilCheck (.t 133))⟩, 0, 0⟩,
    ⟨⟨(some 135), none, (.fieldAddr 4 (.t 134))⟩, 0, 0⟩,
    ⟨⟨(some 136), none, (.load none (.t 135))⟩, 0, 0⟩,
    ⟨⟨(some 137), none, (.mov (.t 0))⟩, 0, 0⟩,
    ⟨⟨(some 138), none, (.nilCheck (.t 137))⟩, 0, 0⟩,
    ⟨⟨(some 139), none, (.fieldAddr 5 (.t 138))⟩, 0, 0⟩,
    ⟨⟨(some 140), none, (.load (some 3) (.t 139))⟩, 0, 0⟩,
    ⟨⟨(some 141), none, (.mov (.t 1))⟩, 0, 0⟩,
    ⟨⟨(some 142), none, (.mov (.t 4))⟩, 0, 0⟩,
    ⟨⟨(some 143), none, (.indexAddr none 7 (.t 141) (.t 142))⟩, 0, 0⟩,
    ⟨⟨(some 144), none, (.fieldAddr 1 (.t 143))⟩, 0, 0⟩,
    ⟨⟨(some 145), none, (.load (some 5) (.t 144))⟩, 0, 0⟩,
    ⟨⟨(some 146), none, (.call (.f 152) [(.t 136), (.t 140), (.t 145)])⟩, 0, 1⟩,
    ⟨⟨(some 132), none, (.mov (.t 146))⟩, 1, 1⟩,
    ⟨⟨(some 147), none, (.extract (.t 132) 0)⟩, 1, 1⟩,
    ⟨⟨(some 148), none, (.extract (.t 132) 1)⟩, 1, 2⟩,
    ⟨⟨none, none, (.store 3 (.t 6) (.t 147))⟩, 1, 2⟩,
    ⟨⟨(some 8), none, (.mov (.t 148))⟩, 2, 2⟩])) (.seq (.reg [⟨(some 150), none, (.bin .eql (.t 32) (.c (.int .i64 2)))⟩,
    ⟨(some 149), none, (.mov (.t 150))⟩]) (.cond (.t 149) (.seq (.dreg false [⟨⟨(some 152), none, (.mov (.t 0))⟩, 0, 0⟩,
    ⟨⟨(some 153), none, (.nilCheck (.t 152))⟩, 0, 0⟩,
    ⟨⟨(some 154), none, (.fieldAddr 0 (.t 153))⟩, 0, 0⟩,
    ⟨⟨(some 155), none, (.load none (.t 154))⟩, 0, 0⟩,
    ⟨⟨(some 156), none, (.mov (.t 0))⟩, 0, 0⟩,
    ⟨⟨(some 157), none, (.nilCheck (.t 156))⟩, 0, 0⟩,
    ⟨⟨(some 158), none, (.fieldAddr 1 (.t 157))⟩, 0, 0⟩,
    ⟨⟨(some 159), none, (.load (some 3) (.t 158))⟩, 0, 0⟩,
    ⟨⟨(some 160), none, (.mov (.t 1))⟩, 0, 0⟩,
    ⟨⟨(some 161), none, (.mov (.t 4))⟩, 0, 0⟩,
    ⟨⟨(some 162), none, (.indexAddr none 7 (.t 160) (.t 161))⟩, 0, 0⟩,
    ⟨⟨(some 163), none, (.fieldAddr 1 (.t 162))⟩, 0, 0⟩,
    ⟨⟨(some 164), none, (.load (some 5) (.t 163))⟩, 0, 0⟩,
    ⟨⟨(some 165), none, (.mov (.t 1))⟩, 0, 0⟩,
    ⟨⟨(some 166), none, (.mov (.t 4))⟩, 0, 0⟩,
    ⟨⟨(some 167), none, (.indexAddr none 7 (.t 165) (.t 166))⟩, 0, 0⟩,
    ⟨⟨(some 168), none, (.fieldAddr 6 (.t 167))⟩, 0, 0⟩,
    ⟨⟨(some 169), none, (.load none (.t 168))⟩, 0, 0⟩,
    ⟨⟨(some 170), none, (.call (.f 153) [(.t 155), (.t 159), (.t 164), (.t 169)])⟩, 0, 1⟩,
    ⟨⟨(some 151), none, (.mov (.t 170))⟩, 1, 1⟩,
    ⟨⟨(some 171), none, (.extract (.t 151) 0)⟩, 1, 1⟩,
    ⟨⟨(some 172), none, (.extract (.t 151) 1)⟩, 1, 2⟩,
    ⟨⟨none, none, (.store 3 (.t 5) (.t 171))⟩, 1, 2⟩,
    ⟨⟨(some 7), none, (.mov (.t 172))⟩, 2, 2⟩]) (.dreg false [⟨⟨(some 174), none, (.mov (.t 0))⟩, 0, 0⟩,
    ⟨⟨(some 175), none, (.nilCheck (.t 174))⟩, 0, 0⟩,
    ⟨⟨(some 176), none, (.fieldAddr 4 (.t 175))⟩, 0, 0⟩,
    ⟨⟨(some 177), none, (.load none (.t 176))⟩, 0, 0⟩,
    ⟨⟨(some 178), none, (.mov (.t 0))⟩, 0, 0⟩,
    ⟨⟨(some 179), none, (.nilCheck (.t 178))⟩, 0, 0⟩,
    ⟨⟨(some 180), none, (.fieldAddr 5 (.t 179))⟩, 0, 0⟩,
    ⟨⟨(some 181), none, (.load (some 3) (.t 180))⟩, 0, 0⟩,
    ⟨⟨(some 182), none, (.mov (.t 1))⟩, 0, 0⟩,
    ⟨⟨(some 183), none, (.mov (.t 4))⟩, 0, 0⟩,
    ⟨⟨(some 184), none, (.indexAddr none 7 (.t 182) (.t 183))⟩, 0, 0⟩,
    ⟨⟨(some 185), none, (.fieldAddr 1 (.t 184))⟩, 0, 0⟩,
    ⟨⟨(some 186), none, (.load (some 5) (.t 185))⟩, 0, 0⟩,
    ⟨⟨(some 187), none, (.mov (.t 1))⟩, 0, 0⟩,
    ⟨⟨(some 188), none, (.mov (.t 4))⟩, 0, 0⟩,
    ⟨⟨(some 189), none, (.indexAddr none 7 (.t 187) (.t 188))⟩, 0, 0⟩,
    ⟨⟨(some 190), none, (.fieldAddr 6 (.t 189))⟩, 0, 0⟩,
    ⟨⟨(some 191), none, (.load none (.t 190))⟩, 0, 0⟩,
    ⟨⟨(some 192), none, (.call (.f 154) [(.t 177), (.t 181), (.t 186), (.t 191)])⟩, 0, 1⟩,
    ⟨⟨(some 173), none, (.mov (.t 192))⟩, 1, 1⟩,
    ⟨⟨(some 193), none, (.extract (.t 173) 0)⟩, 1, 1⟩,
    ⟨⟨(some 194), none, (.extract (.t 173) 1)⟩, 1, 2⟩,
    ⟨⟨none, none, (.store 3 (.t 6) (.t 193))⟩, 1, 2⟩,
    ⟨⟨(some 8), none, (.mov (.t 194))⟩, 2, 2⟩])) (.seq (.dreg false [⟨⟨(some 34), none, (.mov (.t 0))⟩, 0, 0⟩,
    ⟨⟨(some 35), none, (.nilCheck (.t 34))⟩, 0, 0⟩,
    ⟨⟨(some 36), none, (.fieldAddr 0 (.t 35))⟩, 0, 0⟩,
    ⟨⟨(some 37), none, (.load none (.t 36))⟩, 0, 0⟩,
    ⟨⟨(some 38), none, (.mov (.t 0))⟩, 0, 0⟩,
    ⟨⟨(some 39), none, (.nilCheck (.t 38))⟩, 0, 0⟩,
    ⟨⟨(some 40), none, (.fieldAddr 1 (.t 39))⟩, 0, 0⟩,
    ⟨⟨(some 41), none, (.load (some 3) (.t 40))⟩, 0, 0⟩,
    ⟨⟨(some 42), none, (.mov (.t 1))⟩, 0, 0⟩,
    ⟨⟨(some 43), none, (.mov (.t 4))⟩, 0, 0⟩,
    ⟨⟨(some 44), none, (.indexAddr none 7 (.t 42) (.t 43))⟩, 0, 0⟩,
    ⟨⟨(some 45), none, (.fieldAddr 1 (.t 44))⟩, 0, 0⟩,
    ⟨⟨(some 46), none, (.load (some 5) (.t 45))⟩, 0, 0⟩,
    ⟨⟨(some 47), none, (.mov (.t 1))⟩, 0, 0⟩,
    ⟨⟨(some 48), none, (.mov (.t 4))⟩, 0, 0⟩,
    ⟨⟨(some 49), none, (.indexAddr none 7 (.t 47) (.t 48))⟩, 0, 0⟩,
    ⟨⟨(some 50), none, (.fieldAddr 6 (.t 49))⟩, 0, 0⟩,
    ⟨⟨(some 51), none, (.load none (.t 50))⟩, 0, 0⟩,
    ⟨⟨(some 52), none, (.call (.f 155) [(.t 37), (.t 41), (.t 46), (.t 51)])⟩, 0, 1⟩,
    ⟨⟨(some 33), none, (.mov (.t 52))⟩, 1, 1⟩,
    ⟨⟨(some 53), none, (.extract (.t 33) 0)⟩, 1, 1⟩,
    ⟨⟨(some 54), none, (.extract (.t 33) 1)⟩, 1, 2⟩,
    ⟨⟨none, none, (.store 3 (.t 5) (.t 53))⟩, 1, 2⟩,
    ⟨⟨(some 7), none, (.mov (.t 54))⟩, 2, 2⟩]) (.dreg false [⟨⟨(some 56), none, (.mov (.t 0))⟩, 0, 0⟩,
    ⟨⟨(some 57), none, (.nilCheck (.t 56))⟩, 0, 0⟩,
    ⟨⟨(some 58), none, (.fieldAddr 4 (.t 57))⟩, 0, 0⟩,
    ⟨⟨(some 59), none, (.load none (.t 58))⟩, 0, 0⟩,
    ⟨⟨(some 60), none, (.mov (.t 0))⟩, 0, 0⟩,
    ⟨⟨(some 61), none, (.nilCheck (.t 60))⟩, 0, 0⟩,
    ⟨⟨(some 62), none, (.fieldAddr 5 (.t 61))⟩, 0, 0⟩,
    ⟨⟨(some 63), none, (.load (some 3) (.t 62))⟩, 0, 0⟩,
    ⟨⟨(some 64), none, (.mov (.t 1))⟩, 0, 0⟩,
    ⟨⟨(some 65), none, (.mov (.t 4))⟩, 0, 0⟩,
    ⟨⟨(some 66), none, (.indexAddr none 7 (.t 64) (.t 65))⟩, 0, 0⟩,
    ⟨⟨(some 67), none, (.fieldAddr 1 (.t 66))⟩, 0, 0⟩,
    ⟨⟨(some 68), none, (.load (some 5) (.t 67))⟩, 0, 0⟩,
    ⟨⟨(some 69), none, (.mov (.t 1))⟩, 0, 0⟩,
    ⟨⟨(some 70), none, (.mov (.t 4))⟩, 0, 0⟩,
    ⟨⟨(some 71), none, (.indexAddr none 7 (.t 69) (.t 70))⟩, 0, 0⟩,
    ⟨⟨(some 72), none, (.fieldAddr 6 (.t 71))⟩, 0, 0⟩,
    ⟨⟨(some 73), none, (.load none (.t 72))⟩, 0, 0⟩,
    ⟨⟨(some 74), none, (.call (.f 156) [(.t 59), (.t 63), (.t 68), (.t 73)])⟩, 0, 1⟩,
    ⟨⟨(some 55), none, (.mov (.t 74))⟩, 1, 1⟩,
    ⟨⟨(some 75), none, (.extract (.t 55) 0)⟩, 1, 1⟩,
    ⟨⟨(some 76), none, (.extract (.t 55) 1)⟩, 1, 2⟩,
    ⟨⟨none, none, (.store 3 (.t 6) (.t 75))⟩, 1, 2⟩,
    ⟨⟨(some 8), none, (.mov (.t 76))⟩, 2, 2⟩])))))))))) (.seq (.reg [⟨(some 195), none, (.mov (.t 7))⟩,
    ⟨(some 196), none, (.bin .eql (.t 195) (.c (.int .i64 0)))⟩,
    ⟨(some 197), none, (.mov (.t 196))⟩,
    ⟨(some 198), (some (197, true)), (.mov (.t 8))⟩,
    ⟨(some 199), (some (197, true)), (.bin .eql (.t 198) (.c (.int .i64 0)))⟩,
    ⟨(some 200), none, (.pick (.t 197) (.t 199) (.c (.bool false)))⟩]) (.cond (.t 200) (.seq (.dreg false [⟨⟨(some 201), none, (.mov (.t 0))⟩, 0, 0⟩,
    ⟨⟨(some 202), none, (.nilCheck (.t 201))⟩, 0, 0⟩,
    ⟨⟨(some 203), none, (.fieldAddr 0 (.t 202))⟩, 0, 0⟩,
    ⟨⟨(some 204), none, (.load none (.t 203))⟩, 0, 0⟩,
    ⟨⟨(some 205), none, (.mov (.t 0))⟩, 0, 0⟩,
    ⟨⟨(some 206), none, (.nilCheck (.t 205))⟩, 0, 0⟩,
    ⟨⟨(some 207), none, (.fieldAddr 1 (.t 206))⟩, 0, 0⟩,
    ⟨⟨(some 208), none, (.load (some 3) (.t 207))⟩, 0, 0⟩,
    ⟨⟨(some 209), none, (.call (.f 44) [(.t 204), (.t 208)])⟩, 0, 1⟩]) (.seq (.reg [⟨(some 210), none, (.mov (.t 0))⟩,
    ⟨(some 211), none, (.load (some 3) (.t 5))⟩,
    ⟨(some 212), none, (.nilCheck (.t 210))⟩,
    ⟨(some 213), none, (.fieldAddr 1 (.t 212))⟩,
    ⟨none, none, (.store 3 (.t 213) (.t 211))⟩]) (.reg [⟨(some 214), none, (.mov (.t 0))⟩,
    ⟨(some 215), none, (.load (some 3) (.t 6))⟩,
    ⟨(some 216), none, (.nilCheck (.t 214))⟩,
    ⟨(some 217), none, (.fieldAddr 5 (.t 216))⟩,
    ⟨none, none, (.store 3 (.t 217) (.t 215))⟩]))) .skip)))))))) (.reg [⟨(some 17), none, (.mov (.t 4))⟩,
    ⟨(some 18), none, (.bin .add (.t 17) (.c (.int .i64 1)))⟩,
    ⟨(some 4), none, (.mov (.t 18))⟩])))
def s198 : SFn := ⟨[], (.seq (.reg [⟨(some 4), none, (.mov (.c (.int .i64 0)))⟩]) (.block 0 (.loop s198_l0)))⟩
/- (*moiety/view.View).may -/
def s199 : SFn := ⟨[.tmp 4], (.seq (.reg [⟨(some 3), none, (.box (.t 1))⟩,
    ⟨(some 4), none, (.mov (.c (.int .i64 0)))⟩]) (.seq (.block 0 (.seq (.reg [⟨(some 6), none, (.mov (.t 0))⟩,
    ⟨(some 7), none, (.eq false .ptr (.t 6) (.c (.ptr none)))⟩,
    ⟨(some 5), none, (.mov (.t 7))⟩]) (.cond (.t 5) (.seq (.reg [⟨(some 4), none, (.mov (.c (.int .i64 1)))⟩]) .ret) (.seq (.dreg false [⟨⟨(some 9), none, (.mov (.t 0))⟩, 0, 0⟩,
    ⟨⟨(some 10), none, (.nilCheck (.t 9))⟩, 0, 0⟩,
    ⟨⟨(some 11), none, (.fieldAddr 0 (.t 10))⟩, 0, 0⟩,
    ⟨⟨(some 12), none, (.load none (.t 11))⟩, 0, 0⟩,
    ⟨⟨(some 13), none, (.call (.f 85) [(.t 12)])⟩, 0, 1⟩,
    ⟨⟨(some 14), none, (.load (some 5) (.t 3))⟩, 0, 1⟩,
    ⟨⟨(some 15), none, (.call (.f 189) [(.t 13), (.t 14)])⟩, 1, 2⟩,
    ⟨⟨(some 16), none, (.un .not (.t 15))⟩, 2, 2⟩,
    ⟨⟨(some 8), none, (.mov (.t 16))⟩, 2, 2⟩]) (.cond (.t 8) (.seq (.reg [⟨(some 4), none, (.mov (.c (.int .i64 17)))⟩]) .ret) .skip))))) (.seq (.reg [⟨(some 4), none, (.mov (.c (.int .i64 0)))⟩]) .ret)))⟩
/- (*moiety/view.View).vals -/
def s200_l0 : S := (.seq (.reg [⟨(some 23), none, (.bin .lss (.t 22) (.t 21))⟩]) (.seq (.cond (.t 23) .skip (.exit 0)) (.seq (.block 1 (.seq (.reg [⟨(some 24), none, (.indexAddr none 1 (.t 20) (.t 22))⟩,
    ⟨(some 25), none, (.load none (.t 24))⟩,
    ⟨(some 11), none, (.mov (.t 25))⟩]) (.seq (.reg [⟨(some 27), none, (.mov (.t 0))⟩,
    ⟨(some 28), none, (.nilCheck (.t 27))⟩,
    ⟨(some 29), none, (.fieldAddr 1 (.t 28))⟩,
    ⟨(some 30), none, (.load none (.t 29))⟩,
    ⟨(some 31), none, (.mov (.t 1))⟩,
    ⟨(some 32), none, (.mov (.t 11))⟩,
    ⟨(some 33), none, (.call (.f 93) [(.t 30), (.t 31), (.t 32)])⟩,
    ⟨(some 26), none, (.mov (.t 33))⟩,
    ⟨(some 34), none, (.extract (.t 26) 0)⟩,
    ⟨(some 35), none, (.extract (.t 26) 1)⟩,
    ⟨(some 12), none, (.new [(.int .i64 0), (.bool false)])⟩,
    ⟨none, none, (.store 2 (.t 12) (.t 34))⟩,
    ⟨(some 13), none, (.mov (.t 35))⟩]) (.reg [⟨(some 36), none, (.mov (.t 9))⟩,
    ⟨(some 37), none, (.fieldAddr 0 (.t 12))⟩,
    ⟨(some 38), none, (.load none (.t 37))⟩,
    ⟨(some 39), none, (.buildSlice 1 [(.int .i64 0)] [(0, 1, (.t 38))])⟩,
    ⟨(some 40), none, (.append 1 8 (.t 36) (.t 39))⟩,
    ⟨(some 9), none, (.mov (.t 40))⟩])))) (.reg [⟨(some 41), none, (.bin .add (.t 22) (.c (.int .i64 1)))⟩,
    ⟨(some 22), none, (.mov (.t 41))⟩]))))
def s200 : SFn := ⟨[.tmp 6, .tmp 7], (.seq (.reg [⟨(some 5), none, (.box (.t 2))⟩,
    ⟨(some 6), none, (.mov (.c (.slice none 0 (.known 0))))⟩,
    ⟨(some 7), none, (.mov (.c (.slice none 0 (.known 0))))⟩]) (.seq (.dreg false [⟨⟨(some 14), none, (.mov (.t 0))⟩, 0, 0⟩,
    ⟨⟨(some 15), none, (.nilCheck (.t 14))⟩, 0, 0⟩,
    ⟨⟨(some 16), none, (.fieldAddr 0 (.t 15))⟩, 0, 0⟩,
    ⟨⟨(some 17), none, (.load none (.t 16))⟩, 0, 0⟩,
    ⟨⟨(some 18), none, (.load (some 5) (.t 5))⟩, 0, 0⟩,
    ⟨⟨(some 19), none, (.call (.f 100) [(.t 17), (.t 18)])⟩, 0, 1⟩,
    ⟨⟨(some 8), none, (.mov (.t 19))⟩, 1, 1⟩]) (.seq (.reg [⟨(some 9), none, (.mov (.c (.slice none 0 (.known 0))))⟩]) (.seq (.seq (.reg [⟨(some 20), none, (.mov (.t 8))⟩,
    ⟨(some 21), none, (.len false (.t 20))⟩,
    ⟨(some 22), none, (.mov (.c (.int .i64 0)))⟩]) (.block 0 (.loop s200_l0))) (.seq (.reg [⟨(some 42), none, (.mov (.t 8))⟩,
    ⟨(some 43), none, (.mov (.t 9))⟩,
    ⟨(some 6), none, (.mov (.t 42))⟩,
    ⟨(some 7), none, (.mov (.t 43))⟩]) .ret)))))⟩
/- moiety/num.Sum -/
def s201 : SFn := ⟨[.tmp 2, .tmp 3], (.seq (.reg [⟨(some 2), none, (.mov (.c (.int .i64 0)))⟩,
    ⟨(some 3), none, (.mov (.c (.int .i64 0)))⟩]) (.seq (.reg [⟨(some 4), none, (.build [(.int .i64 0), (.int .u64 0)] [])⟩,
    ⟨(some 5), none, (.mov (.t 0))⟩,
    ⟨(some 6), none, (.call (.f 143) [(.t 4), (.t 5)])⟩,
    ⟨(some 7), none, (.call (.f 144) [(.t 6)])⟩,
    ⟨(some 8), none, (.extract (.t 7) 0)⟩,
    ⟨(some 9), none, (.extract (.t 7) 1)⟩,
    ⟨(some 2), none, (.mov (.t 8))⟩,
    ⟨(some 3), none, (.mov (.t 9))⟩]) .ret))⟩
/- (*moiety/arena.Arena).Keep -/
def s202 : SFn := ⟨[.tmp 4], (.seq (.reg [⟨(some 4), none, (.mov (.c (.int .i64 0)))⟩]) (.seq (.reg [⟨(some 6), none, (.mov (.t 0))⟩,
    ⟨(some 7), none, (.mov (.t 1))⟩,
    ⟨(some 8), none, (.call (.f 273) [(.t 6), (.t 7)])⟩,
    ⟨(some 5), none, (.mov (.t 8))⟩]) (.seq (.seq (.reg [⟨(some 9), none, (.mov (.t 5))⟩,
    ⟨(some 10), none, (.eq false .ptr (.t 9) (.c (.ptr none)))⟩]) (.cond (.t 10) (.seq (.reg [⟨(some 11), none, (.mov (.t 0))⟩,
    ⟨(some 12), none, (.call (.f 274) [(.t 11)])⟩,
    ⟨(some 4), none, (.mov (.t 12))⟩]) .ret) .skip)) (.seq (.reg [⟨(some 13), none, (.mov (.t 5))⟩,
    ⟨(some 14), none, (.nilCheck (.t 13))⟩,
    ⟨(some 15), none, (.fieldAddr 25 (.t 14))⟩,
    ⟨(some 16), none, (.load none (.t 15))⟩,
    ⟨(some 17), none, (.bin .add (.t 16) (.c (.int .i64 1)))⟩,
    ⟨(some 18), none, (.nilCheck (.t 13))⟩,
    ⟨(some 19), none, (.fieldAddr 25 (.t 18))⟩,
    ⟨none, none, (.store 1 (.t 19) (.t 17))⟩]) (.seq (.reg [⟨(some 4), none, (.mov (.c (.int .i64 0)))⟩]) .ret)))))⟩
/- moiety/undo.backwards[moiety/state.State] -/
def s203 : SFn := ⟨[.tmp 2], (.seq (.reg [⟨(some 2), none, (.mov (.c (.slice none 0 (.known 0))))⟩]) (.seq (.reg [⟨(some 4), none, (.mov (.t 0))⟩,
    ⟨(some 5), none, (.call (.f 215) [(.t 4)])⟩,
    ⟨(some 3), none, (.mov (.t 5))⟩]) (.seq (.reg [⟨(some 6), none, (.mov (.t 3))⟩,
    ⟨(some 7), none, (.call (.f 278) [(.t 6)])⟩]) (.seq (.reg [⟨(some 8), none, (.mov (.t 3))⟩,
    ⟨(some 2), none, (.mov (.t 8))⟩]) .ret))))⟩
/- (*moiety/dims.Dims).Many -/
def s204 : SFn := ⟨[.tmp 2], (.seq (.reg [⟨(some 2), none, (.mov (.c (.int .i64 0)))⟩]) (.seq (.seq (.reg [⟨(some 3), none, (.mov (.t 0))⟩,
    ⟨(some 4), none, (.eq false .ptr (.t 3) (.c (.ptr none)))⟩]) (.cond (.t 4) (.seq (.reg [⟨(some 2), none, (.mov (.c (.int .i64 0)))⟩]) .ret) .skip)) (.seq (.reg [⟨(some 5), none, (.mov (.t 0))⟩,
    ⟨(some 6), none, (.nilCheck (.t 5))⟩,
    ⟨(some 7), none, (.fieldAddr 4 (.t 6))⟩,
    ⟨(some 8), none, (.load none (.t 7))⟩,
    ⟨(some 9), none, (.len false (.t 8))⟩,
    ⟨(some 2), none, (.mov (.t 9))⟩]) .ret)))⟩
/- (*moiety/dims.Dims).Tree -/
def s205 : SFn := ⟨[.tmp 4], (.seq (.reg [⟨(some 4), none, (.mov (.c (.ptr none)))⟩]) (.seq (.seq (.reg [⟨(some 5), none, (.mov (.t 1))⟩,
    ⟨(some 6), none, (.bin .lss (.t 5) (.c (.int .i64 0)))⟩,
    ⟨(some 7), none, (.mov (.t 6))⟩,
    ⟨(some 8), (some (7, false)), (.mov (.t 1))⟩,
    ⟨(some 9), (some (7, false)), (.mov (.t 0))⟩,
    ⟨(some 10), (some (7, false)), (.call (.f 204) [(.t 9)])⟩,
    ⟨(some 11), (some (7, false)), (.bin .geq (.t 8) (.t 10))⟩,
    ⟨(some 12), none, (.pick (.t 7) (.c (.bool true)) (.t 11))⟩]) (.cond (.t 12) (.seq (.reg [⟨(some 4), none, (.mov (.c (.ptr none)))⟩]) .ret) .skip)) (.seq (.reg [⟨(some 13), none, (.mov (.t 0))⟩,
    ⟨(some 14), none, (.nilCheck (.t 13))⟩,
    ⟨(some 15), none, (.fieldAddr 4 (.t 14))⟩,
    ⟨(some 16), none, (.load none (.t 15))⟩,
    ⟨(some 17), none, (.mov (.t 1))⟩,
    ⟨(some 18), none, (.indexAddr none 2 (.t 16) (.t 17))⟩,
    ⟨(some 19), none, (.fieldAddr 0 (.t 18))⟩,
    ⟨(some 20), none, (.load none (.t 19))⟩,
    ⟨(some 4), none, (.mov (.t 20))⟩]) .ret)))⟩
/- (*moiety/tree.Tree).Leaves -/
def s206 : SFn := ⟨[.tmp 2], (.seq (.reg [⟨(some 2), none, (.mov (.c (.slice none 0 (.known 0))))⟩]) (.seq (.seq (.reg [⟨(some 3), none, (.mov (.t 0))⟩,
    ⟨(some 4), none, (.eq false .ptr (.t 3) (.c (.ptr none)))⟩]) (.cond (.t 4) (.seq (.reg [⟨(some 2), none, (.mov (.c (.slice none 0 (.known 0))))⟩]) .ret) .skip)) (.seq (.reg [⟨(some 5), none, (.mov (.t 0))⟩,
    ⟨(some 6), none, (.nilCheck (.t 5))⟩,
    ⟨(some 7), none, (.fieldAddr 4 (.t 6))⟩,
    ⟨(some 8), none, (.load none (.t 7))⟩,
    ⟨(some 9), none, (.call (.f 279) [(.t 8)])⟩,
    ⟨(some 2), none, (.mov (.t 9))⟩]) .ret)))⟩
/- (*moiety/tree.Tree).Len -/
def s207 : SFn := ⟨[.tmp 2], (.seq (.reg [⟨(some 2), none, (.mov (.c (.int .i64 0)))⟩]) (.seq (.seq (.reg [⟨(some 3), none, (.mov (.t 0))⟩,
    ⟨(some 4), none, (.eq false .ptr (.t 3) (.c (.ptr none)))⟩]) (.cond (.t 4) (.seq (.reg [⟨(some 2), none, (.mov (.c (.int .i64 0)))⟩]) .ret) .skip)) (.seq (.reg [⟨(some 5), none, (.mov (.t 0))⟩,
    ⟨(some 6), none, (.nilCheck (.t 5))⟩,
    ⟨(some 7), none, (.fieldAddr 0 (.t 6))⟩,
    ⟨(some 8), none, (.load none (.t 7))⟩,
    ⟨(some 9), none, (.len false (.t 8))⟩,
    ⟨(some 2), none, (.mov (.t 9))⟩]) .ret)))⟩
/- (*moiety/coord.Space).all -/
def s208_l0 : S := (.seq (.reg [⟨(some 17), none, (.bin .lss (.t 16) (.t 15))⟩]) (.seq (.cond (.t 17) .skip (.exit 0)) (.seq (.block 1 (.seq (.reg [⟨(some 18), none, (.mov (.t 16))⟩,
    ⟨(some 6), none, (.mov (.t 18))⟩]) (.reg [⟨(some 19), none, (.mov (.t 5))⟩,
    ⟨(some 20), none, (.mov (.t 6))⟩,
    ⟨(some 21), none, (.indexAddr (some 4) 1 (.t 3) (.t 20))⟩,
    ⟨(some 22), none, (.load none (.t 21))⟩,
    ⟨(some 23), none, (.bin .mul (.t 19) (.t 22))⟩,
    ⟨(some 5), none, (.mov (.t 23))⟩]))) (.reg [⟨(some 24), none, (.bin .add (.t 16) (.c (.int .i64 1)))⟩,
    ⟨(some 16), none, (.mov (.t 24))⟩]))))
def s208 : SFn := ⟨[.tmp 4], (.seq (.reg [⟨(some 3), none, (.box (.t 1))⟩,
    ⟨(some 4), none, (.mov (.c (.int .i64 0)))⟩]) (.seq (.reg [⟨(some 7), none, (.mov (.t 0))⟩,
    ⟨(some 8), none, (.nilCheck (.t 7))⟩,
    ⟨(some 9), none, (.fieldAddr 1 (.t 8))⟩,
    ⟨(some 10), none, (.load none (.t 9))⟩,
    ⟨(some 5), none, (.mov (.t 10))⟩]) (.seq (.seq (.reg [⟨(some 11), none, (.mov (.t 0))⟩,
    ⟨(some 12), none, (.nilCheck (.t 11))⟩,
    ⟨(some 13), none, (.fieldAddr 2 (.t 12))⟩,
    ⟨(some 14), none, (.load none (.t 13))⟩,
    ⟨(some 15), none, (.len false (.t 14))⟩,
    ⟨(some 16), none, (.mov (.c (.int .i64 0)))⟩]) (.block 0 (.loop s208_l0))) (.seq (.reg [⟨(some 25), none, (.mov (.t 5))⟩,
    ⟨(some 4), none, (.mov (.t 25))⟩]) .ret))))⟩
theorem low133 : lowerFn Tryz.prog Tryz.f133 = some s133 := by kernel_rfl
theorem low134 : lowerFn Tryz.prog Tryz.f134 = some s134 := by kernel_rfl
theorem low135 : lowerFn Tryz.prog Tryz.f135 = some s135 := by kernel_rfl
theorem low136 : lowerFn Tryz.prog Tryz.f136 = some s136 := by kernel_rfl
theorem low137 : lowerFn Tryz.prog Tryz.f137 = some s137 := by kernel_rfl
theorem low138 : lowerFn Tryz.prog Tryz.f138 = some s138 := by kernel_rfl
theorem low139 : lowerFn Tryz.prog Tryz.f139 = some s139 := by kernel_rfl
theorem low140 : lowerFn Tryz.prog Tryz.f140 = some s140 := by kernel_rfl
theorem low141 : lowerFn Tryz.prog Tryz.f141 = some s141 := by kernel_rfl
theorem low142 : lowerFn Tryz.prog Tryz.f142 = some s142 := by kernel_rfl
theorem low143 : lowerFn Tryz.prog Tryz.f143 = some s143 := by kernel_rfl
theorem low144 : lowerFn Tryz.prog Tryz.f144 = some s144 := by kernel_rfl
theorem low146 : lowerFn Tryz.prog Tryz.f146 = some s146 := by kernel_rfl
theorem low147 : lowerFn Tryz.prog Tryz.f147 = some s147 := by kernel_rfl
theorem low148 : lowerFn Tryz.prog Tryz.f148 = some s148 := by kernel_rfl
theorem low149 : lowerFn Tryz.prog Tryz.f149 = some s149 := by kernel_rfl
theorem low150 : lowerFn Tryz.prog Tryz.f150 = some s150 := by kernel_rfl
theorem low157 : lowerFn Tryz.prog Tryz.f157 = some s157 := by kernel_rfl
theorem low158 : lowerFn Tryz.prog Tryz.f158 = some s158 := by kernel_rfl
theorem low159 : lowerFn Tryz.prog Tryz.f159 = some s159 := by kernel_rfl
theorem low160 : lowerFn Tryz.prog Tryz.f160 = some s160 := by kernel_rfl
theorem low163 : lowerFn Tryz.prog Tryz.f163 = some s163 := by kernel_rfl
theorem low170 : lowerFn Tryz.prog Tryz.f170 = some s170 := by kernel_rfl
theorem low171 : lowerFn Tryz.prog Tryz.f171 = some s171 := by kernel_rfl
theorem low172 : lowerFn Tryz.prog Tryz.f172 = some s172 := by kernel_rfl
theorem low173 : lowerFn Tryz.prog Tryz.f173 = some s173 := by kernel_rfl
theorem low174 : lowerFn Tryz.prog Tryz.f174 = some s174 := by kernel_rfl
theorem low175 : lowerFn Tryz.prog Tryz.f175 = some s175 := by kernel_rfl
theorem low176 : lowerFn Tryz.prog Tryz.f176 = some s176 := by kernel_rfl
theorem low177 : lowerFn Tryz.prog Tryz.f177 = some s177 := by kernel_rfl
theorem low178 : lowerFn Tryz.prog Tryz.f178 = some s178 := by kernel_rfl
theorem low179 : lowerFn Tryz.prog Tryz.f179 = some s179 := by kernel_rfl
theorem low180 : lowerFn Tryz.prog Tryz.f180 = some s180 := by kernel_rfl
theorem low181 : lowerFn Tryz.prog Tryz.f181 = some s181 := by kernel_rfl
theorem low182 : lowerFn Tryz.prog Tryz.f182 = some s182 := by kernel_rfl
theorem low183 : lowerFn Tryz.prog Tryz.f183 = some s183 := by kernel_rfl
theorem low185 : lowerFn Tryz.prog Tryz.f185 = some s185 := by kernel_rfl
theorem low186 : lowerFn Tryz.prog Tryz.f186 = some s186 := by kernel_rfl
theorem low187 : lowerFn Tryz.prog Tryz.f187 = some s187 := by kernel_rfl
theorem low188 : lowerFn Tryz.prog Tryz.f188 = some s188 := by kernel_rfl
theorem low189 : lowerFn Tryz.prog Tryz.f189 = some s189 := by kernel_rfl
theorem low190 : lowerFn Tryz.prog Tryz.f190 = some s190 := by kernel_rfl
theorem low191 : lowerFn Tryz.prog Tryz.f191 = some s191 := by kernel_rfl
theorem low192 : lowerFn Tryz.prog Tryz.f192 = some s192 := by kernel_rfl
theorem low193 : lowerFn Tryz.prog Tryz.f193 = some s193 := by kernel_rfl
theorem low194 : lowerFn Tryz.prog Tryz.f194 = some s194 := by kernel_rfl
theorem low195 : lowerFn Tryz.prog Tryz.f195 = some s195 := by kernel_rfl
theorem low196 : lowerFn Tryz.prog Tryz.f196 = some s196 := by kernel_rfl
theorem low197 : lowerFn Tryz.prog Tryz.f197 = some s197 := by kernel_rfl
theorem low198 : lowerFn Tryz.prog Tryz.f198 = some s198 := by kernel_rfl
theorem low199 : lowerFn Tryz.prog Tryz.f199 = some s199 := by kernel_rfl
theorem low200 : lowerFn Tryz.prog Tryz.f200 = some s200 := by kernel_rfl
theorem low201 : lowerFn Tryz.prog Tryz.f201 = some s201 := by kernel_rfl
theorem low202 : lowerFn Tryz.prog Tryz.f202 = some s202 := by kernel_rfl
theorem low203 : lowerFn Tryz.prog Tryz.f203 = some s203 := by kernel_rfl
theorem low204 : lowerFn Tryz.prog Tryz.f204 = some s204 := by kernel_rfl
theorem low205 : lowerFn Tryz.prog Tryz.f205 = some s205 := by kernel_rfl
theorem low206 : lowerFn Tryz.prog Tryz.f206 = some s206 := by kernel_rfl
theorem low207 : lowerFn Tryz.prog Tryz.f207 = some s207 := by kernel_rfl
theorem low208 : lowerFn Tryz.prog Tryz.f208 = some s208 := by kernel_rfl
theorem ok133 : DefOk Tryz.prog 133 (.text s133) := ⟨Tryz.call133, _, Tryz.func133, low133⟩
theorem ok134 : DefOk Tryz.prog 134 (.text s134) := ⟨Tryz.call134, _, Tryz.func134, low134⟩
theorem ok135 : DefOk Tryz.prog 135 (.text s135) := ⟨Tryz.call135, _, Tryz.func135, low135⟩
theorem ok136 : DefOk Tryz.prog 136 (.text s136) := ⟨Tryz.call136, _, Tryz.func136, low136⟩
theorem ok137 : DefOk Tryz.prog 137 (.text s137) := ⟨Tryz.call137, _, Tryz.func137, low137⟩
theorem ok138 : DefOk Tryz.prog 138 (.text s138) := ⟨Tryz.call138, _, Tryz.func138, low138⟩
theorem ok139 : DefOk Tryz.prog 139 (.text s139) := ⟨Tryz.call139, _, Tryz.func139, low139⟩
theorem ok140 : DefOk Tryz.prog 140 (.text s140) := ⟨Tryz.call140, _, Tryz.func140, low140⟩
theorem ok141 : DefOk Tryz.prog 141 (.text s141) := ⟨Tryz.call141, _, Tryz.func141, low141⟩
theorem ok142 : DefOk Tryz.prog 142 (.text s142) := ⟨Tryz.call142, _, Tryz.func142, low142⟩
theorem ok143 : DefOk Tryz.prog 143 (.text s143) := ⟨Tryz.call143, _, Tryz.func143, low143⟩
theorem ok144 : DefOk Tryz.prog 144 (.text s144) := ⟨Tryz.call144, _, Tryz.func144, low144⟩
theorem ok146 : DefOk Tryz.prog 146 (.text s146) := ⟨Tryz.call146, _, Tryz.func146, low146⟩
theorem ok147 : DefOk Tryz.prog 147 (.text s147) := ⟨Tryz.call147, _, Tryz.func147, low147⟩
theorem ok148 : DefOk Tryz.prog 148 (.text s148) := ⟨Tryz.call148, _, Tryz.func148, low148⟩
theorem ok149 : DefOk Tryz.prog 149 (.text s149) := ⟨Tryz.call149, _, Tryz.func149, low149⟩
theorem ok150 : DefOk Tryz.prog 150 (.text s150) := ⟨Tryz.call150, _, Tryz.func150, low150⟩
theorem ok157 : DefOk Tryz.prog 157 (.text s157) := ⟨Tryz.call157, _, Tryz.func157, low157⟩
theorem ok158 : DefOk Tryz.prog 158 (.text s158) := ⟨Tryz.call158, _, Tryz.func158, low158⟩
theorem ok159 : DefOk Tryz.prog 159 (.text s159) := ⟨Tryz.call159, _, Tryz.func159, low159⟩
theorem ok160 : DefOk Tryz.prog 160 (.text s160) := ⟨Tryz.call160, _, Tryz.func160, low160⟩
theorem ok163 : DefOk Tryz.prog 163 (.text s163) := ⟨Tryz.call163, _, Tryz.func163, low163⟩
theorem ok170 : DefOk Tryz.prog 170 (.text s170) := ⟨Tryz.call170, _, Tryz.func170, low170⟩
theorem ok171 : DefOk Tryz.prog 171 (.text s171) := ⟨Tryz.call171, _, Tryz.func171, low171⟩
theorem ok172 : DefOk Tryz.prog 172 (.text s172) := ⟨Tryz.call172, _, Tryz.func172, low172⟩
theorem ok173 : DefOk Tryz.prog 173 (.text s173) := ⟨Tryz.call173, _, Tryz.func173, low173⟩
theorem ok174 : DefOk Tryz.prog 174 (.text s174) := ⟨Tryz.call174, _, Tryz.func174, low174⟩
theorem ok175 : DefOk Tryz.prog 175 (.text s175) := ⟨Tryz.call175, _, Tryz.func175, low175⟩
theorem ok176 : DefOk Tryz.prog 176 (.text s176) := ⟨Tryz.call176, _, Tryz.func176, low176⟩
theorem ok177 : DefOk Tryz.prog 177 (.text s177) := ⟨Tryz.call177, _, Tryz.func177, low177⟩
theorem ok178 : DefOk Tryz.prog 178 (.text s178) := ⟨Tryz.call178, _, Tryz.func178, low178⟩
theorem ok179 : DefOk Tryz.prog 179 (.text s179) := ⟨Tryz.call179, _, Tryz.func179, low179⟩
theorem ok180 : DefOk Tryz.prog 180 (.text s180) := ⟨Tryz.call180, _, Tryz.func180, low180⟩
theorem ok181 : DefOk Tryz.prog 181 (.text s181) := ⟨Tryz.call181, _, Tryz.func181, low181⟩
theorem ok182 : DefOk Tryz.prog 182 (.text s182) := ⟨Tryz.call182, _, Tryz.func182, low182⟩
theorem ok183 : DefOk Tryz.prog 183 (.text s183) := ⟨Tryz.call183, _, Tryz.func183, low183⟩
theorem ok185 : DefOk Tryz.prog 185 (.text s185) := ⟨Tryz.call185, _, Tryz.func185, low185⟩
theorem ok186 : DefOk Tryz.prog 186 (.text s186) := ⟨Tryz.call186, _, Tryz.func186, low186⟩
theorem ok187 : DefOk Tryz.prog 187 (.text s187) := ⟨Tryz.call187, _, Tryz.func187, low187⟩
theorem ok188 : DefOk Tryz.prog 188 (.text s188) := ⟨Tryz.call188, _, Tryz.func188, low188⟩
theorem ok189 : DefOk Tryz.prog 189 (.text s189) := ⟨Tryz.call189, _, Tryz.func189, low189⟩
theorem ok190 : DefOk Tryz.prog 190 (.text s190) := ⟨Tryz.call190, _, Tryz.func190, low190⟩
theorem ok191 : DefOk Tryz.prog 191 (.text s191) := ⟨Tryz.call191, _, Tryz.func191, low191⟩
theorem ok192 : DefOk Tryz.prog 192 (.text s192) := ⟨Tryz.call192, _, Tryz.func192, low192⟩
theorem ok193 : DefOk Tryz.prog 193 (.text s193) := ⟨Tryz.call193, _, Tryz.func193, low193⟩
theorem ok194 : DefOk Tryz.prog 194 (.text s194) := ⟨Tryz.call194, _, Tryz.func194, low194⟩
theorem ok195 : DefOk Tryz.prog 195 (.text s195) := ⟨Tryz.call195, _, Tryz.func195, low195⟩
theorem ok196 : DefOk Tryz.prog 196 (.text s196) := ⟨Tryz.call196, _, Tryz.func196, low196⟩
theorem ok197 : DefOk Tryz.prog 197 (.text s197) := ⟨Tryz.call197, _, Tryz.func197, low197⟩
theorem ok198 : DefOk Tryz.prog 198 (.text s198) := ⟨Tryz.call198, _, Tryz.func198, low198⟩
theorem ok199 : DefOk Tryz.prog 199 (.text s199) := ⟨Tryz.call199, _, Tryz.func199, low199⟩
theorem ok200 : DefOk Tryz.prog 200 (.text s200) := ⟨Tryz.call200, _, Tryz.func200, low200⟩
theorem ok201 : DefOk Tryz.prog 201 (.text s201) := ⟨Tryz.call201, _, Tryz.func201, low201⟩
theorem ok202 : DefOk Tryz.prog 202 (.text s202) := ⟨Tryz.call202, _, Tryz.func202, low202⟩
theorem ok203 : DefOk Tryz.prog 203 (.text s203) := ⟨Tryz.call203, _, Tryz.func203, low203⟩
theorem ok204 : DefOk Tryz.prog 204 (.text s204) := ⟨Tryz.call204, _, Tryz.func204, low204⟩
theorem ok205 : DefOk Tryz.prog 205 (.text s205) := ⟨Tryz.call205, _, Tryz.func205, low205⟩
theorem ok206 : DefOk Tryz.prog 206 (.text s206) := ⟨Tryz.call206, _, Tryz.func206, low206⟩
theorem ok207 : DefOk Tryz.prog 207 (.text s207) := ⟨Tryz.call207, _, Tryz.func207, low207⟩
theorem ok208 : DefOk Tryz.prog 208 (.text s208) := ⟨Tryz.call208, _, Tryz.func208, low208⟩
def TFc0 : FuncId → Option Def
  | 133 => some (.text s133)
  | 134 => some (.text s134)
  | 135 => some (.text s135)
  | 136 => some (.text s136)
  | 137 => some (.text s137)
  | 138 => some (.text s138)
  | 139 => some (.text s139)
  | 140 => some (.text s140)
  | 141 => some (.text s141)
  | 142 => some (.text s142)
  | 143 => some (.text s143)
  | 144 => some (.text s144)
  | _ => none
theorem TFc0_ok : ∀ f d, TFc0 f = some d → DefOk Tryz.prog f d := by
  intro f d h
  unfold TFc0 at h
  split at h
  · cases h; exact ok133
  · cases h; exact ok134
  · cases h; exact ok135
  · cases h; exact ok136
  · cases h; exact ok137
  · cases h; exact ok138
  · cases h; exact ok139
  · cases h; exact ok140
  · cases h; exact ok141
  · cases h; exact ok142
  · cases h; exact ok143
  · cases h; exact ok144
  · cases h
def TFc1 : FuncId → Option Def
  | 146 => some (.text s146)
  | 147 => some (.text s147)
  | 148 => some (.text s148)
  | 149 => some (.text s149)
  | 150 => some (.text s150)
  | 157 => some (.text s157)
  | 158 => some (.text s158)
  | 159 => some (.text s159)
  | 160 => some (.text s160)
  | 163 => some (.text s163)
  | 170 => some (.text s170)
  | 171 => some (.text s171)
  | _ => none
theorem TFc1_ok : ∀ f d, TFc1 f = some d → DefOk Tryz.prog f d := by
  intro f d h
  unfold TFc1 at h
  split at h
  · cases h; exact ok146
  · cases h; exact ok147
  · cases h; exact ok148
  · cases h; exact ok149
  · cases h; exact ok150
  · cases h; exact ok157
  · cases h; exact ok158
  · cases h; exact ok159
  · cases h; exact ok160
  · cases h; exact ok163
  · cases h; exact ok170
  · cases h; exact ok171
  · cases h
def TFc2 : FuncId → Option Def
  | 172 => some (.text s172)
  | 173 => some (.text s173)
  | 174 => some (.text s174)
  | 175 => some (.text s175)
  | 176 => some (.text s176)
  | 177 => some (.text s177)
  | 178 => some (.text s178)
  | 179 => some (.text s179)
  | 180 => some (.text s180)
  | 181 => some (.text s181)
  | 182 => some (.text s182)
  | 183 => some (.text s183)
  | _ => none
theorem TFc2_ok : ∀ f d, TFc2 f = some d → DefOk Tryz.prog f d := by
  intro f d h
  unfold TFc2 at h
  split at h
  · cases h; exact ok172
  · cases h; exact ok173
  · cases h; exact ok174
  · cases h; exact ok175
  · cases h; exact ok176
  · cases h; exact ok177
  · cases h; exact ok178
  · cases h; exact ok179
  · cases h; exact ok180
  · cases h; exact ok181
  · cases h; exact ok182
  · cases h; exact ok183
  · cases h
def TFc3 : FuncId → Option Def
  | 185 => some (.text s185)
  | 186 => some (.text s186)
  | 187 => some (.text s187)
  | 188 => some (.text s188)
  | 189 => some (.text s189)
  | 190 => some (.text s190)
  | 191 => some (.text s191)
  | 192 => some (.text s192)
  | 193 => some (.text s193)
  | 194 => some (.text s194)
  | 195 => some (.text s195)
  | 196 => some (.text s196)
  | _ => none
theorem TFc3_ok : ∀ f d, TFc3 f = some d → DefOk Tryz.prog f d := by
  intro f d h
  unfold TFc3 at h
  split at h
  · cases h; exact ok185
  · cases h; exact ok186
  · cases h; exact ok187
  · cases h; exact ok188
  · cases h; exact ok189
  · cases h; exact ok190
  · cases h; exact ok191
  · cases h; exact ok192
  · cases h; exact ok193
  · cases h; exact ok194
  · cases h; exact ok195
  · cases h; exact ok196
  · cases h
def TFc4 : FuncId → Option Def
  | 197 => some (.text s197)
  | 198 => some (.text s198)
  | 199 => some (.text s199)
  | 200 => some (.text s200)
  | 201 => some (.text s201)
  | 202 => some (.text s202)
  | 203 => some (.text s203)
  | 204 => some (.text s204)
  | 205 => some (.text s205)
  | 206 => some (.text s206)
  | 207 => some (.text s207)
  | 208 => some (.text s208)
  | _ => none
theorem TFc4_ok : ∀ f d, TFc4 f = some d → DefOk Tryz.prog f d := by
  intro f d h
  unfold TFc4 at h
  split at h
  · cases h; exact ok197
  · cases h; exact ok198
  · cases h; exact ok199
  · cases h; exact ok200
  · cases h; exact ok201
  · cases h; exact ok202
  · cases h; exact ok203
  · cases h; exact ok204
  · cases h; exact ok205
  · cases h; exact ok206
  · cases h; exact ok207
  · cases h; exact ok208
  · cases h
def TFc (f : FuncId) : Option Def := cond (Nat.ble f 171) (cond (Nat.ble f 144) (TFc0 f) (TFc1 f)) (cond (Nat.ble f 183) (TFc2 f) (cond (Nat.ble f 196) (TFc3 f) (TFc4 f)))
theorem TFc_ok : ∀ f d, TFc f = some d → DefOk Tryz.prog f d := by
  intro f d h
  unfold TFc at h
  cases hb171 : Nat.ble f 171 with
  | true =>
    rw [hb171, cond_true] at h
    cases hb144 : Nat.ble f 144 with
    | true =>
      rw [hb144, cond_true] at h
      exact TFc0_ok f d h
    | false =>
      rw [hb144, cond_false] at h
      exact TFc1_ok f d h
  | false =>
    rw [hb171, cond_false] at h
    cases hb183 : Nat.ble f 183 with
    | true =>
      rw [hb183, cond_true] at h
      exact TFc2_ok f d h
    | false =>
      rw [hb183, cond_false] at h
      cases hb196 : Nat.ble f 196 with
      | true =>
        rw [hb196, cond_true] at h
        exact TFc3_ok f d h
      | false =>
        rw [hb196, cond_false] at h
        exact TFc4_ok f d h
end Go.Proofs.YtbdigabjcjdfcaaGreat
