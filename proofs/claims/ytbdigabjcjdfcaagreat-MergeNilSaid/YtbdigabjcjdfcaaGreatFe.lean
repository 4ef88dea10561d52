/-
  The functions of this seat as the evaluator has them: printed by a program of this session (wip/tools), each held against the translation by the kernel.
-/
import Derived.Test.YtbdigabjcjdfcaaGreatProg
import Derived.Test.YtbdigabjcjdfcaaGreatLu
import Derived.Test.YtbdigabjcjdfcaaGreatFz
import Derived.KernelRfl
namespace Go.Proofs.YtbdigabjcjdfcaaGreat
open Go.Lite
/- (*moiety/moietyref05.Tree).Order -/
def s297_l0 : S := (.seq (.seq (.reg [⟨(some 5), none, (.mov (.t 4))⟩,
    ⟨(some 6), none, (.mov (.t 0))⟩,
    ⟨(some 7), none, (.nilCheck (.t 6))⟩,
    ⟨(some 8), none, (.fieldAddr 0 (.t 7))⟩,
    ⟨(some 9), none, (.load none (.t 8))⟩,
    ⟨(some 10), none, (.len false (.t 9))⟩,
    ⟨(some 11), none, (.bin .lss (.t 5) (.t 10))⟩]) (.cond (.t 11) .skip (.exit 0))) (.seq (.block 1 (.seq (.reg [⟨(some 14), none, (.mov (.t 0))⟩,
    ⟨(some 15), none, (.nilCheck (.t 14))⟩,
    ⟨(some 16), none, (.fieldAddr 0 (.t 15))⟩,
    ⟨(some 17), none, (.load none (.t 16))⟩,
    ⟨(some 18), none, (.mov (.t 4))⟩,
    ⟨(some 19), none, (.indexAddr none 2 (.t 17) (.t 18))⟩,
    ⟨(some 20), none, (.fieldAddr 1 (.t 19))⟩,
    ⟨(some 21), none, (.load none (.t 20))⟩,
    ⟨(some 22), none, (.bin .lss (.t 21) (.c (.int .i64 0)))⟩]) (.cond (.t 22) (.reg [⟨(some 23), none, (.mov (.t 3))⟩,
    ⟨(some 24), none, (.mov (.t 0))⟩,
    ⟨(some 25), none, (.mov (.t 4))⟩,
    ⟨(some 26), none, (.call (.f 366) [(.t 24), (.t 25), (.c (.int .i64 0))])⟩,
    ⟨(some 27), none, (.append 1 8 (.t 23) (.t 26))⟩,
    ⟨(some 3), none, (.mov (.t 27))⟩]) .skip))) (.reg [⟨(some 12), none, (.mov (.t 4))⟩,
    ⟨(some 13), none, (.bin .add (.t 12) (.c (.int .i64 1)))⟩,
    ⟨(some 4), none, (.mov (.t 13))⟩])))
def s297 : SFn := ⟨[.tmp 2], (.seq (.reg [⟨(some 2), none, (.mov (.c (.slice none 0 (.known 0))))⟩]) (.seq (.reg [⟨(some 3), none, (.mov (.c (.slice none 0 (.known 0))))⟩]) (.seq (.seq (.reg [⟨(some 4), none, (.mov (.c (.int .i64 0)))⟩]) (.block 0 (.loop s297_l0))) (.seq (.reg [⟨(some 28), none, (.mov (.t 3))⟩,
    ⟨(some 2), none, (.mov (.t 28))⟩]) .ret))))⟩
/- (*moiety/moietyref05.Tree).Leaf -/
def s298 : SFn := ⟨[.tmp 4], (.seq (.reg [⟨(some 4), none, (.mov (.c (.bool false)))⟩]) (.seq (.reg [⟨(some 5), none, (.mov (.t 0))⟩,
    ⟨(some 6), none, (.mov (.t 1))⟩,
    ⟨(some 7), none, (.call (.f 367) [(.t 5), (.t 6)])⟩,
    ⟨(some 8), none, (.mov (.t 7))⟩,
    ⟨(some 9), (some (8, true)), (.mov (.t 0))⟩,
    ⟨(some 10), (some (8, true)), (.mov (.t 1))⟩,
    ⟨(some 11), (some (8, true)), (.call (.f 368) [(.t 9), (.t 10)])⟩,
    ⟨(some 12), (some (8, true)), (.len false (.t 11))⟩,
    ⟨(some 13), (some (8, true)), (.bin .eql (.t 12) (.c (.int .i64 0)))⟩,
    ⟨(some 14), none, (.pick (.t 8) (.t 13) (.c (.bool false)))⟩,
    ⟨(some 4), none, (.mov (.t 14))⟩]) .ret))⟩
/- slices.Contains[[]int,int] -/
def s299 : SFn := ⟨[.tmp 4], (.seq (.reg [⟨(some 4), none, (.mov (.c (.bool false)))⟩]) (.seq (.reg [⟨(some 5), none, (.mov (.t 0))⟩,
    ⟨(some 6), none, (.mov (.t 1))⟩,
    ⟨(some 7), none, (.call (.f 369) [(.t 5), (.t 6)])⟩,
    ⟨(some 8), none, (.bin .geq (.t 7) (.c (.int .i64 0)))⟩,
    ⟨(some 4), none, (.mov (.t 8))⟩]) .ret))⟩
/- slices.Clone[[]moiety/api.Cell,moiety/api.Cell] -/
def s300 : SFn := ⟨[.tmp 2], (.seq (.reg [⟨(some 2), none, (.mov (.c (.slice none 0 (.known 0))))⟩]) (.seq (.seq (.reg [⟨(some 3), none, (.mov (.t 0))⟩,
    ⟨(some 4), none, (.eq false .slice (.t 3) (.c (.slice none 0 (.known 0))))⟩]) (.cond (.t 4) (.seq (.reg [⟨(some 2), none, (.mov (.c (.slice none 0 (.known 0))))⟩]) .ret) .skip)) (.seq (.reg [⟨(some 5), none, (.buildSlice 0 [] [])⟩,
    ⟨(some 6), none, (.mov (.t 0))⟩,
    ⟨(some 7), none, (.append 5 40 (.t 5) (.t 6))⟩,
    ⟨(some 2), none, (.mov (.t 7))⟩]) .ret)))⟩
/- slices.pdqsortCmpFunc[moiety/api.Cell] -/
def s301_l0 : S := (.block 1 (.seq (.reg [⟨(some 21), none, (.mov (.t 2))⟩,
    ⟨(some 22), none, (.mov (.t 1))⟩,
    ⟨(some 23), none, (.bin .sub (.t 21) (.t 22))⟩,
    ⟨(some 12), none, (.mov (.t 23))⟩]) (.seq (.seq (.reg [⟨(some 24), none, (.mov (.t 12))⟩,
    ⟨(some 25), none, (.bin .leq (.t 24) (.c (.int .i64 12)))⟩]) (.cond (.t 25) (.seq (.reg [⟨(some 26), none, (.mov (.t 0))⟩,
    ⟨(some 27), none, (.mov (.t 1))⟩,
    ⟨(some 28), none, (.mov (.t 2))⟩,
    ⟨(some 29), none, (.mov (.t 4))⟩,
    ⟨(some 30), none, (.call (.f 370) [(.t 26), (.t 27), (.t 28), (.t 29)])⟩]) .ret) .skip)) (.seq (.seq (.reg [⟨(some 31), none, (.mov (.t 3))⟩,
    ⟨(some 32), none, (.bin .eql (.t 31) (.c (.int .i64 0)))⟩]) (.cond (.t 32) (.seq (.reg [⟨(some 33), none, (.mov (.t 0))⟩,
    ⟨(some 34), none, (.mov (.t 1))⟩,
    ⟨(some 35), none, (.mov (.t 2))⟩,
    ⟨(some 36), none, (.mov (.t 4))⟩,
    ⟨(some 37), none, (.call (.f 371) [(.t 33), (.t 34), (.t 35), (.t 36)])⟩]) .ret) .skip)) (.seq (.seq (.reg [⟨(some 38), none, (.mov (.t 10))⟩,
    ⟨(some 39), none, (.un .not (.t 38))⟩]) (.cond (.t 39) (.seq (.reg [⟨(some 40), none, (.mov (.t 0))⟩,
    ⟨(some 41), none, (.mov (.t 1))⟩,
    ⟨(some 42), none, (.mov (.t 2))⟩,
    ⟨(some 43), none, (.mov (.t 4))⟩,
    ⟨(some 44), none, (.call (.f 372) [(.t 40), (.t 41), (.t 42), (.t 43)])⟩]) (.reg [⟨(some 45), none, (.mov (.t 3))⟩,
    ⟨(some 46), none, (.bin .sub (.t 45) (.c (.int .i64 1)))⟩,
    ⟨(some 3), none, (.mov (.t 46))⟩])) .skip)) (.seq (.reg [⟨(some 48), none, (.mov (.t 0))⟩,
    ⟨(some 49), none, (.mov (.t 1))⟩,
    ⟨(some 50), none, (.mov (.t 2))⟩,
    ⟨(some 51), none, (.mov (.t 4))⟩,
    ⟨(some 52), none, (.call (.f 373) [(.t 48), (.t 49), (.t 50), (.t 51)])⟩,
    ⟨(some 47), none, (.mov (.t 52))⟩,
    ⟨(some 53), none, (.extract (.t 47) 0)⟩,
    ⟨(some 54), none, (.extract (.t 47) 1)⟩,
    ⟨(some 13), none, (.mov (.t 53))⟩,
    ⟨(some 14), none, (.mov (.t 54))⟩]) (.seq (.seq (.reg [⟨(some 55), none, (.mov (.t 14))⟩,
    ⟨(some 56), none, (.bin .eql (.t 55) (.c (.int .i64 2)))⟩]) (.cond (.t 56) (.seq (.reg [⟨(some 57), none, (.mov (.t 0))⟩,
    ⟨(some 58), none, (.mov (.t 1))⟩,
    ⟨(some 59), none, (.mov (.t 2))⟩,
    ⟨(some 60), none, (.mov (.t 4))⟩,
    ⟨(some 61), none, (.call (.f 374) [(.t 57), (.t 58), (.t 59), (.t 60)])⟩]) (.seq (.reg [⟨(some 62), none, (.mov (.t 2))⟩,
    ⟨(some 63), none, (.bin .sub (.t 62) (.c (.int .i64 1)))⟩,
    ⟨(some 64), none, (.mov (.t 13))⟩,
    ⟨(some 65), none, (.mov (.t 1))⟩,
    ⟨(some 66), none, (.bin .sub (.t 64) (.t 65))⟩,
    ⟨(some 67), none, (.bin .sub (.t 63) (.t 66))⟩,
    ⟨(some 13), none, (.mov (.t 67))⟩]) (.reg [⟨(some 14), none, (.mov (.c (.int .i64 1)))⟩]))) .skip)) (.seq (.seq (.reg [⟨(some 68), none, (.mov (.t 10))⟩,
    ⟨(some 69), none, (.mov (.t 68))⟩,
    ⟨(some 70), (some (69, true)), (.mov (.t 11))⟩,
    ⟨(some 71), none, (.pick (.t 69) (.t 70) (.c (.bool false)))⟩,
    ⟨(some 72), none, (.mov (.t 71))⟩,
    ⟨(some 73), (some (72, true)), (.mov (.t 14))⟩,
    ⟨(some 74), (some (72, true)), (.bin .eql (.t 73) (.c (.int .i64 1)))⟩,
    ⟨(some 75), none, (.pick (.t 72) (.t 74) (.c (.bool false)))⟩]) (.cond (.t 75) (.seq (.reg [⟨(some 76), none, (.mov (.t 0))⟩,
    ⟨(some 77), none, (.mov (.t 1))⟩,
    ⟨(some 78), none, (.mov (.t 2))⟩,
    ⟨(some 79), none, (.mov (.t 4))⟩,
    ⟨(some 80), none, (.call (.f 375) [(.t 76), (.t 77), (.t 78), (.t 79)])⟩]) (.cond (.t 80) .ret .skip)) .skip)) (.seq (.seq (.dreg false [⟨⟨(some 81), none, (.mov (.t 1))⟩, 0, 0⟩,
    ⟨⟨(some 82), none, (.bin .gtr (.t 81) (.c (.int .i64 0)))⟩, 0, 0⟩,
    ⟨⟨(some 83), none, (.mov (.t 82))⟩, 0, 0⟩,
    ⟨⟨(some 84), (some (83, true)), (.mov (.t 4))⟩, 0, 0⟩,
    ⟨⟨(some 85), (some (83, true)), (.mov (.t 0))⟩, 0, 0⟩,
    ⟨⟨(some 86), (some (83, true)), (.mov (.t 1))⟩, 0, 0⟩,
    ⟨⟨(some 87), (some (83, true)), (.bin .sub (.t 86) (.c (.int .i64 1)))⟩, 0, 0⟩,
    ⟨⟨(some 88), (some (83, true)), (.indexAddr none 5 (.t 85) (.t 87))⟩, 0, 0⟩,
    ⟨⟨(some 89), (some (83, true)), (.load (some 5) (.t 88))⟩, 0, 0⟩,
    ⟨⟨(some 90), (some (83, true)), (.mov (.t 0))⟩, 0, 0⟩,
    ⟨⟨(some 91), (some (83, true)), (.mov (.t 13))⟩, 0, 0⟩,
    ⟨⟨(some 92), (some (83, true)), (.indexAddr none 5 (.t 90) (.t 91))⟩, 0, 0⟩,
    ⟨⟨(some 93), (some (83, true)), (.load (some 5) (.t 92))⟩, 0, 0⟩,
    ⟨⟨(some 94), (some (83, true)), (.call (.t 84) [(.t 89), (.t 93)])⟩, 0, 1⟩,
    ⟨⟨(some 95), (some (83, true)), (.bin .lss (.t 94) (.c (.int .i64 0)))⟩, 1, 1⟩,
    ⟨⟨(some 96), (some (83, true)), (.un .not (.t 95))⟩, 1, 1⟩,
    ⟨⟨(some 97), none, (.pick (.t 83) (.t 96) (.c (.bool false)))⟩, 1, 1⟩]) (.cond (.t 97) (.seq (.reg [⟨(some 98), none, (.mov (.t 0))⟩,
    ⟨(some 99), none, (.mov (.t 1))⟩,
    ⟨(some 100), none, (.mov (.t 2))⟩,
    ⟨(some 101), none, (.mov (.t 13))⟩,
    ⟨(some 102), none, (.mov (.t 4))⟩,
    ⟨(some 103), none, (.call (.f 376) [(.t 98), (.t 99), (.t 100), (.t 101), (.t 102)])⟩,
    ⟨(some 15), none, (.mov (.t 103))⟩]) (.seq (.reg [⟨(some 104), none, (.mov (.t 15))⟩,
    ⟨(some 1), none, (.mov (.t 104))⟩]) (.exit 1))) .skip)) (.seq (.reg [⟨(some 106), none, (.mov (.t 0))⟩,
    ⟨(some 107), none, (.mov (.t 1))⟩,
    ⟨(some 108), none, (.mov (.t 2))⟩,
    ⟨(some 109), none, (.mov (.t 13))⟩,
    ⟨(some 110), none, (.mov (.t 4))⟩,
    ⟨(some 111), none, (.call (.f 377) [(.t 106), (.t 107), (.t 108), (.t 109), (.t 110)])⟩,
    ⟨(some 105), none, (.mov (.t 111))⟩,
    ⟨(some 112), none, (.extract (.t 105) 0)⟩,
    ⟨(some 113), none, (.extract (.t 105) 1)⟩,
    ⟨(some 16), none, (.mov (.t 112))⟩,
    ⟨(some 17), none, (.mov (.t 113))⟩]) (.seq (.reg [⟨(some 114), none, (.mov (.t 17))⟩,
    ⟨(some 11), none, (.mov (.t 114))⟩]) (.seq (.reg [⟨(some 115), none, (.mov (.t 16))⟩,
    ⟨(some 116), none, (.mov (.t 1))⟩,
    ⟨(some 117), none, (.bin .sub (.t 115) (.t 116))⟩,
    ⟨(some 118), none, (.mov (.t 2))⟩,
    ⟨(some 119), none, (.mov (.t 16))⟩,
    ⟨(some 120), none, (.bin .sub (.t 118) (.t 119))⟩,
    ⟨(some 18), none, (.mov (.t 117))⟩,
    ⟨(some 19), none, (.mov (.t 120))⟩]) (.seq (.reg [⟨(some 121), none, (.mov (.t 12))⟩,
    ⟨(some 122), none, (.bin .quo (.t 121) (.c (.int .i64 8)))⟩,
    ⟨(some 20), none, (.mov (.t 122))⟩]) (.seq (.reg [⟨(some 123), none, (.mov (.t 18))⟩,
    ⟨(some 124), none, (.mov (.t 19))⟩,
    ⟨(some 125), none, (.bin .lss (.t 123) (.t 124))⟩]) (.cond (.t 125) (.seq (.reg [⟨(some 126), none, (.mov (.t 18))⟩,
    ⟨(some 127), none, (.mov (.t 20))⟩,
    ⟨(some 128), none, (.bin .geq (.t 126) (.t 127))⟩,
    ⟨(some 10), none, (.mov (.t 128))⟩]) (.seq (.reg [⟨(some 129), none, (.mov (.t 0))⟩,
    ⟨(some 130), none, (.mov (.t 1))⟩,
    ⟨(some 131), none, (.mov (.t 16))⟩,
    ⟨(some 132), none, (.mov (.t 3))⟩,
    ⟨(some 133), none, (.mov (.t 4))⟩,
    ⟨(some 134), none, (.call (.f 301) [(.t 129), (.t 130), (.t 131), (.t 132), (.t 133)])⟩]) (.reg [⟨(some 135), none, (.mov (.t 16))⟩,
    ⟨(some 136), none, (.bin .add (.t 135) (.c (.int .i64 1)))⟩,
    ⟨(some 1), none, (.mov (.t 136))⟩]))) (.seq (.reg [⟨(some 137), none, (.mov (.t 19))⟩,
    ⟨(some 138), none, (.mov (.t 20))⟩,
    ⟨(some 139), none, (.bin .geq (.t 137) (.t 138))⟩,
    ⟨(some 10), none, (.mov (.t 139))⟩]) (.seq (.reg [⟨(some 140), none, (.mov (.t 0))⟩,
    ⟨(some 141), none, (.mov (.t 16))⟩,
    ⟨(some 142), none, (.bin .add (.t 141) (.c (.int .i64 1)))⟩,
    ⟨(some 143), none, (.mov (.t 2))⟩,
    ⟨(some 144), none, (.mov (.t 3))⟩,
    ⟨(some 145), none, (.mov (.t 4))⟩,
    ⟨(some 146), none, (.call (.f 301) [(.t 140), (.t 142), (.t 143), (.t 144), (.t 145)])⟩]) (.reg [⟨(some 147), none, (.mov (.t 16))⟩,
    ⟨(some 2), none, (.mov (.t 147))⟩]))))))))))))))))))
def s301 : SFn := ⟨[], (.seq (.reg [⟨(some 10), none, (.mov (.c (.bool true)))⟩]) (.seq (.reg [⟨(some 11), none, (.mov (.c (.bool true)))⟩]) (.block 0 (.loop s301_l0))))⟩
/- slices.IndexFunc[[]moiety/lock.entry,moiety/lock.entry] -/
def s302_l0 : S := (.seq (.reg [⟨(some 9), none, (.bin .lss (.t 8) (.t 7))⟩]) (.seq (.cond (.t 9) .skip (.exit 0)) (.seq (.block 1 (.seq (.reg [⟨(some 10), none, (.mov (.t 8))⟩,
    ⟨(some 5), none, (.mov (.t 10))⟩]) (.seq (.reg [⟨(some 11), none, (.mov (.t 1))⟩,
    ⟨(some 12), none, (.mov (.t 0))⟩,
    ⟨(some 13), none, (.mov (.t 5))⟩,
    ⟨(some 14), none, (.indexAddr none 7 (.t 12) (.t 13))⟩,
    ⟨(some 15), none, (.load (some 7) (.t 14))⟩,
    ⟨(some 16), none, (.call (.t 11) [(.t 15)])⟩]) (.cond (.t 16) (.seq (.reg [⟨(some 17), none, (.mov (.t 5))⟩,
    ⟨(some 4), none, (.mov (.t 17))⟩]) .ret) .skip)))) (.reg [⟨(some 18), none, (.bin .add (.t 8) (.c (.int .i64 1)))⟩,
    ⟨(some 8), none, (.mov (.t 18))⟩]))))
def s302 : SFn := ⟨[.tmp 4], (.seq (.reg [⟨(some 4), none, (.mov (.c (.int .i64 0)))⟩]) (.seq (.seq (.reg [⟨(some 6), none, (.mov (.t 0))⟩,
    ⟨(some 7), none, (.len false (.t 6))⟩,
    ⟨(some 8), none, (.mov (.c (.int .i64 0)))⟩]) (.block 0 (.loop s302_l0))) (.seq (.reg [⟨(some 4), none, (.mov (.c (.int .i64 (-1))))⟩]) .ret)))⟩
/- moiety/basis.weigher$3 -/
def s307 : SFn := ⟨[.tmp 2], (.seq (.reg [⟨(some 2), none, (.mov (.c (.int .u64 0)))⟩]) (.seq (.reg [⟨(some 2), none, (.mov (.c (.int .u64 1)))⟩]) .ret))⟩
/- math/bits.Mul64 -/
def s308 : SFn := ⟨[.tmp 4, .tmp 5], (.seq (.reg [⟨(some 4), none, (.mov (.c (.int .u64 0)))⟩,
    ⟨(some 5), none, (.mov (.c (.int .u64 0)))⟩]) (.seq (.reg [⟨(some 14), none, (.mov (.t 0))⟩,
    ⟨(some 15), none, (.bin .and (.t 14) (.c (.int .u64 4294967295)))⟩,
    ⟨(some 6), none, (.mov (.t 15))⟩]) (.seq (.reg [⟨(some 16), none, (.mov (.t 0))⟩,
    ⟨(some 17), none, (.bin .shr (.t 16) (.c (.int .u64 32)))⟩,
    ⟨(some 7), none, (.mov (.t 17))⟩]) (.seq (.reg [⟨(some 18), none, (.mov (.t 1))⟩,
    ⟨(some 19), none, (.bin .and (.t 18) (.c (.int .u64 4294967295)))⟩,
    ⟨(some 8), none, (.mov (.t 19))⟩]) (.seq (.reg [⟨(some 20), none, (.mov (.t 1))⟩,
    ⟨(some 21), none, (.bin .shr (.t 20) (.c (.int .u64 32)))⟩,
    ⟨(some 9), none, (.mov (.t 21))⟩]) (.seq (.reg [⟨(some 22), none, (.mov (.t 6))⟩,
    ⟨(some 23), none, (.mov (.t 8))⟩,
    ⟨(some 24), none, (.bin .mul (.t 22) (.t 23))⟩,
    ⟨(some 10), none, (.mov (.t 24))⟩]) (.seq (.reg [⟨(some 25), none, (.mov (.t 7))⟩,
    ⟨(some 26), none, (.mov (.t 8))⟩,
    ⟨(some 27), none, (.bin .mul (.t 25) (.t 26))⟩,
    ⟨(some 28), none, (.mov (.t 10))⟩,
    ⟨(some 29), none, (.bin .shr (.t 28) (.c (.int .u64 32)))⟩,
    ⟨(some 30), none, (.bin .add (.t 27) (.t 29))⟩,
    ⟨(some 11), none, (.mov (.t 30))⟩]) (.seq (.reg [⟨(some 31), none, (.mov (.t 11))⟩,
    ⟨(some 32), none, (.bin .and (.t 31) (.c (.int .u64 4294967295)))⟩,
    ⟨(some 12), none, (.mov (.t 32))⟩]) (.seq (.reg [⟨(some 33), none, (.mov (.t 11))⟩,
    ⟨(some 34), none, (.bin .shr (.t 33) (.c (.int .u64 32)))⟩,
    ⟨(some 13), none, (.mov (.t 34))⟩]) (.seq (.reg [⟨(some 35), none, (.mov (.t 12))⟩,
    ⟨(some 36), none, (.mov (.t 6))⟩,
    ⟨(some 37), none, (.mov (.t 9))⟩,
    ⟨(some 38), none, (.bin .mul (.t 36) (.t 37))⟩,
    ⟨(some 39), none, (.bin .add (.t 35) (.t 38))⟩,
    ⟨(some 12), none, (.mov (.t 39))⟩]) (.seq (.reg [⟨(some 40), none, (.mov (.t 7))⟩,
    ⟨(some 41), none, (.mov (.t 9))⟩,
    ⟨(some 42), none, (.bin .mul (.t 40) (.t 41))⟩,
    ⟨(some 43), none, (.mov (.t 13))⟩,
    ⟨(some 44), none, (.bin .add (.t 42) (.t 43))⟩,
    ⟨(some 45), none, (.mov (.t 12))⟩,
    ⟨(some 46), none, (.bin .shr (.t 45) (.c (.int .u64 32)))⟩,
    ⟨(some 47), none, (.bin .add (.t 44) (.t 46))⟩,
    ⟨(some 4), none, (.mov (.t 47))⟩]) (.seq (.reg [⟨(some 48), none, (.mov (.t 0))⟩,
    ⟨(some 49), none, (.mov (.t 1))⟩,
    ⟨(some 50), none, (.bin .mul (.t 48) (.t 49))⟩,
    ⟨(some 5), none, (.mov (.t 50))⟩]) .ret))))))))))))⟩
/- math/bits.Div64 -/
def s309_l0 : S := (.seq (.seq (.reg [⟨(some 67), none, (.mov (.t 15))⟩,
    ⟨(some 68), none, (.bin .geq (.t 67) (.c (.int .u64 4294967296)))⟩,
    ⟨(some 69), none, (.mov (.t 68))⟩,
    ⟨(some 70), (some (69, false)), (.mov (.t 15))⟩,
    ⟨(some 71), (some (69, false)), (.mov (.t 10))⟩,
    ⟨(some 72), (some (69, false)), (.bin .mul (.t 70) (.t 71))⟩,
    ⟨(some 73), (some (69, false)), (.mov (.t 16))⟩,
    ⟨(some 74), (some (69, false)), (.bin .mul (.c (.int .u64 4294967296)) (.t 73))⟩,
    ⟨(some 75), (some (69, false)), (.mov (.t 13))⟩,
    ⟨(some 76), (some (69, false)), (.bin .add (.t 74) (.t 75))⟩,
    ⟨(some 77), (some (69, false)), (.bin .gtr (.t 72) (.t 76))⟩,
    ⟨(some 78), none, (.pick (.t 69) (.c (.bool true)) (.t 77))⟩]) (.cond (.t 78) .skip (.exit 0))) (.block 1 (.seq (.reg [⟨(some 79), none, (.mov (.t 15))⟩,
    ⟨(some 80), none, (.bin .sub (.t 79) (.c (.int .u64 1)))⟩,
    ⟨(some 15), none, (.mov (.t 80))⟩]) (.seq (.reg [⟨(some 81), none, (.mov (.t 16))⟩,
    ⟨(some 82), none, (.mov (.t 9))⟩,
    ⟨(some 83), none, (.bin .add (.t 81) (.t 82))⟩,
    ⟨(some 16), none, (.mov (.t 83))⟩]) (.seq (.reg [⟨(some 84), none, (.mov (.t 16))⟩,
    ⟨(some 85), none, (.bin .geq (.t 84) (.c (.int .u64 4294967296)))⟩]) (.cond (.t 85) (.exit 0) .skip))))))
def s309_l1 : S := (.seq (.seq (.reg [⟨(some 102), none, (.mov (.t 18))⟩,
    ⟨(some 103), none, (.bin .geq (.t 102) (.c (.int .u64 4294967296)))⟩,
    ⟨(some 104), none, (.mov (.t 103))⟩,
    ⟨(some 105), (some (104, false)), (.mov (.t 18))⟩,
    ⟨(some 106), (some (104, false)), (.mov (.t 10))⟩,
    ⟨(some 107), (some (104, false)), (.bin .mul (.t 105) (.t 106))⟩,
    ⟨(some 108), (some (104, false)), (.mov (.t 16))⟩,
    ⟨(some 109), (some (104, false)), (.bin .mul (.c (.int .u64 4294967296)) (.t 108))⟩,
    ⟨(some 110), (some (104, false)), (.mov (.t 14))⟩,
    ⟨(some 111), (some (104, false)), (.bin .add (.t 109) (.t 110))⟩,
    ⟨(some 112), (some (104, false)), (.bin .gtr (.t 107) (.t 111))⟩,
    ⟨(some 113), none, (.pick (.t 104) (.c (.bool true)) (.t 112))⟩]) (.cond (.t 113) .skip (.exit 2))) (.block 3 (.seq (.reg [⟨(some 114), none, (.mov (.t 18))⟩,
    ⟨(some 115), none, (.bin .sub (.t 114) (.c (.int .u64 1)))⟩,
    ⟨(some 18), none, (.mov (.t 115))⟩]) (.seq (.reg [⟨(some 116), none, (.mov (.t 16))⟩,
    ⟨(some 117), none, (.mov (.t 9))⟩,
    ⟨(some 118), none, (.bin .add (.t 116) (.t 117))⟩,
    ⟨(some 16), none, (.mov (.t 118))⟩]) (.seq (.reg [⟨(some 119), none, (.mov (.t 16))⟩,
    ⟨(some 120), none, (.bin .geq (.t 119) (.c (.int .u64 4294967296)))⟩]) (.cond (.t 120) (.exit 2) .skip))))))
def s309 : SFn := ⟨[.tmp 6, .tmp 7], (.seq (.reg [⟨(some 6), none, (.mov (.c (.int .u64 0)))⟩,
    ⟨(some 7), none, (.mov (.c (.int .u64 0)))⟩]) (.seq (.seq (.reg [⟨(some 19), none, (.mov (.t 2))⟩,
    ⟨(some 20), none, (.bin .eql (.t 19) (.c (.int .u64 0)))⟩]) (.cond (.t 20) (.reg [⟨(some 21), none, .no⟩,
    ⟨none, none, .no⟩]) .skip)) (.seq (.seq (.reg [⟨(some 22), none, (.mov (.t 2))⟩,
    ⟨(some 23), none, (.mov (.t 0))⟩,
    ⟨(some 24), none, (.bin .leq (.t 22) (.t 23))⟩]) (.cond (.t 24) (.reg [⟨(some 25), none, .no⟩,
    ⟨none, none, .no⟩]) .skip)) (.seq (.seq (.reg [⟨(some 26), none, (.mov (.t 0))⟩,
    ⟨(some 27), none, (.bin .eql (.t 26) (.c (.int .u64 0)))⟩]) (.cond (.t 27) (.seq (.dreg false [⟨⟨(some 28), none, (.mov (.t 1))⟩, 0, 0⟩,
    ⟨⟨(some 29), none, (.mov (.t 2))⟩, 0, 0⟩,
    ⟨⟨(some 30), none, (.bin .quo (.t 28) (.t 29))⟩, 0, 0⟩,
    ⟨⟨(some 31), none, (.mov (.t 1))⟩, 0, 0⟩,
    ⟨⟨(some 32), none, (.mov (.t 2))⟩, 0, 0⟩,
    ⟨⟨(some 33), none, (.bin .rem (.t 31) (.t 32))⟩, 0, 0⟩,
    ⟨⟨(some 6), none, (.mov (.t 30))⟩, 0, 0⟩,
    ⟨⟨(some 7), none, (.mov (.t 33))⟩, 0, 0⟩]) .ret) .skip)) (.seq (.reg [⟨(some 34), none, (.mov (.t 2))⟩,
    ⟨(some 35), none, (.call (.f 378) [(.t 34)])⟩,
    ⟨(some 36), none, (.convInt .u64 (.t 35))⟩,
    ⟨(some 8), none, (.mov (.t 36))⟩]) (.seq (.reg [⟨(some 37), none, (.mov (.t 2))⟩,
    ⟨(some 38), none, (.mov (.t 8))⟩,
    ⟨(some 39), none, (.bin .shl (.t 37) (.t 38))⟩,
    ⟨(some 2), none, (.mov (.t 39))⟩]) (.seq (.reg [⟨(some 40), none, (.mov (.t 2))⟩,
    ⟨(some 41), none, (.bin .shr (.t 40) (.c (.int .u64 32)))⟩,
    ⟨(some 9), none, (.mov (.t 41))⟩]) (.seq (.reg [⟨(some 42), none, (.mov (.t 2))⟩,
    ⟨(some 43), none, (.bin .and (.t 42) (.c (.int .u64 4294967295)))⟩,
    ⟨(some 10), none, (.mov (.t 43))⟩]) (.seq (.reg [⟨(some 44), none, (.mov (.t 0))⟩,
    ⟨(some 45), none, (.mov (.t 8))⟩,
    ⟨(some 46), none, (.bin .shl (.t 44) (.t 45))⟩,
    ⟨(some 47), none, (.mov (.t 1))⟩,
    ⟨(some 48), none, (.mov (.t 8))⟩,
    ⟨(some 49), none, (.bin .sub (.c (.int .u64 64)) (.t 48))⟩,
    ⟨(some 50), none, (.bin .shr (.t 47) (.t 49))⟩,
    ⟨(some 51), none, (.bin .or (.t 46) (.t 50))⟩,
    ⟨(some 11), none, (.mov (.t 51))⟩]) (.seq (.reg [⟨(some 52), none, (.mov (.t 1))⟩,
    ⟨(some 53), none, (.mov (.t 8))⟩,
    ⟨(some 54), none, (.bin .shl (.t 52) (.t 53))⟩,
    ⟨(some 12), none, (.mov (.t 54))⟩]) (.seq (.reg [⟨(some 55), none, (.mov (.t 12))⟩,
    ⟨(some 56), none, (.bin .shr (.t 55) (.c (.int .u64 32)))⟩,
    ⟨(some 13), none, (.mov (.t 56))⟩]) (.seq (.reg [⟨(some 57), none, (.mov (.t 12))⟩,
    ⟨(some 58), none, (.bin .and (.t 57) (.c (.int .u64 4294967295)))⟩,
    ⟨(some 14), none, (.mov (.t 58))⟩]) (.seq (.reg [⟨(some 59), none, (.mov (.t 11))⟩,
    ⟨(some 60), none, (.mov (.t 9))⟩,
    ⟨(some 61), none, (.bin .quo (.t 59) (.t 60))⟩,
    ⟨(some 15), none, (.mov (.t 61))⟩]) (.seq (.reg [⟨(some 62), none, (.mov (.t 11))⟩,
    ⟨(some 63), none, (.mov (.t 15))⟩,
    ⟨(some 64), none, (.mov (.t 9))⟩,
    ⟨(some 65), none, (.bin .mul (.t 63) (.t 64))⟩,
    ⟨(some 66), none, (.bin .sub (.t 62) (.t 65))⟩,
    ⟨(some 16), none, (.mov (.t 66))⟩]) (.seq (.block 0 (.loop s309_l0)) (.seq (.reg [⟨(some 86), none, (.mov (.t 11))⟩,
    ⟨(some 87), none, (.bin .mul (.t 86) (.c (.int .u64 4294967296)))⟩,
    ⟨(some 88), none, (.mov (.t 13))⟩,
    ⟨(some 89), none, (.bin .add (.t 87) (.t 88))⟩,
    ⟨(some 90), none, (.mov (.t 15))⟩,
    ⟨(some 91), none, (.mov (.t 2))⟩,
    ⟨(some 92), none, (.bin .mul (.t 90) (.t 91))⟩,
    ⟨(some 93), none, (.bin .sub (.t 89) (.t 92))⟩,
    ⟨(some 17), none, (.mov (.t 93))⟩]) (.seq (.reg [⟨(some 94), none, (.mov (.t 17))⟩,
    ⟨(some 95), none, (.mov (.t 9))⟩,
    ⟨(some 96), none, (.bin .quo (.t 94) (.t 95))⟩,
    ⟨(some 18), none, (.mov (.t 96))⟩]) (.seq (.reg [⟨(some 97), none, (.mov (.t 17))⟩,
    ⟨(some 98), none, (.mov (.t 18))⟩,
    ⟨(some 99), none, (.mov (.t 9))⟩,
    ⟨(some 100), none, (.bin .mul (.t 98) (.t 99))⟩,
    ⟨(some 101), none, (.bin .sub (.t 97) (.t 100))⟩,
    ⟨(some 16), none, (.mov (.t 101))⟩]) (.seq (.block 2 (.loop s309_l1)) (.seq (.reg [⟨(some 121), none, (.mov (.t 15))⟩,
    ⟨(some 122), none, (.bin .mul (.t 121) (.c (.int .u64 4294967296)))⟩,
    ⟨(some 123), none, (.mov (.t 18))⟩,
    ⟨(some 124), none, (.bin .add (.t 122) (.t 123))⟩,
    ⟨(some 125), none, (.mov (.t 17))⟩,
    ⟨(some 126), none, (.bin .mul (.t 125) (.c (.int .u64 4294967296)))⟩,
    ⟨(some 127), none, (.mov (.t 14))⟩,
    ⟨(some 128), none, (.bin .add (.t 126) (.t 127))⟩,
    ⟨(some 129), none, (.mov (.t 18))⟩,
    ⟨(some 130), none, (.mov (.t 2))⟩,
    ⟨(some 131), none, (.bin .mul (.t 129) (.t 130))⟩,
    ⟨(some 132), none, (.bin .sub (.t 128) (.t 131))⟩,
    ⟨(some 133), none, (.mov (.t 8))⟩,
    ⟨(some 134), none, (.bin .shr (.t 132) (.t 133))⟩,
    ⟨(some 6), none, (.mov (.t 124))⟩,
    ⟨(some 7), none, (.mov (.t 134))⟩]) .ret))))))))))))))))))))⟩
/- slices.stableCmpFunc[moiety/share.claim] -/
def s310_l0 : S := (.seq (.seq (.reg [⟨(some 11), none, (.mov (.t 8))⟩,
    ⟨(some 12), none, (.mov (.t 1))⟩,
    ⟨(some 13), none, (.bin .leq (.t 11) (.t 12))⟩]) (.cond (.t 13) .skip (.exit 0))) (.block 1 (.seq (.reg [⟨(some 14), none, (.mov (.t 0))⟩,
    ⟨(some 15), none, (.mov (.t 7))⟩,
    ⟨(some 16), none, (.mov (.t 8))⟩,
    ⟨(some 17), none, (.mov (.t 2))⟩,
    ⟨(some 18), none, (.call (.f 379) [(.t 14), (.t 15), (.t 16), (.t 17)])⟩]) (.seq (.reg [⟨(some 19), none, (.mov (.t 8))⟩,
    ⟨(some 7), none, (.mov (.t 19))⟩]) (.reg [⟨(some 20), none, (.mov (.t 8))⟩,
    ⟨(some 21), none, (.mov (.t 6))⟩,
    ⟨(some 22), none, (.bin .add (.t 20) (.t 21))⟩,
    ⟨(some 8), none, (.mov (.t 22))⟩])))))
def s310_l1 : S := (.seq (.seq (.reg [⟨(some 33), none, (.mov (.t 8))⟩,
    ⟨(some 34), none, (.mov (.t 1))⟩,
    ⟨(some 35), none, (.bin .leq (.t 33) (.t 34))⟩]) (.cond (.t 35) .skip (.exit 4))) (.block 5 (.seq (.reg [⟨(some 36), none, (.mov (.t 0))⟩,
    ⟨(some 37), none, (.mov (.t 7))⟩,
    ⟨(some 38), none, (.mov (.t 7))⟩,
    ⟨(some 39), none, (.mov (.t 6))⟩,
    ⟨(some 40), none, (.bin .add (.t 38) (.t 39))⟩,
    ⟨(some 41), none, (.mov (.t 8))⟩,
    ⟨(some 42), none, (.mov (.t 2))⟩,
    ⟨(some 43), none, (.call (.f 380) [(.t 36), (.t 37), (.t 40), (.t 41), (.t 42)])⟩]) (.seq (.reg [⟨(some 44), none, (.mov (.t 8))⟩,
    ⟨(some 7), none, (.mov (.t 44))⟩]) (.reg [⟨(some 45), none, (.mov (.t 8))⟩,
    ⟨(some 46), none, (.mov (.t 6))⟩,
    ⟨(some 47), none, (.bin .mul (.c (.int .i64 2)) (.t 46))⟩,
    ⟨(some 48), none, (.bin .add (.t 45) (.t 47))⟩,
    ⟨(some 8), none, (.mov (.t 48))⟩])))))
def s310_l2 : S := (.seq (.seq (.reg [⟨(some 28), none, (.mov (.t 6))⟩,
    ⟨(some 29), none, (.mov (.t 1))⟩,
    ⟨(some 30), none, (.bin .lss (.t 28) (.t 29))⟩]) (.cond (.t 30) .skip (.exit 2))) (.block 3 (.seq (.reg [⟨(some 31), none, (.mov (.t 6))⟩,
    ⟨(some 32), none, (.bin .mul (.c (.int .i64 2)) (.t 31))⟩,
    ⟨(some 7), none, (.mov (.c (.int .i64 0)))⟩,
    ⟨(some 8), none, (.mov (.t 32))⟩]) (.seq (.block 4 (.loop s310_l1)) (.seq (.seq (.reg [⟨(some 49), none, (.mov (.t 7))⟩,
    ⟨(some 50), none, (.mov (.t 6))⟩,
    ⟨(some 51), none, (.bin .add (.t 49) (.t 50))⟩,
    ⟨(some 9), none, (.mov (.t 51))⟩]) (.seq (.reg [⟨(some 52), none, (.mov (.t 9))⟩,
    ⟨(some 53), none, (.mov (.t 1))⟩,
    ⟨(some 54), none, (.bin .lss (.t 52) (.t 53))⟩]) (.cond (.t 54) (.reg [⟨(some 55), none, (.mov (.t 0))⟩,
    ⟨(some 56), none, (.mov (.t 7))⟩,
    ⟨(some 57), none, (.mov (.t 9))⟩,
    ⟨(some 58), none, (.mov (.t 1))⟩,
    ⟨(some 59), none, (.mov (.t 2))⟩,
    ⟨(some 60), none, (.call (.f 380) [(.t 55), (.t 56), (.t 57), (.t 58), (.t 59)])⟩]) .skip))) (.reg [⟨(some 61), none, (.mov (.t 6))⟩,
    ⟨(some 62), none, (.bin .mul (.t 61) (.c (.int .i64 2)))⟩,
    ⟨(some 6), none, (.mov (.t 62))⟩]))))))
def s310 : SFn := ⟨[], (.seq (.reg [⟨(some 6), none, (.mov (.c (.int .i64 20)))⟩]) (.seq (.reg [⟨(some 10), none, (.mov (.t 6))⟩,
    ⟨(some 7), none, (.mov (.c (.int .i64 0)))⟩,
    ⟨(some 8), none, (.mov (.t 10))⟩]) (.seq (.block 0 (.loop s310_l0)) (.seq (.reg [⟨(some 23), none, (.mov (.t 0))⟩,
    ⟨(some 24), none, (.mov (.t 7))⟩,
    ⟨(some 25), none, (.mov (.t 1))⟩,
    ⟨(some 26), none, (.mov (.t 2))⟩,
    ⟨(some 27), none, (.call (.f 379) [(.t 23), (.t 24), (.t 25), (.t 26)])⟩]) (.block 2 (.loop s310_l2))))))⟩
/- slices.pdqsortOrdered[int] -/
def s311_l0 : S := (.block 1 (.seq (.reg [⟨(some 19), none, (.mov (.t 2))⟩,
    ⟨(some 20), none, (.mov (.t 1))⟩,
    ⟨(some 21), none, (.bin .sub (.t 19) (.t 20))⟩,
    ⟨(some 10), none, (.mov (.t 21))⟩]) (.seq (.seq (.reg [⟨(some 22), none, (.mov (.t 10))⟩,
    ⟨(some 23), none, (.bin .leq (.t 22) (.c (.int .i64 12)))⟩]) (.cond (.t 23) (.seq (.reg [⟨(some 24), none, (.mov (.t 0))⟩,
    ⟨(some 25), none, (.mov (.t 1))⟩,
    ⟨(some 26), none, (.mov (.t 2))⟩,
    ⟨(some 27), none, (.call (.f 381) [(.t 24), (.t 25), (.t 26)])⟩]) .ret) .skip)) (.seq (.seq (.reg [⟨(some 28), none, (.mov (.t 3))⟩,
    ⟨(some 29), none, (.bin .eql (.t 28) (.c (.int .i64 0)))⟩]) (.cond (.t 29) (.seq (.reg [⟨(some 30), none, (.mov (.t 0))⟩,
    ⟨(some 31), none, (.mov (.t 1))⟩,
    ⟨(some 32), none, (.mov (.t 2))⟩,
    ⟨(some 33), none, (.call (.f 382) [(.t 30), (.t 31), (.t 32)])⟩]) .ret) .skip)) (.seq (.seq (.reg [⟨(some 34), none, (.mov (.t 8))⟩,
    ⟨(some 35), none, (.un .not (.t 34))⟩]) (.cond (.t 35) (.seq (.reg [⟨(some 36), none, (.mov (.t 0))⟩,
    ⟨(some 37), none, (.mov (.t 1))⟩,
    ⟨(some 38), none, (.mov (.t 2))⟩,
    ⟨(some 39), none, (.call (.f 383) [(.t 36), (.t 37), (.t 38)])⟩]) (.reg [⟨(some 40), none, (.mov (.t 3))⟩,
    ⟨(some 41), none, (.bin .sub (.t 40) (.c (.int .i64 1)))⟩,
    ⟨(some 3), none, (.mov (.t 41))⟩])) .skip)) (.seq (.reg [⟨(some 43), none, (.mov (.t 0))⟩,
    ⟨(some 44), none, (.mov (.t 1))⟩,
    ⟨(some 45), none, (.mov (.t 2))⟩,
    ⟨(some 46), none, (.call (.f 384) [(.t 43), (.t 44), (.t 45)])⟩,
    ⟨(some 42), none, (.mov (.t 46))⟩,
    ⟨(some 47), none, (.extract (.t 42) 0)⟩,
    ⟨(some 48), none, (.extract (.t 42) 1)⟩,
    ⟨(some 11), none, (.mov (.t 47))⟩,
    ⟨(some 12), none, (.mov (.t 48))⟩]) (.seq (.seq (.reg [⟨(some 49), none, (.mov (.t 12))⟩,
    ⟨(some 50), none, (.bin .eql (.t 49) (.c (.int .i64 2)))⟩]) (.cond (.t 50) (.seq (.reg [⟨(some 51), none, (.mov (.t 0))⟩,
    ⟨(some 52), none, (.mov (.t 1))⟩,
    ⟨(some 53), none, (.mov (.t 2))⟩,
    ⟨(some 54), none, (.call (.f 385) [(.t 51), (.t 52), (.t 53)])⟩]) (.seq (.reg [⟨(some 55), none, (.mov (.t 2))⟩,
    ⟨(some 56), none, (.bin .sub (.t 55) (.c (.int .i64 1)))⟩,
    ⟨(some 57), none, (.mov (.t 11))⟩,
    ⟨(some 58), none, (.mov (.t 1))⟩,
    ⟨(some 59), none, (.bin .sub (.t 57) (.t 58))⟩,
    ⟨(some 60), none, (.bin .sub (.t 56) (.t 59))⟩,
    ⟨(some 11), none, (.mov (.t 60))⟩]) (.reg [⟨(some 12), none, (.mov (.c (.int .i64 1)))⟩]))) .skip)) (.seq (.seq (.reg [⟨(some 61), none, (.mov (.t 8))⟩,
    ⟨(some 62), none, (.mov (.t 61))⟩,
    ⟨(some 63), (some (62, true)), (.mov (.t 9))⟩,
    ⟨(some 64), none, (.pick (.t 62) (.t 63) (.c (.bool false)))⟩,
    ⟨(some 65), none, (.mov (.t 64))⟩,
    ⟨(some 66), (some (65, true)), (.mov (.t 12))⟩,
    ⟨(some 67), (some (65, true)), (.bin .eql (.t 66) (.c (.int .i64 1)))⟩,
    ⟨(some 68), none, (.pick (.t 65) (.t 67) (.c (.bool false)))⟩]) (.cond (.t 68) (.seq (.reg [⟨(some 69), none, (.mov (.t 0))⟩,
    ⟨(some 70), none, (.mov (.t 1))⟩,
    ⟨(some 71), none, (.mov (.t 2))⟩,
    ⟨(some 72), none, (.call (.f 386) [(.t 69), (.t 70), (.t 71)])⟩]) (.cond (.t 72) .ret .skip)) .skip)) (.seq (.seq (.dreg false [⟨⟨(some 73), none, (.mov (.t 1))⟩, 0, 0⟩,
    ⟨⟨(some 74), none, (.bin .gtr (.t 73) (.c (.int .i64 0)))⟩, 0, 0⟩,
    ⟨⟨(some 75), none, (.mov (.t 74))⟩, 0, 0⟩,
    ⟨⟨(some 76), (some (75, true)), (.mov (.t 0))⟩, 0, 0⟩,
    ⟨⟨(some 77), (some (75, true)), (.mov (.t 1))⟩, 0, 0⟩,
    ⟨⟨(some 78), (some (75, true)), (.bin .sub (.t 77) (.c (.int .i64 1)))⟩, 0, 0⟩,
    ⟨⟨(some 79), (some (75, true)), (.indexAddr none 1 (.t 76) (.t 78))⟩, 0, 0⟩,
    ⟨⟨(some 80), (some (75, true)), (.load none (.t 79))⟩, 0, 0⟩,
    ⟨⟨(some 81), (some (75, true)), (.mov (.t 0))⟩, 0, 0⟩,
    ⟨⟨(some 82), (some (75, true)), (.mov (.t 11))⟩, 0, 0⟩,
    ⟨⟨(some 83), (some (75, true)), (.indexAddr none 1 (.t 81) (.t 82))⟩, 0, 0⟩,
    ⟨⟨(some 84), (some (75, true)), (.load none (.t 83))⟩, 0, 0⟩,
    ⟨⟨(some 85), (some (75, true)), (.call (.f 387) [(.t 80), (.t 84)])⟩, 0, 1⟩,
    ⟨⟨(some 86), (some (75, true)), (.un .not (.t 85))⟩, 1, 1⟩,
    ⟨⟨(some 87), none, (.pick (.t 75) (.t 86) (.c (.bool false)))⟩, 1, 1⟩]) (.cond (.t 87) (.seq (.reg [⟨(some 88), none, (.mov (.t 0))⟩,
    ⟨(some 89), none, (.mov (.t 1))⟩,
    ⟨(some 90), none, (.mov (.t 2))⟩,
    ⟨(some 91), none, (.mov (.t 11))⟩,
    ⟨(some 92), none, (.call (.f 388) [(.t 88), (.t 89), (.t 90), (.t 91)])⟩,
    ⟨(some 13), none, (.mov (.t 92))⟩]) (.seq (.reg [⟨(some 93), none, (.mov (.t 13))⟩,
    ⟨(some 1), none, (.mov (.t 93))⟩]) (.exit 1))) .skip)) (.seq (.reg [⟨(some 95), none, (.mov (.t 0))⟩,
    ⟨(some 96), none, (.mov (.t 1))⟩,
    ⟨(some 97), none, (.mov (.t 2))⟩,
    ⟨(some 98), none, (.mov (.t 11))⟩,
    ⟨(some 99), none, (.call (.f 389) [(.t 95), (.t 96), (.t 97), (.t 98)])⟩,
    ⟨(some 94), none, (.mov (.t 99))⟩,
    ⟨(some 100), none, (.extract (.t 94) 0)⟩,
    ⟨(some 101), none, (.extract (.t 94) 1)⟩,
    ⟨(some 14), none, (.mov (.t 100))⟩,
    ⟨(some 15), none, (.mov (.t 101))⟩]) (.seq (.reg [⟨(some 102), none, (.mov (.t 15))⟩,
    ⟨(some 9), none, (.mov (.t 102))⟩]) (.seq (.reg [⟨(some 103), none, (.mov (.t 14))⟩,
    ⟨(some 104), none, (.mov (.t 1))⟩,
    ⟨(some 105), none, (.bin .sub (.t 103) (.t 104))⟩,
    ⟨(some 106), none, (.mov (.t 2))⟩,
    ⟨(some 107), none, (.mov (.t 14))⟩,
    ⟨(some 108), none, (.bin .sub (.t 106) (.t 107))⟩,
    ⟨(some 16), none, (.mov (.t 105))⟩,
    ⟨(some 17), none, (.mov (.t 108))⟩]) (.seq (.reg [⟨(some 109), none, (.mov (.t 10))⟩,
    ⟨(some 110), none, (.bin .quo (.t 109) (.c (.int .i64 8)))⟩,
    ⟨(some 18), none, (.mov (.t 110))⟩]) (.seq (.reg [⟨(some 111), none, (.mov (.t 16))⟩,
    ⟨(some 112), none, (.mov (.t 17))⟩,
    ⟨(some 113), none, (.bin .lss (.t 111) (.t 112))⟩]) (.cond (.t 113) (.seq (.reg [⟨(some 114), none, (.mov (.t 16))⟩,
    ⟨(some 115), none, (.mov (.t 18))⟩,
    ⟨(some 116), none, (.bin .geq (.t 114) (.t 115))⟩,
    ⟨(some 8), none, (.mov (.t 116))⟩]) (.seq (.reg [⟨(some 117), none, (.mov (.t 0))⟩,
    ⟨(some 118), none, (.mov (.t 1))⟩,
    ⟨(some 119), none, (.mov (.t 14))⟩,
    ⟨(some 120), none, (.mov (.t 3))⟩,
    ⟨(some 121), none, (.call (.f 311) [(.t 117), (.t 118), (.t 119), (.t 120)])⟩]) (.reg [⟨(some 122), none, (.mov (.t 14))⟩,
    ⟨(some 123), none, (.bin .add (.t 122) (.c (.int .i64 1)))⟩,
    ⟨(some 1), none, (.mov (.t 123))⟩]))) (.seq (.reg [⟨(some 124), none, (.mov (.t 17))⟩,
    ⟨(some 125), none, (.mov (.t 18))⟩,
    ⟨(some 126), none, (.bin .geq (.t 124) (.t 125))⟩,
    ⟨(some 8), none, (.mov (.t 126))⟩]) (.seq (.reg [⟨(some 127), none, (.mov (.t 0))⟩,
    ⟨(some 128), none, (.mov (.t 14))⟩,
    ⟨(some 129), none, (.bin .add (.t 128) (.c (.int .i64 1)))⟩,
    ⟨(some 130), none, (.mov (.t 2))⟩,
    ⟨(some 131), none, (.mov (.t 3))⟩,
    ⟨(some 132), none, (.call (.f 311) [(.t 127), (.t 129), (.t 130), (.t 131)])⟩]) (.reg [⟨(some 133), none, (.mov (.t 14))⟩,
    ⟨(some 2), none, (.mov (.t 133))⟩]))))))))))))))))))
def s311 : SFn := ⟨[], (.seq (.reg [⟨(some 8), none, (.mov (.c (.bool true)))⟩]) (.seq (.reg [⟨(some 9), none, (.mov (.c (.bool true)))⟩]) (.block 0 (.loop s311_l0))))⟩
/- (*moiety/roll.Roll).may -/
def s329 : SFn := ⟨[.tmp 4], (.seq (.reg [⟨(some 4), none, (.mov (.c (.int .i64 0)))⟩]) (.seq (.block 0 (.seq (.reg [⟨(some 6), none, (.mov (.t 0))⟩,
    ⟨(some 7), none, (.eq false .ptr (.t 6) (.c (.ptr none)))⟩,
    ⟨(some 5), none, (.mov (.t 7))⟩]) (.cond (.t 5) (.seq (.reg [⟨(some 4), none, (.mov (.c (.int .i64 1)))⟩]) .ret) (.seq (.reg [⟨(some 9), none, (.mov (.t 1))⟩,
    ⟨(some 10), none, (.bin .lss (.t 9) (.c (.int .i64 0)))⟩,
    ⟨(some 11), none, (.mov (.t 10))⟩,
    ⟨(some 12), (some (11, false)), (.mov (.t 1))⟩,
    ⟨(some 13), (some (11, false)), (.mov (.t 0))⟩,
    ⟨(some 14), (some (11, false)), (.nilCheck (.t 13))⟩,
    ⟨(some 15), (some (11, false)), (.fieldAddr 1 (.t 14))⟩,
    ⟨(some 16), (some (11, false)), (.load none (.t 15))⟩,
    ⟨(some 17), (some (11, false)), (.len false (.t 16))⟩,
    ⟨(some 18), (some (11, false)), (.bin .geq (.t 12) (.t 17))⟩,
    ⟨(some 19), none, (.pick (.t 11) (.c (.bool true)) (.t 18))⟩,
    ⟨(some 8), none, (.mov (.t 19))⟩]) (.cond (.t 8) (.seq (.reg [⟨(some 4), none, (.mov (.c (.int .i64 17)))⟩]) .ret) .skip))))) (.seq (.reg [⟨(some 4), none, (.mov (.c (.int .i64 0)))⟩]) .ret)))⟩
/- moiety/roll.fits -/
def s330 : SFn := ⟨[.tmp 2], (.seq (.reg [⟨(some 1), none, (.box (.t 0))⟩,
    ⟨(some 2), none, (.mov (.c (.bool false)))⟩]) (.seq (.reg [⟨(some 6), none, (.load (some 2) (.t 1))⟩,
    ⟨(some 7), none, (.call (.f 144) [(.t 6)])⟩,
    ⟨(some 5), none, (.mov (.t 7))⟩,
    ⟨(some 8), none, (.extract (.t 5) 0)⟩,
    ⟨(some 9), none, (.extract (.t 5) 1)⟩,
    ⟨(some 3), none, (.mov (.t 8))⟩,
    ⟨(some 4), none, (.mov (.t 9))⟩]) (.seq (.reg [⟨(some 10), none, (.mov (.t 4))⟩,
    ⟨(some 11), none, (.bin .eql (.t 10) (.c (.int .i64 0)))⟩,
    ⟨(some 2), none, (.mov (.t 11))⟩]) .ret)))⟩
/- moiety/roll.less -/
def s331 : SFn := ⟨[.cell 4 (some 2)], (.seq (.reg [⟨(some 2), none, (.box (.t 0))⟩,
    ⟨(some 4), none, (.new [(.int .i64 0), (.int .u64 0)])⟩]) (.seq (.seq (.reg [⟨(some 5), none, (.mov (.t 1))⟩,
    ⟨(some 6), none, (.bin .eql (.t 5) (.c (.int .i64 (-9223372036854775808))))⟩]) (.cond (.t 6) (.seq (.reg [⟨(some 7), none, (.load (some 2) (.t 2))⟩,
    ⟨(some 8), none, (.buildSlice 2 [(.int .i64 0), (.int .i64 0)] [(0, 1, (.c (.int .i64 9223372036854775807))), (1, 1, (.c (.int .i64 1)))])⟩,
    ⟨(some 9), none, (.call (.f 143) [(.t 7), (.t 8)])⟩,
    ⟨none, none, (.store 2 (.t 4) (.t 9))⟩]) .ret) .skip)) (.seq (.reg [⟨(some 10), none, (.load (some 2) (.t 2))⟩,
    ⟨(some 11), none, (.mov (.t 1))⟩,
    ⟨(some 12), none, (.un .neg (.t 11))⟩,
    ⟨(some 13), none, (.buildSlice 1 [(.int .i64 0)] [(0, 1, (.t 12))])⟩,
    ⟨(some 14), none, (.call (.f 143) [(.t 10), (.t 13)])⟩,
    ⟨none, none, (.store 2 (.t 4) (.t 14))⟩]) .ret)))⟩
/- moiety/roll.New -/
def s334 : SFn := ⟨[.tmp 2, .tmp 3], (.seq (.reg [⟨(some 2), none, (.mov (.c (.ptr none)))⟩,
    ⟨(some 3), none, (.mov (.c (.int .i64 0)))⟩]) (.seq (.seq (.reg [⟨(some 4), none, (.mov (.t 0))⟩,
    ⟨(some 5), none, (.eq false .ptr (.t 4) (.c (.ptr none)))⟩]) (.cond (.t 5) (.seq (.reg [⟨(some 2), none, (.mov (.c (.ptr none)))⟩,
    ⟨(some 3), none, (.mov (.c (.int .i64 1)))⟩]) .ret) .skip)) (.seq (.dreg true [⟨⟨(some 6), none, (.mov (.t 0))⟩, 0, 2⟩,
    ⟨⟨(some 7), none, (.mov (.t 0))⟩, 0, 0⟩,
    ⟨⟨(some 8), none, (.call (.f 119) [(.t 7)])⟩, 0, 1⟩,
    ⟨⟨(some 9), none, (.makeSlice 8 [(.int .i64 0)] (.t 8) (.t 8))⟩, 1, 2⟩,
    ⟨⟨(some 10), none, (.mov (.t 0))⟩, 0, 1⟩,
    ⟨⟨(some 11), none, (.call (.f 141) [(.t 10)])⟩, 1, 2⟩,
    ⟨⟨(some 12), none, (.makeSlice 16 [(.int .i64 0), (.int .u64 0)] (.t 11) (.t 11))⟩, 2, 2⟩,
    ⟨⟨(some 13), none, (.build [(.ptr none), (.slice none 0 (.known 0)), (.slice none 0 (.known 0)), (.int .i64 0), (.int .i64 0)] [(0, 1, (.t 6)), (1, 1, (.t 9)), (2, 1, (.t 12))])⟩, 2, 2⟩,
    ⟨⟨(some 14), none, (.box (.t 13))⟩, 2, 3⟩,
    ⟨⟨(some 2), none, (.mov (.t 14))⟩, 3, 3⟩,
    ⟨⟨(some 3), none, (.mov (.c (.int .i64 0)))⟩, 3, 3⟩]) .ret)))⟩
/- slices.insertionSortCmpFunc[moiety/region.run] -/
def s335_l0 : S := (.seq (.seq (.dreg false [⟨⟨(some 18), none, (.mov (.t 9))⟩, 0, 0⟩,
    ⟨⟨(some 19), none, (.mov (.t 1))⟩, 0, 0⟩,
    ⟨⟨(some 20), none, (.bin .gtr (.t 18) (.t 19))⟩, 0, 0⟩,
    ⟨⟨(some 21), none, (.mov (.t 20))⟩, 0, 0⟩,
    ⟨⟨(some 22), (some (21, true)), (.mov (.t 3))⟩, 0, 0⟩,
    ⟨⟨(some 23), (some (21, true)), (.mov (.t 0))⟩, 0, 0⟩,
    ⟨⟨(some 24), (some (21, true)), (.mov (.t 9))⟩, 0, 0⟩,
    ⟨⟨(some 25), (some (21, true)), (.indexAddr none 2 (.t 23) (.t 24))⟩, 0, 0⟩,
    ⟨⟨(some 26), (some (21, true)), (.load (some 2) (.t 25))⟩, 0, 0⟩,
    ⟨⟨(some 27), (some (21, true)), (.mov (.t 0))⟩, 0, 0⟩,
    ⟨⟨(some 28), (some (21, true)), (.mov (.t 9))⟩, 0, 0⟩,
    ⟨⟨(some 29), (some (21, true)), (.bin .sub (.t 28) (.c (.int .i64 1)))⟩, 0, 0⟩,
    ⟨⟨(some 30), (some (21, true)), (.indexAddr none 2 (.t 27) (.t 29))⟩, 0, 0⟩,
    ⟨⟨(some 31), (some (21, true)), (.load (some 2) (.t 30))⟩, 0, 0⟩,
    ⟨⟨(some 32), (some (21, true)), (.call (.t 22) [(.t 26), (.t 31)])⟩, 0, 1⟩,
    ⟨⟨(some 33), (some (21, true)), (.bin .lss (.t 32) (.c (.int .i64 0)))⟩, 1, 1⟩,
    ⟨⟨(some 34), none, (.pick (.t 21) (.t 33) (.c (.bool false)))⟩, 1, 1⟩]) (.cond (.t 34) .skip (.exit 2))) (.seq (.block 3 (.dreg false [⟨⟨(some 37), none, (.mov (.t 0))⟩, 0, 0⟩,
    ⟨⟨(some 38), none, (.mov (.t 9))⟩, 0, 0⟩,
    ⟨⟨(some 39), none, (.mov (.t 0))⟩, 0, 1⟩,
    ⟨⟨(some 40), none, (.mov (.t 9))⟩, 0, 1⟩,
    ⟨⟨(some 41), none, (.bin .sub (.t 40) (.c (.int .i64 1)))⟩, 0, 1⟩,
    ⟨⟨(some 42), none, (.mov (.t 0))⟩, 0, 0⟩,
    ⟨⟨(some 43), none, (.mov (.t 9))⟩, 0, 0⟩,
    ⟨⟨(some 44), none, (.bin .sub (.t 43) (.c (.int .i64 1)))⟩, 0, 0⟩,
    ⟨⟨(some 45), none, (.indexAddr none 2 (.t 42) (.t 44))⟩, 0, 0⟩,
    ⟨⟨(some 46), none, (.load (some 2) (.t 45))⟩, 0, 0⟩,
    ⟨⟨(some 47), none, (.mov (.t 0))⟩, 0, 0⟩,
    ⟨⟨(some 48), none, (.mov (.t 9))⟩, 0, 0⟩,
    ⟨⟨(some 49), none, (.indexAddr none 2 (.t 47) (.t 48))⟩, 0, 0⟩,
    ⟨⟨(some 50), none, (.load (some 2) (.t 49))⟩, 0, 0⟩,
    ⟨⟨(some 51), none, (.indexAddr none 2 (.t 37) (.t 38))⟩, 0, 0⟩,
    ⟨⟨none, none, (.store 2 (.t 51) (.t 46))⟩, 0, 1⟩,
    ⟨⟨(some 52), none, (.indexAddr none 2 (.t 39) (.t 41))⟩, 1, 1⟩,
    ⟨⟨none, none, (.store 2 (.t 52) (.t 50))⟩, 1, 2⟩])) (.reg [⟨(some 35), none, (.mov (.t 9))⟩,
    ⟨(some 36), none, (.bin .sub (.t 35) (.c (.int .i64 1)))⟩,
    ⟨(some 9), none, (.mov (.t 36))⟩])))
def s335_l1 : S := (.seq (.seq (.reg [⟨(some 12), none, (.mov (.t 8))⟩,
    ⟨(some 13), none, (.mov (.t 2))⟩,
    ⟨(some 14), none, (.bin .lss (.t 12) (.t 13))⟩]) (.cond (.t 14) .skip (.exit 0))) (.seq (.block 1 (.seq (.reg [⟨(some 17), none, (.mov (.t 8))⟩,
    ⟨(some 9), none, (.mov (.t 17))⟩]) (.block 2 (.loop s335_l0)))) (.reg [⟨(some 15), none, (.mov (.t 8))⟩,
    ⟨(some 16), none, (.bin .add (.t 15) (.c (.int .i64 1)))⟩,
    ⟨(some 8), none, (.mov (.t 16))⟩])))
def s335 : SFn := ⟨[], (.seq (.reg [⟨(some 10), none, (.mov (.t 1))⟩,
    ⟨(some 11), none, (.bin .add (.t 10) (.c (.int .i64 1)))⟩,
    ⟨(some 8), none, (.mov (.t 11))⟩]) (.block 0 (.loop s335_l1)))⟩
/- (*moiety/pages.Pages).made -/
def s343 : SFn := ⟨[.tmp 4, .tmp 5], (.seq (.reg [⟨(some 3), none, (.box (.t 1))⟩,
    ⟨(some 4), none, (.mov (.c (.int .i64 0)))⟩,
    ⟨(some 5), none, (.mov (.c (.int .i64 0)))⟩]) (.seq (.seq (.reg [⟨(some 6), none, (.load (some 25) (.t 3))⟩,
    ⟨(some 7), none, (.fieldAddr 0 (.t 3))⟩,
    ⟨(some 8), none, (.load none (.t 7))⟩,
    ⟨(some 9), none, (.build [(.bool false), (.int .i64 0), (.int .i64 0), (.int .i64 0), (.int .i64 0), (.int .i64 0), (.int .i64 0), (.int .i64 0), (.int .i64 0), (.int .i64 0), (.bool false), (.int .i64 0), (.bool false), (.int .i64 0), (.bool false), (.int .i64 0), (.bool false), (.int .i64 0), (.bool false), (.int .i64 0), (.bool false), (.int .i64 0), (.bool false), (.int .i64 0), (.bool false)] [(0, 1, (.t 8))])⟩,
    ⟨(some 10), none, (.eq false (.flat [.bool, .int .i64, .int .i64, .int .i64, .int .i64, .int .i64, .int .i64, .int .i64, .int .i64, .int .i64, .bool, .int .i64, .bool, .int .i64, .bool, .int .i64, .bool, .int .i64, .bool, .int .i64, .bool, .int .i64, .bool, .int .i64, .bool]) (.t 6) (.t 9))⟩]) (.cond (.t 10) (.seq (.reg [⟨(some 4), none, (.mov (.c (.int .i64 0)))⟩,
    ⟨(some 5), none, (.mov (.c (.int .i64 0)))⟩]) .ret) .skip)) (.seq (.dreg false [⟨⟨(some 11), none, (.mov (.t 0))⟩, 0, 0⟩,
    ⟨⟨(some 12), none, (.nilCheck (.t 11))⟩, 0, 0⟩,
    ⟨⟨(some 13), none, (.fieldAddr 0 (.t 12))⟩, 0, 0⟩,
    ⟨⟨(some 14), none, (.load none (.t 13))⟩, 0, 0⟩,
    ⟨⟨(some 15), none, (.load (some 25) (.t 3))⟩, 0, 0⟩,
    ⟨⟨(some 16), none, (.call (.f 406) [(.t 14), (.t 15)])⟩, 0, 1⟩,
    ⟨⟨(some 17), none, (.extract (.t 16) 0)⟩, 1, 1⟩,
    ⟨⟨(some 18), none, (.extract (.t 16) 1)⟩, 1, 1⟩,
    ⟨⟨(some 4), none, (.mov (.t 17))⟩, 1, 1⟩,
    ⟨⟨(some 5), none, (.mov (.t 18))⟩, 1, 1⟩]) .ret)))⟩
/- slices.BinarySearchFunc[[]int,int,int] -/
def s345_l0 : S := (.seq (.seq (.reg [⟨(some 15), none, (.mov (.t 9))⟩,
    ⟨(some 16), none, (.mov (.t 10))⟩,
    ⟨(some 17), none, (.bin .lss (.t 15) (.t 16))⟩]) (.cond (.t 17) .skip (.exit 0))) (.block 1 (.seq (.reg [⟨(some 18), none, (.mov (.t 9))⟩,
    ⟨(some 19), none, (.mov (.t 10))⟩,
    ⟨(some 20), none, (.bin .add (.t 18) (.t 19))⟩,
    ⟨(some 21), none, (.convInt .u64 (.t 20))⟩,
    ⟨(some 22), none, (.bin .shr (.t 21) (.c (.int .u64 1)))⟩,
    ⟨(some 23), none, (.convInt .i64 (.t 22))⟩,
    ⟨(some 11), none, (.mov (.t 23))⟩]) (.seq (.reg [⟨(some 24), none, (.mov (.t 2))⟩,
    ⟨(some 25), none, (.mov (.t 0))⟩,
    ⟨(some 26), none, (.mov (.t 11))⟩,
    ⟨(some 27), none, (.indexAddr none 1 (.t 25) (.t 26))⟩,
    ⟨(some 28), none, (.load none (.t 27))⟩,
    ⟨(some 29), none, (.mov (.t 1))⟩,
    ⟨(some 30), none, (.call (.t 24) [(.t 28), (.t 29)])⟩,
    ⟨(some 31), none, (.bin .lss (.t 30) (.c (.int .i64 0)))⟩]) (.cond (.t 31) (.reg [⟨(some 32), none, (.mov (.t 11))⟩,
    ⟨(some 33), none, (.bin .add (.t 32) (.c (.int .i64 1)))⟩,
    ⟨(some 9), none, (.mov (.t 33))⟩]) (.reg [⟨(some 34), none, (.mov (.t 11))⟩,
    ⟨(some 10), none, (.mov (.t 34))⟩]))))))
def s345 : SFn := ⟨[.tmp 6, .tmp 7], (.seq (.reg [⟨(some 6), none, (.mov (.c (.int .i64 0)))⟩,
    ⟨(some 7), none, (.mov (.c (.bool false)))⟩]) (.seq (.reg [⟨(some 12), none, (.mov (.t 0))⟩,
    ⟨(some 13), none, (.len false (.t 12))⟩,
    ⟨(some 8), none, (.mov (.t 13))⟩]) (.seq (.reg [⟨(some 14), none, (.mov (.t 8))⟩,
    ⟨(some 9), none, (.mov (.c (.int .i64 0)))⟩,
    ⟨(some 10), none, (.mov (.t 14))⟩]) (.seq (.block 0 (.loop s345_l0)) (.seq (.reg [⟨(some 35), none, (.mov (.t 9))⟩,
    ⟨(some 36), none, (.mov (.t 9))⟩,
    ⟨(some 37), none, (.mov (.t 8))⟩,
    ⟨(some 38), none, (.bin .lss (.t 36) (.t 37))⟩,
    ⟨(some 39), none, (.mov (.t 38))⟩,
    ⟨(some 40), (some (39, true)), (.mov (.t 2))⟩,
    ⟨(some 41), (some (39, true)), (.mov (.t 0))⟩,
    ⟨(some 42), (some (39, true)), (.mov (.t 9))⟩,
    ⟨(some 43), (some (39, true)), (.indexAddr none 1 (.t 41) (.t 42))⟩,
    ⟨(some 44), (some (39, true)), (.load none (.t 43))⟩,
    ⟨(some 45), (some (39, true)), (.mov (.t 1))⟩,
    ⟨(some 46), (some (39, true)), (.call (.t 40) [(.t 44), (.t 45)])⟩,
    ⟨(some 47), (some (39, true)), (.bin .eql (.t 46) (.c (.int .i64 0)))⟩,
    ⟨(some 48), none, (.pick (.t 39) (.t 47) (.c (.bool false)))⟩,
    ⟨(some 6), none, (.mov (.t 35))⟩,
    ⟨(some 7), none, (.mov (.t 48))⟩]) .ret)))))⟩
/- slices.Insert[[]int,int] -/
def s347 : SFn := ⟨[.tmp 6], (.seq (.reg [⟨(some 6), none, (.mov (.c (.slice none 0 (.known 0))))⟩]) (.seq (.reg [⟨(some 10), none, (.mov (.t 0))⟩,
    ⟨(some 11), none, (.mov (.t 1))⟩,
    ⟨(some 12), none, (.slice (.slice 1) (.t 10) (some (.t 11)) none none)⟩]) (.seq (.reg [⟨(some 13), none, (.mov (.t 2))⟩,
    ⟨(some 14), none, (.len false (.t 13))⟩,
    ⟨(some 7), none, (.mov (.t 14))⟩]) (.seq (.seq (.reg [⟨(some 15), none, (.mov (.t 7))⟩,
    ⟨(some 16), none, (.bin .eql (.t 15) (.c (.int .i64 0)))⟩]) (.cond (.t 16) (.seq (.reg [⟨(some 17), none, (.mov (.t 0))⟩,
    ⟨(some 6), none, (.mov (.t 17))⟩]) .ret) .skip)) (.seq (.reg [⟨(some 18), none, (.mov (.t 0))⟩,
    ⟨(some 19), none, (.len false (.t 18))⟩,
    ⟨(some 8), none, (.mov (.t 19))⟩]) (.seq (.seq (.reg [⟨(some 20), none, (.mov (.t 1))⟩,
    ⟨(some 21), none, (.mov (.t 8))⟩,
    ⟨(some 22), none, (.bin .eql (.t 20) (.t 21))⟩]) (.cond (.t 22) (.seq (.reg [⟨(some 23), none, (.mov (.t 0))⟩,
    ⟨(some 24), none, (.mov (.t 2))⟩,
    ⟨(some 25), none, (.append 1 8 (.t 23) (.t 24))⟩,
    ⟨(some 6), none, (.mov (.t 25))⟩]) .ret) .skip)) (.seq (.seq (.reg [⟨(some 26), none, (.mov (.t 8))⟩,
    ⟨(some 27), none, (.mov (.t 7))⟩,
    ⟨(some 28), none, (.bin .add (.t 26) (.t 27))⟩,
    ⟨(some 29), none, (.mov (.t 0))⟩,
    ⟨(some 30), none, (.cap (.t 29))⟩,
    ⟨(some 31), none, (.bin .gtr (.t 28) (.t 30))⟩]) (.cond (.t 31) (.seq (.reg [⟨(some 32), none, (.mov (.t 0))⟩,
    ⟨(some 33), none, (.mov (.t 1))⟩,
    ⟨(some 34), none, (.slice (.slice 1) (.t 32) none (some (.t 33)) none)⟩,
    ⟨(some 35), none, (.mov (.t 8))⟩,
    ⟨(some 36), none, (.mov (.t 7))⟩,
    ⟨(some 37), none, (.bin .add (.t 35) (.t 36))⟩,
    ⟨(some 38), none, (.mov (.t 1))⟩,
    ⟨(some 39), none, (.bin .sub (.t 37) (.t 38))⟩,
    ⟨(some 40), none, (.appendZ 8 [(.int .i64 0)] (.t 34) (.t 39))⟩,
    ⟨(some 9), none, (.mov (.t 40))⟩]) (.seq (.reg [⟨(some 41), none, (.mov (.t 9))⟩,
    ⟨(some 42), none, (.mov (.t 1))⟩,
    ⟨(some 43), none, (.slice (.slice 1) (.t 41) (some (.t 42)) none none)⟩,
    ⟨(some 44), none, (.mov (.t 2))⟩,
    ⟨(some 45), none, (.copy 1 (.t 43) (.t 44))⟩]) (.seq (.dreg false [⟨⟨(some 46), none, (.mov (.t 9))⟩, 0, 0⟩,
    ⟨⟨(some 47), none, (.mov (.t 1))⟩, 0, 0⟩,
    ⟨⟨(some 48), none, (.mov (.t 7))⟩, 0, 0⟩,
    ⟨⟨(some 49), none, (.bin .add (.t 47) (.t 48))⟩, 0, 0⟩,
    ⟨⟨(some 50), none, (.slice (.slice 1) (.t 46) (some (.t 49)) none none)⟩, 0, 0⟩,
    ⟨⟨(some 51), none, (.mov (.t 0))⟩, 0, 0⟩,
    ⟨⟨(some 52), none, (.mov (.t 1))⟩, 0, 0⟩,
    ⟨⟨(some 53), none, (.slice (.slice 1) (.t 51) (some (.t 52)) none none)⟩, 0, 0⟩,
    ⟨⟨(some 54), none, (.copy 1 (.t 50) (.t 53))⟩, 0, 1⟩]) (.seq (.reg [⟨(some 55), none, (.mov (.t 9))⟩,
    ⟨(some 6), none, (.mov (.t 55))⟩]) .ret)))) .skip)) (.seq (.reg [⟨(some 56), none, (.mov (.t 0))⟩,
    ⟨(some 57), none, (.mov (.t 8))⟩,
    ⟨(some 58), none, (.mov (.t 7))⟩,
    ⟨(some 59), none, (.bin .add (.t 57) (.t 58))⟩,
    ⟨(some 60), none, (.slice (.slice 1) (.t 56) none (some (.t 59)) none)⟩,
    ⟨(some 0), none, (.mov (.t 60))⟩]) (.seq (.seq (.reg [⟨(some 61), none, (.mov (.t 2))⟩,
    ⟨(some 62), none, (.mov (.t 0))⟩,
    ⟨(some 63), none, (.mov (.t 1))⟩,
    ⟨(some 64), none, (.mov (.t 7))⟩,
    ⟨(some 65), none, (.bin .add (.t 63) (.t 64))⟩,
    ⟨(some 66), none, (.slice (.slice 1) (.t 62) (some (.t 65)) none none)⟩,
    ⟨(some 67), none, (.call (.f 407) [(.t 61), (.t 66)])⟩,
    ⟨(some 68), none, (.un .not (.t 67))⟩]) (.cond (.t 68) (.seq (.dreg false [⟨⟨(some 69), none, (.mov (.t 0))⟩, 0, 0⟩,
    ⟨⟨(some 70), none, (.mov (.t 1))⟩, 0, 0⟩,
    ⟨⟨(some 71), none, (.mov (.t 7))⟩, 0, 0⟩,
    ⟨⟨(some 72), none, (.bin .add (.t 70) (.t 71))⟩, 0, 0⟩,
    ⟨⟨(some 73), none, (.slice (.slice 1) (.t 69) (some (.t 72)) none none)⟩, 0, 0⟩,
    ⟨⟨(some 74), none, (.mov (.t 0))⟩, 0, 0⟩,
    ⟨⟨(some 75), none, (.mov (.t 1))⟩, 0, 0⟩,
    ⟨⟨(some 76), none, (.slice (.slice 1) (.t 74) (some (.t 75)) none none)⟩, 0, 0⟩,
    ⟨⟨(some 77), none, (.copy 1 (.t 73) (.t 76))⟩, 0, 1⟩]) (.seq (.reg [⟨(some 78), none, (.mov (.t 0))⟩,
    ⟨(some 79), none, (.mov (.t 1))⟩,
    ⟨(some 80), none, (.slice (.slice 1) (.t 78) (some (.t 79)) none none)⟩,
    ⟨(some 81), none, (.mov (.t 2))⟩,
    ⟨(some 82), none, (.copy 1 (.t 80) (.t 81))⟩]) (.seq (.reg [⟨(some 83), none, (.mov (.t 0))⟩,
    ⟨(some 6), none, (.mov (.t 83))⟩]) .ret))) .skip)) (.seq (.reg [⟨(some 84), none, (.mov (.t 0))⟩,
    ⟨(some 85), none, (.mov (.t 8))⟩,
    ⟨(some 86), none, (.slice (.slice 1) (.t 84) (some (.t 85)) none none)⟩,
    ⟨(some 87), none, (.mov (.t 2))⟩,
    ⟨(some 88), none, (.copy 1 (.t 86) (.t 87))⟩]) (.seq (.reg [⟨(some 89), none, (.mov (.t 0))⟩,
    ⟨(some 90), none, (.mov (.t 1))⟩,
    ⟨(some 91), none, (.slice (.slice 1) (.t 89) (some (.t 90)) none none)⟩,
    ⟨(some 92), none, (.mov (.t 7))⟩,
    ⟨(some 93), none, (.call (.f 408) [(.t 91), (.t 92)])⟩]) (.seq (.reg [⟨(some 94), none, (.mov (.t 0))⟩,
    ⟨(some 6), none, (.mov (.t 94))⟩]) .ret))))))))))))⟩
/- (*moiety/moietyref05.Tree).Rank -/
def s348_l0 : S := (.seq (.seq (.reg [⟨(some 9), none, (.mov (.t 6))⟩,
    ⟨(some 10), none, (.mov (.t 5))⟩,
    ⟨(some 11), none, (.len false (.t 10))⟩,
    ⟨(some 12), none, (.bin .lss (.t 9) (.t 11))⟩]) (.cond (.t 12) .skip (.exit 0))) (.seq (.block 1 (.seq (.reg [⟨(some 15), none, (.mov (.t 5))⟩,
    ⟨(some 16), none, (.mov (.t 6))⟩,
    ⟨(some 17), none, (.indexAddr none 1 (.t 15) (.t 16))⟩,
    ⟨(some 18), none, (.load none (.t 17))⟩,
    ⟨(some 19), none, (.mov (.t 1))⟩,
    ⟨(some 20), none, (.bin .eql (.t 18) (.t 19))⟩]) (.cond (.t 20) (.seq (.reg [⟨(some 21), none, (.mov (.t 6))⟩,
    ⟨(some 4), none, (.mov (.t 21))⟩]) .ret) .skip))) (.reg [⟨(some 13), none, (.mov (.t 6))⟩,
    ⟨(some 14), none, (.bin .add (.t 13) (.c (.int .i64 1)))⟩,
    ⟨(some 6), none, (.mov (.t 14))⟩])))
def s348 : SFn := ⟨[.tmp 4], (.seq (.reg [⟨(some 4), none, (.mov (.c (.int .i64 0)))⟩]) (.seq (.reg [⟨(some 7), none, (.mov (.t 0))⟩,
    ⟨(some 8), none, (.call (.f 222) [(.t 7)])⟩,
    ⟨(some 5), none, (.mov (.t 8))⟩]) (.seq (.seq (.reg [⟨(some 6), none, (.mov (.c (.int .i64 0)))⟩]) (.block 0 (.loop s348_l0))) (.seq (.reg [⟨(some 4), none, (.mov (.c (.int .i64 (-1))))⟩]) .ret))))⟩
/- (*moiety/moietyref05.Tree).Within -/
def s349_l0 : S := (.seq (.seq (.reg [⟨(some 12), none, (.mov (.t 8))⟩,
    ⟨(some 13), none, (.mov (.t 7))⟩,
    ⟨(some 14), none, (.len false (.t 13))⟩,
    ⟨(some 15), none, (.bin .lss (.t 12) (.t 14))⟩]) (.cond (.t 15) .skip (.exit 0))) (.seq (.block 1 (.seq (.reg [⟨(some 18), none, (.mov (.t 7))⟩,
    ⟨(some 19), none, (.mov (.t 8))⟩,
    ⟨(some 20), none, (.indexAddr none 1 (.t 18) (.t 19))⟩,
    ⟨(some 21), none, (.load none (.t 20))⟩,
    ⟨(some 22), none, (.mov (.t 2))⟩,
    ⟨(some 23), none, (.bin .eql (.t 21) (.t 22))⟩]) (.cond (.t 23) (.seq (.reg [⟨(some 6), none, (.mov (.c (.bool true)))⟩]) .ret) .skip))) (.reg [⟨(some 16), none, (.mov (.t 8))⟩,
    ⟨(some 17), none, (.bin .add (.t 16) (.c (.int .i64 1)))⟩,
    ⟨(some 8), none, (.mov (.t 17))⟩])))
def s349 : SFn := ⟨[.tmp 6], (.seq (.reg [⟨(some 6), none, (.mov (.c (.bool false)))⟩]) (.seq (.reg [⟨(some 9), none, (.mov (.t 0))⟩,
    ⟨(some 10), none, (.mov (.t 1))⟩,
    ⟨(some 11), none, (.call (.f 365) [(.t 9), (.t 10)])⟩,
    ⟨(some 7), none, (.mov (.t 11))⟩]) (.seq (.seq (.reg [⟨(some 8), none, (.mov (.c (.int .i64 0)))⟩]) (.block 0 (.loop s349_l0))) (.seq (.reg [⟨(some 6), none, (.mov (.c (.bool false)))⟩]) .ret))))⟩
/- slices.Index[[]string,string] -/
def s356_l0 : S := (.seq (.reg [⟨(some 9), none, (.bin .lss (.t 8) (.t 7))⟩]) (.seq (.cond (.t 9) .skip (.exit 0)) (.seq (.block 1 (.seq (.reg [⟨(some 10), none, (.mov (.t 8))⟩,
    ⟨(some 5), none, (.mov (.t 10))⟩]) (.seq (.reg [⟨(some 11), none, (.mov (.t 1))⟩,
    ⟨(some 12), none, (.mov (.t 0))⟩,
    ⟨(some 13), none, (.mov (.t 5))⟩,
    ⟨(some 14), none, (.indexAddr none 1 (.t 12) (.t 13))⟩,
    ⟨(some 15), none, (.load none (.t 14))⟩,
    ⟨(some 16), none, (.bin .eql (.t 11) (.t 15))⟩]) (.cond (.t 16) (.seq (.reg [⟨(some 17), none, (.mov (.t 5))⟩,
    ⟨(some 4), none, (.mov (.t 17))⟩]) .ret) .skip)))) (.reg [⟨(some 18), none, (.bin .add (.t 8) (.c (.int .i64 1)))⟩,
    ⟨(some 8), none, (.mov (.t 18))⟩]))))
def s356 : SFn := ⟨[.tmp 4], (.seq (.reg [⟨(some 4), none, (.mov (.c (.int .i64 0)))⟩]) (.seq (.seq (.reg [⟨(some 6), none, (.mov (.t 0))⟩,
    ⟨(some 7), none, (.len false (.t 6))⟩,
    ⟨(some 8), none, (.mov (.c (.int .i64 0)))⟩]) (.block 0 (.loop s356_l0))) (.seq (.reg [⟨(some 4), none, (.mov (.c (.int .i64 (-1))))⟩]) .ret)))⟩
/- (*moiety/tree.Tree).named -/
def s357 : SFn := ⟨[.tmp 4], (.seq (.reg [⟨(some 4), none, (.mov (.c (.int .i64 0)))⟩]) (.seq (.seq (.reg [⟨(some 5), none, (.mov (.t 0))⟩,
    ⟨(some 6), none, (.nilCheck (.t 5))⟩,
    ⟨(some 7), none, (.fieldAddr 0 (.t 6))⟩,
    ⟨(some 8), none, (.load none (.t 7))⟩,
    ⟨(some 9), none, (.mov (.t 1))⟩,
    ⟨(some 10), none, (.indexAddr none 2 (.t 8) (.t 9))⟩,
    ⟨(some 11), none, (.fieldAddr 0 (.t 10))⟩,
    ⟨(some 12), none, (.load none (.t 11))⟩,
    ⟨(some 13), none, (.call (.f 37) [(.t 12)])⟩,
    ⟨(some 14), none, (.un .not (.t 13))⟩]) (.cond (.t 14) (.seq (.reg [⟨(some 4), none, (.mov (.c (.int .i64 3)))⟩]) .ret) .skip)) (.seq (.reg [⟨(some 4), none, (.mov (.c (.int .i64 0)))⟩]) .ret)))⟩
/- (*moiety/tree.Tree).once -/
def s358 : SFn := ⟨[.tmp 4], (.seq (.reg [⟨(some 4), none, (.mov (.c (.int .i64 0)))⟩]) (.seq (.seq (.dreg false [⟨⟨(some 8), none, (.mov (.t 0))⟩, 0, 0⟩,
    ⟨⟨(some 9), none, (.nilCheck (.t 8))⟩, 0, 0⟩,
    ⟨⟨(some 10), none, (.fieldAddr 1 (.t 9))⟩, 0, 0⟩,
    ⟨⟨(some 11), none, (.load none (.t 10))⟩, 0, 0⟩,
    ⟨⟨(some 12), none, (.mov (.t 0))⟩, 0, 0⟩,
    ⟨⟨(some 13), none, (.nilCheck (.t 12))⟩, 0, 0⟩,
    ⟨⟨(some 14), none, (.fieldAddr 0 (.t 13))⟩, 0, 0⟩,
    ⟨⟨(some 15), none, (.load none (.t 14))⟩, 0, 0⟩,
    ⟨⟨(some 16), none, (.mov (.t 1))⟩, 0, 0⟩,
    ⟨⟨(some 17), none, (.indexAddr none 2 (.t 15) (.t 16))⟩, 0, 0⟩,
    ⟨⟨(some 18), none, (.fieldAddr 0 (.t 17))⟩, 0, 0⟩,
    ⟨⟨(some 19), none, (.load none (.t 18))⟩, 0, 0⟩,
    ⟨⟨(some 20), none, (.lookup (.str) (.int .i64 0) true (.t 11) (.t 19))⟩, 0, 0⟩,
    ⟨⟨(some 7), none, (.mov (.t 20))⟩, 0, 0⟩,
    ⟨⟨(some 21), none, (.extract (.t 7) 0)⟩, 0, 0⟩,
    ⟨⟨(some 22), none, (.extract (.t 7) 1)⟩, 0, 0⟩,
    ⟨⟨(some 5), none, (.mov (.t 21))⟩, 0, 0⟩,
    ⟨⟨(some 6), none, (.mov (.t 22))⟩, 0, 0⟩]) (.seq (.reg [⟨(some 23), none, (.mov (.t 6))⟩]) (.cond (.t 23) (.seq (.reg [⟨(some 4), none, (.mov (.c (.int .i64 4)))⟩]) .ret) .skip))) (.seq (.dreg false [⟨⟨(some 24), none, (.mov (.t 0))⟩, 0, 0⟩,
    ⟨⟨(some 25), none, (.nilCheck (.t 24))⟩, 0, 0⟩,
    ⟨⟨(some 26), none, (.fieldAddr 1 (.t 25))⟩, 0, 0⟩,
    ⟨⟨(some 27), none, (.load none (.t 26))⟩, 0, 0⟩,
    ⟨⟨(some 28), none, (.mov (.t 0))⟩, 0, 0⟩,
    ⟨⟨(some 29), none, (.nilCheck (.t 28))⟩, 0, 0⟩,
    ⟨⟨(some 30), none, (.fieldAddr 0 (.t 29))⟩, 0, 0⟩,
    ⟨⟨(some 31), none, (.load none (.t 30))⟩, 0, 0⟩,
    ⟨⟨(some 32), none, (.mov (.t 1))⟩, 0, 0⟩,
    ⟨⟨(some 33), none, (.indexAddr none 2 (.t 31) (.t 32))⟩, 0, 0⟩,
    ⟨⟨(some 34), none, (.fieldAddr 0 (.t 33))⟩, 0, 0⟩,
    ⟨⟨(some 35), none, (.load none (.t 34))⟩, 0, 0⟩,
    ⟨⟨(some 36), none, (.mov (.t 1))⟩, 0, 0⟩,
    ⟨⟨none, none, (.mapUpd (.str) (.t 27) (.t 35) (.t 36))⟩, 0, 1⟩]) (.seq (.reg [⟨(some 4), none, (.mov (.c (.int .i64 0)))⟩]) .ret))))⟩
/- (*moiety/tree.Tree).ranged -/
def s359 : SFn := ⟨[.tmp 4], (.seq (.reg [⟨(some 4), none, (.mov (.c (.int .i64 0)))⟩]) (.seq (.seq (.reg [⟨(some 6), none, (.mov (.t 0))⟩,
    ⟨(some 7), none, (.nilCheck (.t 6))⟩,
    ⟨(some 8), none, (.fieldAddr 0 (.t 7))⟩,
    ⟨(some 9), none, (.load none (.t 8))⟩,
    ⟨(some 10), none, (.mov (.t 1))⟩,
    ⟨(some 11), none, (.indexAddr none 2 (.t 9) (.t 10))⟩,
    ⟨(some 12), none, (.fieldAddr 1 (.t 11))⟩,
    ⟨(some 13), none, (.load none (.t 12))⟩,
    ⟨(some 5), none, (.mov (.t 13))⟩]) (.seq (.reg [⟨(some 14), none, (.mov (.t 5))⟩,
    ⟨(some 15), none, (.bin .lss (.t 14) (.c (.int .i64 (-1))))⟩,
    ⟨(some 16), none, (.mov (.t 15))⟩,
    ⟨(some 17), (some (16, false)), (.mov (.t 5))⟩,
    ⟨(some 18), (some (16, false)), (.mov (.t 0))⟩,
    ⟨(some 19), (some (16, false)), (.nilCheck (.t 18))⟩,
    ⟨(some 20), (some (16, false)), (.fieldAddr 0 (.t 19))⟩,
    ⟨(some 21), (some (16, false)), (.load none (.t 20))⟩,
    ⟨(some 22), (some (16, false)), (.len false (.t 21))⟩,
    ⟨(some 23), (some (16, false)), (.bin .geq (.t 17) (.t 22))⟩,
    ⟨(some 24), none, (.pick (.t 16) (.c (.bool true)) (.t 23))⟩]) (.cond (.t 24) (.seq (.reg [⟨(some 4), none, (.mov (.c (.int .i64 17)))⟩]) .ret) .skip))) (.seq (.reg [⟨(some 4), none, (.mov (.c (.int .i64 0)))⟩]) .ret)))⟩
/- (*moiety/tree.Tree).looped -/
def s360_l0 : S := (.seq (.reg [⟨(some 20), none, (.bin .lss (.t 19) (.t 18))⟩]) (.seq (.cond (.t 20) .skip (.exit 0)) (.seq (.block 1 (.seq (.seq (.reg [⟨(some 21), none, (.mov (.t 5))⟩,
    ⟨(some 22), none, (.bin .lss (.t 21) (.c (.int .i64 0)))⟩]) (.cond (.t 22) (.exit 0) .skip)) (.seq (.seq (.reg [⟨(some 23), none, (.mov (.t 5))⟩,
    ⟨(some 24), none, (.mov (.t 1))⟩,
    ⟨(some 25), none, (.bin .eql (.t 23) (.t 24))⟩]) (.cond (.t 25) (.seq (.reg [⟨(some 4), none, (.mov (.c (.int .i64 15)))⟩]) .ret) .skip)) (.reg [⟨(some 26), none, (.mov (.t 0))⟩,
    ⟨(some 27), none, (.nilCheck (.t 26))⟩,
    ⟨(some 28), none, (.fieldAddr 0 (.t 27))⟩,
    ⟨(some 29), none, (.load none (.t 28))⟩,
    ⟨(some 30), none, (.mov (.t 5))⟩,
    ⟨(some 31), none, (.indexAddr none 2 (.t 29) (.t 30))⟩,
    ⟨(some 32), none, (.fieldAddr 1 (.t 31))⟩,
    ⟨(some 33), none, (.load none (.t 32))⟩,
    ⟨(some 5), none, (.mov (.t 33))⟩])))) (.reg [⟨(some 34), none, (.bin .add (.t 19) (.c (.int .i64 1)))⟩,
    ⟨(some 19), none, (.mov (.t 34))⟩]))))
def s360 : SFn := ⟨[.tmp 4], (.seq (.reg [⟨(some 4), none, (.mov (.c (.int .i64 0)))⟩]) (.seq (.reg [⟨(some 6), none, (.mov (.t 0))⟩,
    ⟨(some 7), none, (.nilCheck (.t 6))⟩,
    ⟨(some 8), none, (.fieldAddr 0 (.t 7))⟩,
    ⟨(some 9), none, (.load none (.t 8))⟩,
    ⟨(some 10), none, (.mov (.t 1))⟩,
    ⟨(some 11), none, (.indexAddr none 2 (.t 9) (.t 10))⟩,
    ⟨(some 12), none, (.fieldAddr 1 (.t 11))⟩,
    ⟨(some 13), none, (.load none (.t 12))⟩,
    ⟨(some 5), none, (.mov (.t 13))⟩]) (.seq (.seq (.reg [⟨(some 14), none, (.mov (.t 0))⟩,
    ⟨(some 15), none, (.nilCheck (.t 14))⟩,
    ⟨(some 16), none, (.fieldAddr 0 (.t 15))⟩,
    ⟨(some 17), none, (.load none (.t 16))⟩,
    ⟨(some 18), none, (.len false (.t 17))⟩,
    ⟨(some 19), none, (.mov (.c (.int .i64 0)))⟩]) (.block 0 (.loop s360_l0))) (.seq (.reg [⟨(some 4), none, (.mov (.c (.int .i64 0)))⟩]) .ret))))⟩
/- (*moiety/tree.Tree).deep -/
def s361 : SFn := ⟨[.tmp 4], (.seq (.reg [⟨(some 4), none, (.mov (.c (.int .i64 0)))⟩]) (.seq (.seq (.reg [⟨(some 5), none, (.mov (.t 0))⟩,
    ⟨(some 6), none, (.mov (.t 1))⟩,
    ⟨(some 7), none, (.call (.f 410) [(.t 5), (.t 6)])⟩,
    ⟨(some 8), none, (.bin .geq (.t 7) (.c (.int .i64 6)))⟩]) (.cond (.t 8) (.seq (.reg [⟨(some 4), none, (.mov (.c (.int .i64 16)))⟩]) .ret) .skip)) (.seq (.reg [⟨(some 4), none, (.mov (.c (.int .i64 0)))⟩]) .ret)))⟩
/- (*moiety/tree.Tree).walk$1 -/
def s362_l0 : S := (.seq (.reg [⟨(some 56), none, (.bin .lss (.t 55) (.t 54))⟩]) (.seq (.cond (.t 56) .skip (.exit 0)) (.seq (.block 1 (.seq (.reg [⟨(some 57), none, (.indexAddr none 1 (.t 53) (.t 55))⟩,
    ⟨(some 58), none, (.load none (.t 57))⟩,
    ⟨(some 5), none, (.mov (.t 58))⟩]) (.reg [⟨(some 59), none, (.load none (.t 2))⟩,
    ⟨(some 60), none, (.mov (.t 5))⟩,
    ⟨(some 61), none, (.call (.t 59) [(.t 60)])⟩]))) (.reg [⟨(some 62), none, (.bin .add (.t 55) (.c (.int .i64 1)))⟩,
    ⟨(some 55), none, (.mov (.t 62))⟩]))))
def s362 : SFn := ⟨[], (.seq (.dreg false [⟨⟨(some 6), none, (.load none (.t 1))⟩, 0, 2⟩,
    ⟨⟨(some 7), none, (.load none (.t 1))⟩, 0, 1⟩,
    ⟨⟨(some 8), none, (.nilCheck (.t 7))⟩, 0, 1⟩,
    ⟨⟨(some 9), none, (.fieldAddr 3 (.t 8))⟩, 0, 1⟩,
    ⟨⟨(some 10), none, (.load none (.t 9))⟩, 0, 1⟩,
    ⟨⟨(some 11), none, (.mov (.t 0))⟩, 0, 0⟩,
    ⟨⟨(some 12), none, (.buildSlice 1 [(.int .i64 0)] [(0, 1, (.t 11))])⟩, 0, 1⟩,
    ⟨⟨(some 13), none, (.append 1 8 (.t 10) (.t 12))⟩, 1, 2⟩,
    ⟨⟨(some 14), none, (.nilCheck (.t 6))⟩, 2, 2⟩,
    ⟨⟨(some 15), none, (.fieldAddr 3 (.t 14))⟩, 2, 2⟩,
    ⟨⟨none, none, (.store 1 (.t 15) (.t 13))⟩, 2, 3⟩]) (.seq (.dreg false [⟨⟨(some 16), none, (.load none (.t 1))⟩, 0, 0⟩,
    ⟨⟨(some 17), none, (.nilCheck (.t 16))⟩, 0, 0⟩,
    ⟨⟨(some 18), none, (.fieldAddr 5 (.t 17))⟩, 0, 0⟩,
    ⟨⟨(some 19), none, (.load none (.t 18))⟩, 0, 0⟩,
    ⟨⟨(some 20), none, (.mov (.t 0))⟩, 0, 0⟩,
    ⟨⟨(some 21), none, (.load none (.t 1))⟩, 0, 0⟩,
    ⟨⟨(some 22), none, (.nilCheck (.t 21))⟩, 0, 0⟩,
    ⟨⟨(some 23), none, (.fieldAddr 4 (.t 22))⟩, 0, 0⟩,
    ⟨⟨(some 24), none, (.load none (.t 23))⟩, 0, 0⟩,
    ⟨⟨(some 25), none, (.len false (.t 24))⟩, 0, 0⟩,
    ⟨⟨(some 26), none, (.indexAddr none 2 (.t 19) (.t 20))⟩, 0, 0⟩,
    ⟨⟨(some 27), none, (.fieldAddr 0 (.t 26))⟩, 0, 0⟩,
    ⟨⟨none, none, (.store 1 (.t 27) (.t 25))⟩, 0, 1⟩]) (.seq (.seq (.reg [⟨(some 28), none, (.load none (.t 1))⟩,
    ⟨(some 29), none, (.nilCheck (.t 28))⟩,
    ⟨(some 30), none, (.fieldAddr 2 (.t 29))⟩,
    ⟨(some 31), none, (.load none (.t 30))⟩,
    ⟨(some 32), none, (.mov (.t 0))⟩,
    ⟨(some 33), none, (.indexAddr none 1 (.t 31) (.t 32))⟩,
    ⟨(some 34), none, (.load none (.t 33))⟩,
    ⟨(some 35), none, (.len false (.t 34))⟩,
    ⟨(some 36), none, (.bin .eql (.t 35) (.c (.int .i64 0)))⟩]) (.cond (.t 36) (.dreg false [⟨⟨(some 37), none, (.load none (.t 1))⟩, 0, 2⟩,
    ⟨⟨(some 38), none, (.load none (.t 1))⟩, 0, 1⟩,
    ⟨⟨(some 39), none, (.nilCheck (.t 38))⟩, 0, 1⟩,
    ⟨⟨(some 40), none, (.fieldAddr 4 (.t 39))⟩, 0, 1⟩,
    ⟨⟨(some 41), none, (.load none (.t 40))⟩, 0, 1⟩,
    ⟨⟨(some 42), none, (.mov (.t 0))⟩, 0, 0⟩,
    ⟨⟨(some 43), none, (.buildSlice 1 [(.int .i64 0)] [(0, 1, (.t 42))])⟩, 0, 1⟩,
    ⟨⟨(some 44), none, (.append 1 8 (.t 41) (.t 43))⟩, 1, 2⟩,
    ⟨⟨(some 45), none, (.nilCheck (.t 37))⟩, 2, 2⟩,
    ⟨⟨(some 46), none, (.fieldAddr 4 (.t 45))⟩, 2, 2⟩,
    ⟨⟨none, none, (.store 1 (.t 46) (.t 44))⟩, 2, 3⟩]) .skip)) (.seq (.seq (.reg [⟨(some 47), none, (.load none (.t 1))⟩,
    ⟨(some 48), none, (.nilCheck (.t 47))⟩,
    ⟨(some 49), none, (.fieldAddr 2 (.t 48))⟩,
    ⟨(some 50), none, (.load none (.t 49))⟩,
    ⟨(some 51), none, (.mov (.t 0))⟩,
    ⟨(some 52), none, (.indexAddr none 1 (.t 50) (.t 51))⟩,
    ⟨(some 53), none, (.load none (.t 52))⟩,
    ⟨(some 54), none, (.len false (.t 53))⟩,
    ⟨(some 55), none, (.mov (.c (.int .i64 0)))⟩]) (.block 0 (.loop s362_l0))) (.dreg false [⟨⟨(some 63), none, (.load none (.t 1))⟩, 0, 0⟩,
    ⟨⟨(some 64), none, (.nilCheck (.t 63))⟩, 0, 0⟩,
    ⟨⟨(some 65), none, (.fieldAddr 5 (.t 64))⟩, 0, 0⟩,
    ⟨⟨(some 66), none, (.load none (.t 65))⟩, 0, 0⟩,
    ⟨⟨(some 67), none, (.mov (.t 0))⟩, 0, 0⟩,
    ⟨⟨(some 68), none, (.load none (.t 1))⟩, 0, 0⟩,
    ⟨⟨(some 69), none, (.nilCheck (.t 68))⟩, 0, 0⟩,
    ⟨⟨(some 70), none, (.fieldAddr 4 (.t 69))⟩, 0, 0⟩,
    ⟨⟨(some 71), none, (.load none (.t 70))⟩, 0, 0⟩,
    ⟨⟨(some 72), none, (.len false (.t 71))⟩, 0, 0⟩,
    ⟨⟨(some 73), none, (.indexAddr none 2 (.t 66) (.t 67))⟩, 0, 0⟩,
    ⟨⟨(some 74), none, (.fieldAddr 1 (.t 73))⟩, 0, 0⟩,
    ⟨⟨none, none, (.store 1 (.t 74) (.t 72))⟩, 0, 1⟩])))))⟩
/- moiety/moietyref03.letter -/
def s363 : SFn := ⟨[.tmp 2], (.seq (.reg [⟨(some 2), none, (.mov (.c (.bool false)))⟩]) (.seq (.reg [⟨(some 3), none, (.mov (.t 0))⟩,
    ⟨(some 4), none, (.bin .geq (.t 3) (.c (.int .u8 97)))⟩,
    ⟨(some 5), none, (.mov (.t 4))⟩,
    ⟨(some 6), (some (5, true)), (.mov (.t 0))⟩,
    ⟨(some 7), (some (5, true)), (.bin .leq (.t 6) (.c (.int .u8 122)))⟩,
    ⟨(some 8), none, (.pick (.t 5) (.t 7) (.c (.bool false)))⟩,
    ⟨(some 9), none, (.mov (.t 8))⟩,
    ⟨(some 10), (some (9, false)), (.mov (.t 0))⟩,
    ⟨(some 11), (some (9, false)), (.bin .geq (.t 10) (.c (.int .u8 65)))⟩,
    ⟨(some 12), (some (9, false)), (.mov (.t 11))⟩,
    ⟨(some 13), (some (12, true)), (.mov (.t 0))⟩,
    ⟨(some 14), (some (12, true)), (.bin .leq (.t 13) (.c (.int .u8 90)))⟩,
    ⟨(some 15), (some (9, false)), (.pick (.t 12) (.t 14) (.c (.bool false)))⟩,
    ⟨(some 16), none, (.pick (.t 9) (.c (.bool true)) (.t 15))⟩,
    ⟨(some 2), none, (.mov (.t 16))⟩]) .ret))⟩
/- (*moiety/moietyref05.Tree).Above -/
def s365_l0 : S := (.seq (.seq (.reg [⟨(some 6), none, (.mov (.t 0))⟩,
    ⟨(some 7), none, (.mov (.t 1))⟩,
    ⟨(some 8), none, (.call (.f 367) [(.t 6), (.t 7)])⟩,
    ⟨(some 9), none, (.mov (.t 8))⟩,
    ⟨(some 10), (some (9, true)), (.mov (.t 5))⟩,
    ⟨(some 11), (some (9, true)), (.len false (.t 10))⟩,
    ⟨(some 12), (some (9, true)), (.mov (.t 0))⟩,
    ⟨(some 13), (some (9, true)), (.nilCheck (.t 12))⟩,
    ⟨(some 14), (some (9, true)), (.fieldAddr 0 (.t 13))⟩,
    ⟨(some 15), (some (9, true)), (.load none (.t 14))⟩,
    ⟨(some 16), (some (9, true)), (.len false (.t 15))⟩,
    ⟨(some 17), (some (9, true)), (.bin .leq (.t 11) (.t 16))⟩,
    ⟨(some 18), none, (.pick (.t 9) (.t 17) (.c (.bool false)))⟩]) (.cond (.t 18) .skip (.exit 0))) (.block 1 (.seq (.reg [⟨(some 19), none, (.mov (.t 5))⟩,
    ⟨(some 20), none, (.mov (.t 1))⟩,
    ⟨(some 21), none, (.buildSlice 1 [(.int .i64 0)] [(0, 1, (.t 20))])⟩,
    ⟨(some 22), none, (.append 1 8 (.t 19) (.t 21))⟩,
    ⟨(some 5), none, (.mov (.t 22))⟩]) (.reg [⟨(some 23), none, (.mov (.t 0))⟩,
    ⟨(some 24), none, (.nilCheck (.t 23))⟩,
    ⟨(some 25), none, (.fieldAddr 0 (.t 24))⟩,
    ⟨(some 26), none, (.load none (.t 25))⟩,
    ⟨(some 27), none, (.mov (.t 1))⟩,
    ⟨(some 28), none, (.indexAddr none 2 (.t 26) (.t 27))⟩,
    ⟨(some 29), none, (.fieldAddr 1 (.t 28))⟩,
    ⟨(some 30), none, (.load none (.t 29))⟩,
    ⟨(some 1), none, (.mov (.t 30))⟩]))))
def s365 : SFn := ⟨[.tmp 4], (.seq (.reg [⟨(some 4), none, (.mov (.c (.slice none 0 (.known 0))))⟩]) (.seq (.reg [⟨(some 5), none, (.mov (.c (.slice none 0 (.known 0))))⟩]) (.seq (.block 0 (.loop s365_l0)) (.seq (.reg [⟨(some 31), none, (.mov (.t 5))⟩,
    ⟨(some 4), none, (.mov (.t 31))⟩]) .ret))))⟩
/- (*moiety/moietyref05.Tree).down -/
def s366_l0 : S := (.seq (.seq (.reg [⟨(some 15), none, (.mov (.t 9))⟩,
    ⟨(some 16), none, (.mov (.t 8))⟩,
    ⟨(some 17), none, (.len false (.t 16))⟩,
    ⟨(some 18), none, (.bin .lss (.t 15) (.t 17))⟩,
    ⟨(some 19), none, (.mov (.t 18))⟩,
    ⟨(some 20), (some (19, true)), (.mov (.t 2))⟩,
    ⟨(some 21), (some (19, true)), (.bin .lss (.t 20) (.c (.int .i64 40)))⟩,
    ⟨(some 22), none, (.pick (.t 19) (.t 21) (.c (.bool false)))⟩]) (.cond (.t 22) .skip (.exit 0))) (.seq (.block 1 (.reg [⟨(some 25), none, (.mov (.t 7))⟩,
    ⟨(some 26), none, (.mov (.t 0))⟩,
    ⟨(some 27), none, (.mov (.t 8))⟩,
    ⟨(some 28), none, (.mov (.t 9))⟩,
    ⟨(some 29), none, (.indexAddr none 1 (.t 27) (.t 28))⟩,
    ⟨(some 30), none, (.load none (.t 29))⟩,
    ⟨(some 31), none, (.mov (.t 2))⟩,
    ⟨(some 32), none, (.bin .add (.t 31) (.c (.int .i64 1)))⟩,
    ⟨(some 33), none, (.call (.f 366) [(.t 26), (.t 30), (.t 32)])⟩,
    ⟨(some 34), none, (.append 1 8 (.t 25) (.t 33))⟩,
    ⟨(some 7), none, (.mov (.t 34))⟩])) (.reg [⟨(some 23), none, (.mov (.t 9))⟩,
    ⟨(some 24), none, (.bin .add (.t 23) (.c (.int .i64 1)))⟩,
    ⟨(some 9), none, (.mov (.t 24))⟩])))
def s366 : SFn := ⟨[.tmp 6], (.seq (.reg [⟨(some 6), none, (.mov (.c (.slice none 0 (.known 0))))⟩]) (.seq (.reg [⟨(some 10), none, (.mov (.t 1))⟩,
    ⟨(some 11), none, (.buildSlice 1 [(.int .i64 0)] [(0, 1, (.t 10))])⟩,
    ⟨(some 7), none, (.mov (.t 11))⟩]) (.seq (.reg [⟨(some 12), none, (.mov (.t 0))⟩,
    ⟨(some 13), none, (.mov (.t 1))⟩,
    ⟨(some 14), none, (.call (.f 368) [(.t 12), (.t 13)])⟩,
    ⟨(some 8), none, (.mov (.t 14))⟩]) (.seq (.seq (.reg [⟨(some 9), none, (.mov (.c (.int .i64 0)))⟩]) (.block 0 (.loop s366_l0))) (.seq (.reg [⟨(some 35), none, (.mov (.t 7))⟩,
    ⟨(some 6), none, (.mov (.t 35))⟩]) .ret)))))⟩
/- (*moiety/moietyref05.Tree).is -/
def s367 : SFn := ⟨[.tmp 4], (.seq (.reg [⟨(some 4), none, (.mov (.c (.bool false)))⟩]) (.seq (.reg [⟨(some 5), none, (.mov (.t 1))⟩,
    ⟨(some 6), none, (.bin .geq (.t 5) (.c (.int .i64 0)))⟩,
    ⟨(some 7), none, (.mov (.t 6))⟩,
    ⟨(some 8), (some (7, true)), (.mov (.t 1))⟩,
    ⟨(some 9), (some (7, true)), (.mov (.t 0))⟩,
    ⟨(some 10), (some (7, true)), (.nilCheck (.t 9))⟩,
    ⟨(some 11), (some (7, true)), (.fieldAddr 0 (.t 10))⟩,
    ⟨(some 12), (some (7, true)), (.load none (.t 11))⟩,
    ⟨(some 13), (some (7, true)), (.len false (.t 12))⟩,
    ⟨(some 14), (some (7, true)), (.bin .lss (.t 8) (.t 13))⟩,
    ⟨(some 15), none, (.pick (.t 7) (.t 14) (.c (.bool false)))⟩,
    ⟨(some 4), none, (.mov (.t 15))⟩]) .ret))⟩
/- (*moiety/moietyref05.Tree).Kids -/
def s368_l0 : S := (.seq (.seq (.reg [⟨(some 7), none, (.mov (.t 6))⟩,
    ⟨(some 8), none, (.mov (.t 0))⟩,
    ⟨(some 9), none, (.nilCheck (.t 8))⟩,
    ⟨(some 10), none, (.fieldAddr 0 (.t 9))⟩,
    ⟨(some 11), none, (.load none (.t 10))⟩,
    ⟨(some 12), none, (.len false (.t 11))⟩,
    ⟨(some 13), none, (.bin .lss (.t 7) (.t 12))⟩,
    ⟨(some 14), none, (.mov (.t 13))⟩,
    ⟨(some 15), (some (14, true)), (.mov (.t 0))⟩,
    ⟨(some 16), (some (14, true)), (.mov (.t 1))⟩,
    ⟨(some 17), (some (14, true)), (.call (.f 367) [(.t 15), (.t 16)])⟩,
    ⟨(some 18), none, (.pick (.t 14) (.t 17) (.c (.bool false)))⟩]) (.cond (.t 18) .skip (.exit 0))) (.seq (.block 1 (.seq (.reg [⟨(some 21), none, (.mov (.t 0))⟩,
    ⟨(some 22), none, (.nilCheck (.t 21))⟩,
    ⟨(some 23), none, (.fieldAddr 0 (.t 22))⟩,
    ⟨(some 24), none, (.load none (.t 23))⟩,
    ⟨(some 25), none, (.mov (.t 6))⟩,
    ⟨(some 26), none, (.indexAddr none 2 (.t 24) (.t 25))⟩,
    ⟨(some 27), none, (.fieldAddr 1 (.t 26))⟩,
    ⟨(some 28), none, (.load none (.t 27))⟩,
    ⟨(some 29), none, (.mov (.t 1))⟩,
    ⟨(some 30), none, (.bin .eql (.t 28) (.t 29))⟩]) (.cond (.t 30) (.reg [⟨(some 31), none, (.mov (.t 5))⟩,
    ⟨(some 32), none, (.mov (.t 6))⟩,
    ⟨(some 33), none, (.buildSlice 1 [(.int .i64 0)] [(0, 1, (.t 32))])⟩,
    ⟨(some 34), none, (.append 1 8 (.t 31) (.t 33))⟩,
    ⟨(some 5), none, (.mov (.t 34))⟩]) .skip))) (.reg [⟨(some 19), none, (.mov (.t 6))⟩,
    ⟨(some 20), none, (.bin .add (.t 19) (.c (.int .i64 1)))⟩,
    ⟨(some 6), none, (.mov (.t 20))⟩])))
def s368 : SFn := ⟨[.tmp 4], (.seq (.reg [⟨(some 4), none, (.mov (.c (.slice none 0 (.known 0))))⟩]) (.seq (.reg [⟨(some 5), none, (.mov (.c (.slice none 0 (.known 0))))⟩]) (.seq (.seq (.reg [⟨(some 6), none, (.mov (.c (.int .i64 0)))⟩]) (.block 0 (.loop s368_l0))) (.seq (.reg [⟨(some 35), none, (.mov (.t 5))⟩,
    ⟨(some 4), none, (.mov (.t 35))⟩]) .ret))))⟩
/- slices.Index[[]int,int] -/
def s369_l0 : S := (.seq (.reg [⟨(some 9), none, (.bin .lss (.t 8) (.t 7))⟩]) (.seq (.cond (.t 9) .skip (.exit 0)) (.seq (.block 1 (.seq (.reg [⟨(some 10), none, (.mov (.t 8))⟩,
    ⟨(some 5), none, (.mov (.t 10))⟩]) (.seq (.reg [⟨(some 11), none, (.mov (.t 1))⟩,
    ⟨(some 12), none, (.mov (.t 0))⟩,
    ⟨(some 13), none, (.mov (.t 5))⟩,
    ⟨(some 14), none, (.indexAddr none 1 (.t 12) (.t 13))⟩,
    ⟨(some 15), none, (.load none (.t 14))⟩,
    ⟨(some 16), none, (.bin .eql (.t 11) (.t 15))⟩]) (.cond (.t 16) (.seq (.reg [⟨(some 17), none, (.mov (.t 5))⟩,
    ⟨(some 4), none, (.mov (.t 17))⟩]) .ret) .skip)))) (.reg [⟨(some 18), none, (.bin .add (.t 8) (.c (.int .i64 1)))⟩,
    ⟨(some 8), none, (.mov (.t 18))⟩]))))
def s369 : SFn := ⟨[.tmp 4], (.seq (.reg [⟨(some 4), none, (.mov (.c (.int .i64 0)))⟩]) (.seq (.seq (.reg [⟨(some 6), none, (.mov (.t 0))⟩,
    ⟨(some 7), none, (.len false (.t 6))⟩,
    ⟨(some 8), none, (.mov (.c (.int .i64 0)))⟩]) (.block 0 (.loop s369_l0))) (.seq (.reg [⟨(some 4), none, (.mov (.c (.int .i64 (-1))))⟩]) .ret)))⟩
/- slices.insertionSortCmpFunc[moiety/api.Cell] -/
def s370_l0 : S := (.seq (.seq (.dreg false [⟨⟨(some 18), none, (.mov (.t 9))⟩, 0, 0⟩,
    ⟨⟨(some 19), none, (.mov (.t 1))⟩, 0, 0⟩,
    ⟨⟨(some 20), none, (.bin .gtr (.t 18) (.t 19))⟩, 0, 0⟩,
    ⟨⟨(some 21), none, (.mov (.t 20))⟩, 0, 0⟩,
    ⟨⟨(some 22), (some (21, true)), (.mov (.t 3))⟩, 0, 0⟩,
    ⟨⟨(some 23), (some (21, true)), (.mov (.t 0))⟩, 0, 0⟩,
    ⟨⟨(some 24), (some (21, true)), (.mov (.t 9))⟩, 0, 0⟩,
    ⟨⟨(some 25), (some (21, true)), (.indexAddr none 5 (.t 23) (.t 24))⟩, 0, 0⟩,
    ⟨⟨(some 26), (some (21, true)), (.load (some 5) (.t 25))⟩, 0, 0⟩,
    ⟨⟨(some 27), (some (21, true)), (.mov (.t 0))⟩, 0, 0⟩,
    ⟨⟨(some 28), (some (21, true)), (.mov (.t 9))⟩, 0, 0⟩,
    ⟨⟨(some 29), (some (21, true)), (.bin .sub (.t 28) (.c (.int .i64 1)))⟩, 0, 0⟩,
    ⟨⟨(some 30), (some (21, true)), (.indexAddr none 5 (.t 27) (.t 29))⟩, 0, 0⟩,
    ⟨⟨(some 31), (some (21, true)), (.load (some 5) (.t 30))⟩, 0, 0⟩,
    ⟨⟨(some 32), (some (21, true)), (.call (.t 22) [(.t 26), (.t 31)])⟩, 0, 1⟩,
    ⟨⟨(some 33), (some (21, true)), (.bin .lss (.t 32) (.c (.int .i64 0)))⟩, 1, 1⟩,
    ⟨⟨(some 34), none, (.pick (.t 21) (.t 33) (.c (.bool false)))⟩, 1, 1⟩]) (.cond (.t 34) .skip (.exit 2))) (.seq (.block 3 (.dreg false [⟨⟨(some 37), none, (.mov (.t 0))⟩, 0, 0⟩,
    ⟨⟨(some 38), none, (.mov (.t 9))⟩, 0, 0⟩,
    ⟨⟨(some 39), none, (.mov (.t 0))⟩, 0, 1⟩,
    ⟨⟨(some 40), none, (.mov (.t 9))⟩, 0, 1⟩,
    ⟨⟨(some 41), none, (.bin .sub (.t 40) (.c (.int .i64 1)))⟩, 0, 1⟩,
    ⟨⟨(some 42), none, (.mov (.t 0))⟩, 0, 0⟩,
    ⟨⟨(some 43), none, (.mov (.t 9))⟩, 0, 0⟩,
    ⟨⟨(some 44), none, (.bin .sub (.t 43) (.c (.int .i64 1)))⟩, 0, 0⟩,
    ⟨⟨(some 45), none, (.indexAddr none 5 (.t 42) (.t 44))⟩, 0, 0⟩,
    ⟨⟨(some 46), none, (.load (some 5) (.t 45))⟩, 0, 0⟩,
    ⟨⟨(some 47), none, (.mov (.t 0))⟩, 0, 0⟩,
    ⟨⟨(some 48), none, (.mov (.t 9))⟩, 0, 0⟩,
    ⟨⟨(some 49), none, (.indexAddr none 5 (.t 47) (.t 48))⟩, 0, 0⟩,
    ⟨⟨(some 50), none, (.load (some 5) (.t 49))⟩, 0, 0⟩,
    ⟨⟨(some 51), none, (.indexAddr none 5 (.t 37) (.t 38))⟩, 0, 0⟩,
    ⟨⟨none, none, (.store 5 (.t 51) (.t 46))⟩, 0, 1⟩,
    ⟨⟨(some 52), none, (.indexAddr none 5 (.t 39) (.t 41))⟩, 1, 1⟩,
    ⟨⟨none, none, (.store 5 (.t 52) (.t 50))⟩, 1, 2⟩])) (.reg [⟨(some 35), none, (.mov (.t 9))⟩,
    ⟨(some 36), none, (.bin .sub (.t 35) (.c (.int .i64 1)))⟩,
    ⟨(some 9), none, (.mov (.t 36))⟩])))
def s370_l1 : S := (.seq (.seq (.reg [⟨(some 12), none, (.mov (.t 8))⟩,
    ⟨(some 13), none, (.mov (.t 2))⟩,
    ⟨(some 14), none, (.bin .lss (.t 12) (.t 13))⟩]) (.cond (.t 14) .skip (.exit 0))) (.seq (.block 1 (.seq (.reg [⟨(some 17), none, (.mov (.t 8))⟩,
    ⟨(some 9), none, (.mov (.t 17))⟩]) (.block 2 (.loop s370_l0)))) (.reg [⟨(some 15), none, (.mov (.t 8))⟩,
    ⟨(some 16), none, (.bin .add (.t 15) (.c (.int .i64 1)))⟩,
    ⟨(some 8), none, (.mov (.t 16))⟩])))
def s370 : SFn := ⟨[], (.seq (.reg [⟨(some 10), none, (.mov (.t 1))⟩,
    ⟨(some 11), none, (.bin .add (.t 10) (.c (.int .i64 1)))⟩,
    ⟨(some 8), none, (.mov (.t 11))⟩]) (.block 0 (.loop s370_l1)))⟩
/- slices.insertionSortCmpFunc[moiety/share.claim] -/
def s379_l0 : S := (.seq (.seq (.dreg false [⟨⟨(some 18), none, (.mov (.t 9))⟩, 0, 0⟩,
    ⟨⟨(some 19), none, (.mov (.t 1))⟩, 0, 0⟩,
    ⟨⟨(some 20), none, (.bin .gtr (.t 18) (.t 19))⟩, 0, 0⟩,
    ⟨⟨(some 21), none, (.mov (.t 20))⟩, 0, 0⟩,
    ⟨⟨(some 22), (some (21, true)), (.mov (.t 3))⟩, 0, 0⟩,
    ⟨⟨(some 23), (some (21, true)), (.mov (.t 0))⟩, 0, 0⟩,
    ⟨⟨(some 24), (some (21, true)), (.mov (.t 9))⟩, 0, 0⟩,
    ⟨⟨(some 25), (some (21, true)), (.indexAddr none 2 (.t 23) (.t 24))⟩, 0, 0⟩,
    ⟨⟨(some 26), (some (21, true)), (.load (some 2) (.t 25))⟩, 0, 0⟩,
    ⟨⟨(some 27), (some (21, true)), (.mov (.t 0))⟩, 0, 0⟩,
    ⟨⟨(some 28), (some (21, true)), (.mov (.t 9))⟩, 0, 0⟩,
    ⟨⟨(some 29), (some (21, true)), (.bin .sub (.t 28) (.c (.int .i64 1)))⟩, 0, 0⟩,
    ⟨⟨(some 30), (some (21, true)), (.indexAddr none 2 (.t 27) (.t 29))⟩, 0, 0⟩,
    ⟨⟨(some 31), (some (21, true)), (.load (some 2) (.t 30))⟩, 0, 0⟩,
    ⟨⟨(some 32), (some (21, true)), (.call (.t 22) [(.t 26), (.t 31)])⟩, 0, 1⟩,
    ⟨⟨(some 33), (some (21, true)), (.bin .lss (.t 32) (.c (.int .i64 0)))⟩, 1, 1⟩,
    ⟨⟨(some 34), none, (.pick (.t 21) (.t 33) (.c (.bool false)))⟩, 1, 1⟩]) (.cond (.t 34) .skip (.exit 2))) (.seq (.block 3 (.dreg false [⟨⟨(some 37), none, (.mov (.t 0))⟩, 0, 0⟩,
    ⟨⟨(some 38), none, (.mov (.t 9))⟩, 0, 0⟩,
    ⟨⟨(some 39), none, (.mov (.t 0))⟩, 0, 1⟩,
    ⟨⟨(some 40), none, (.mov (.t 9))⟩, 0, 1⟩,
    ⟨⟨(some 41), none, (.bin .sub (.t 40) (.c (.int .i64 1)))⟩, 0, 1⟩,
    ⟨⟨(some 42), none, (.mov (.t 0))⟩, 0, 0⟩,
    ⟨⟨(some 43), none, (.mov (.t 9))⟩, 0, 0⟩,
    ⟨⟨(some 44), none, (.bin .sub (.t 43) (.c (.int .i64 1)))⟩, 0, 0⟩,
    ⟨⟨(some 45), none, (.indexAddr none 2 (.t 42) (.t 44))⟩, 0, 0⟩,
    ⟨⟨(some 46), none, (.load (some 2) (.t 45))⟩, 0, 0⟩,
    ⟨⟨(some 47), none, (.mov (.t 0))⟩, 0, 0⟩,
    ⟨⟨(some 48), none, (.mov (.t 9))⟩, 0, 0⟩,
    ⟨⟨(some 49), none, (.indexAddr none 2 (.t 47) (.t 48))⟩, 0, 0⟩,
    ⟨⟨(some 50), none, (.load (some 2) (.t 49))⟩, 0, 0⟩,
    ⟨⟨(some 51), none, (.indexAddr none 2 (.t 37) (.t 38))⟩, 0, 0⟩,
    ⟨⟨none, none, (.store 2 (.t 51) (.t 46))⟩, 0, 1⟩,
    ⟨⟨(some 52), none, (.indexAddr none 2 (.t 39) (.t 41))⟩, 1, 1⟩,
    ⟨⟨none, none, (.store 2 (.t 52) (.t 50))⟩, 1, 2⟩])) (.reg [⟨(some 35), none, (.mov (.t 9))⟩,
    ⟨(some 36), none, (.bin .sub (.t 35) (.c (.int .i64 1)))⟩,
    ⟨(some 9), none, (.mov (.t 36))⟩])))
def s379_l1 : S := (.seq (.seq (.reg [⟨(some 12), none, (.mov (.t 8))⟩,
    ⟨(some 13), none, (.mov (.t 2))⟩,
    ⟨(some 14), none, (.bin .lss (.t 12) (.t 13))⟩]) (.cond (.t 14) .skip (.exit 0))) (.seq (.block 1 (.seq (.reg [⟨(some 17), none, (.mov (.t 8))⟩,
    ⟨(some 9), none, (.mov (.t 17))⟩]) (.block 2 (.loop s379_l0)))) (.reg [⟨(some 15), none, (.mov (.t 8))⟩,
    ⟨(some 16), none, (.bin .add (.t 15) (.c (.int .i64 1)))⟩,
    ⟨(some 8), none, (.mov (.t 16))⟩])))
def s379 : SFn := ⟨[], (.seq (.reg [⟨(some 10), none, (.mov (.t 1))⟩,
    ⟨(some 11), none, (.bin .add (.t 10) (.c (.int .i64 1)))⟩,
    ⟨(some 8), none, (.mov (.t 11))⟩]) (.block 0 (.loop s379_l1)))⟩
/- slices.insertionSortOrdered[int] -/
def s381_l0 : S := (.seq (.seq (.dreg false [⟨⟨(some 16), none, (.mov (.t 7))⟩, 0, 0⟩,
    ⟨⟨(some 17), none, (.mov (.t 1))⟩, 0, 0⟩,
    ⟨⟨(some 18), none, (.bin .gtr (.t 16) (.t 17))⟩, 0, 0⟩,
    ⟨⟨(some 19), none, (.mov (.t 18))⟩, 0, 0⟩,
    ⟨⟨(some 20), (some (19, true)), (.mov (.t 0))⟩, 0, 0⟩,
    ⟨⟨(some 21), (some (19, true)), (.mov (.t 7))⟩, 0, 0⟩,
    ⟨⟨(some 22), (some (19, true)), (.indexAddr none 1 (.t 20) (.t 21))⟩, 0, 0⟩,
    ⟨⟨(some 23), (some (19, true)), (.load none (.t 22))⟩, 0, 0⟩,
    ⟨⟨(some 24), (some (19, true)), (.mov (.t 0))⟩, 0, 0⟩,
    ⟨⟨(some 25), (some (19, true)), (.mov (.t 7))⟩, 0, 0⟩,
    ⟨⟨(some 26), (some (19, true)), (.bin .sub (.t 25) (.c (.int .i64 1)))⟩, 0, 0⟩,
    ⟨⟨(some 27), (some (19, true)), (.indexAddr none 1 (.t 24) (.t 26))⟩, 0, 0⟩,
    ⟨⟨(some 28), (some (19, true)), (.load none (.t 27))⟩, 0, 0⟩,
    ⟨⟨(some 29), (some (19, true)), (.call (.f 387) [(.t 23), (.t 28)])⟩, 0, 1⟩,
    ⟨⟨(some 30), none, (.pick (.t 19) (.t 29) (.c (.bool false)))⟩, 1, 1⟩]) (.cond (.t 30) .skip (.exit 2))) (.seq (.block 3 (.dreg false [⟨⟨(some 33), none, (.mov (.t 0))⟩, 0, 0⟩,
    ⟨⟨(some 34), none, (.mov (.t 7))⟩, 0, 0⟩,
    ⟨⟨(some 35), none, (.mov (.t 0))⟩, 0, 1⟩,
    ⟨⟨(some 36), none, (.mov (.t 7))⟩, 0, 1⟩,
    ⟨⟨(some 37), none, (.bin .sub (.t 36) (.c (.int .i64 1)))⟩, 0, 1⟩,
    ⟨⟨(some 38), none, (.mov (.t 0))⟩, 0, 0⟩,
    ⟨⟨(some 39), none, (.mov (.t 7))⟩, 0, 0⟩,
    ⟨⟨(some 40), none, (.bin .sub (.t 39) (.c (.int .i64 1)))⟩, 0, 0⟩,
    ⟨⟨(some 41), none, (.indexAddr none 1 (.t 38) (.t 40))⟩, 0, 0⟩,
    ⟨⟨(some 42), none, (.load none (.t 41))⟩, 0, 0⟩,
    ⟨⟨(some 43), none, (.mov (.t 0))⟩, 0, 0⟩,
    ⟨⟨(some 44), none, (.mov (.t 7))⟩, 0, 0⟩,
    ⟨⟨(some 45), none, (.indexAddr none 1 (.t 43) (.t 44))⟩, 0, 0⟩,
    ⟨⟨(some 46), none, (.load none (.t 45))⟩, 0, 0⟩,
    ⟨⟨(some 47), none, (.indexAddr none 1 (.t 33) (.t 34))⟩, 0, 0⟩,
    ⟨⟨none, none, (.store 1 (.t 47) (.t 42))⟩, 0, 1⟩,
    ⟨⟨(some 48), none, (.indexAddr none 1 (.t 35) (.t 37))⟩, 1, 1⟩,
    ⟨⟨none, none, (.store 1 (.t 48) (.t 46))⟩, 1, 2⟩])) (.reg [⟨(some 31), none, (.mov (.t 7))⟩,
    ⟨(some 32), none, (.bin .sub (.t 31) (.c (.int .i64 1)))⟩,
    ⟨(some 7), none, (.mov (.t 32))⟩])))
def s381_l1 : S := (.seq (.seq (.reg [⟨(some 10), none, (.mov (.t 6))⟩,
    ⟨(some 11), none, (.mov (.t 2))⟩,
    ⟨(some 12), none, (.bin .lss (.t 10) (.t 11))⟩]) (.cond (.t 12) .skip (.exit 0))) (.seq (.block 1 (.seq (.reg [⟨(some 15), none, (.mov (.t 6))⟩,
    ⟨(some 7), none, (.mov (.t 15))⟩]) (.block 2 (.loop s381_l0)))) (.reg [⟨(some 13), none, (.mov (.t 6))⟩,
    ⟨(some 14), none, (.bin .add (.t 13) (.c (.int .i64 1)))⟩,
    ⟨(some 6), none, (.mov (.t 14))⟩])))
def s381 : SFn := ⟨[], (.seq (.reg [⟨(some 8), none, (.mov (.t 1))⟩,
    ⟨(some 9), none, (.bin .add (.t 8) (.c (.int .i64 1)))⟩,
    ⟨(some 6), none, (.mov (.t 9))⟩]) (.block 0 (.loop s381_l1)))⟩
/- cmp.Less[int] -/
def s387 : SFn := ⟨[.tmp 4], (.seq (.reg [⟨(some 4), none, (.mov (.c (.bool false)))⟩]) (.seq (.reg [⟨(some 5), none, (.mov (.t 0))⟩,
    ⟨(some 6), none, (.call (.f 268) [(.t 5)])⟩,
    ⟨(some 7), none, (.mov (.t 6))⟩,
    ⟨(some 8), (some (7, true)), (.mov (.t 1))⟩,
    ⟨(some 9), (some (7, true)), (.call (.f 268) [(.t 8)])⟩,
    ⟨(some 10), (some (7, true)), (.un .not (.t 9))⟩,
    ⟨(some 11), none, (.pick (.t 7) (.t 10) (.c (.bool false)))⟩,
    ⟨(some 12), none, (.mov (.t 11))⟩,
    ⟨(some 13), (some (12, false)), (.mov (.t 0))⟩,
    ⟨(some 14), (some (12, false)), (.mov (.t 1))⟩,
    ⟨(some 15), (some (12, false)), (.bin .lss (.t 13) (.t 14))⟩,
    ⟨(some 16), none, (.pick (.t 12) (.c (.bool true)) (.t 15))⟩,
    ⟨(some 4), none, (.mov (.t 16))⟩]) .ret))⟩
/- (*moiety/arena.Arena).Make -/
def s406_l0 : S := (.seq (.reg [⟨(some 23), none, (.bin .lss (.t 22) (.c (.int .i64 8)))⟩]) (.seq (.cond (.t 23) .skip (.exit 0)) (.seq (.block 1 (.seq (.reg [⟨(some 24), none, (.indexArr 8 1 none (.t 21) (.t 22))⟩,
    ⟨(some 7), none, (.mov (.t 24))⟩]) (.seq (.reg [⟨(some 25), none, (.mov (.t 7))⟩,
    ⟨(some 26), none, (.bin .neq (.t 25) (.c (.int .i64 0)))⟩,
    ⟨(some 27), none, (.mov (.t 26))⟩,
    ⟨(some 28), (some (27, true)), (.mov (.t 0))⟩,
    ⟨(some 29), (some (27, true)), (.mov (.t 7))⟩,
    ⟨(some 30), (some (27, true)), (.call (.f 273) [(.t 28), (.t 29)])⟩,
    ⟨(some 31), (some (27, true)), (.eq false .ptr (.t 30) (.c (.ptr none)))⟩,
    ⟨(some 32), none, (.pick (.t 27) (.t 31) (.c (.bool false)))⟩]) (.cond (.t 32) (.seq (.reg [⟨(some 4), none, (.mov (.c (.int .i64 0)))⟩,
    ⟨(some 5), none, (.mov (.c (.int .i64 10)))⟩]) .ret) .skip)))) (.reg [⟨(some 33), none, (.bin .add (.t 22) (.c (.int .i64 1)))⟩,
    ⟨(some 22), none, (.mov (.t 33))⟩]))))
def s406_l1 : S := (.seq (.reg [⟨(some 55), none, (.bin .lss (.t 54) (.c (.int .i64 8)))⟩]) (.seq (.cond (.t 55) .skip (.exit 2)) (.seq (.block 3 (.seq (.reg [⟨(some 56), none, (.indexArr 8 1 none (.t 53) (.t 54))⟩,
    ⟨(some 10), none, (.mov (.t 56))⟩]) (.seq (.reg [⟨(some 57), none, (.mov (.t 0))⟩,
    ⟨(some 58), none, (.mov (.t 10))⟩,
    ⟨(some 59), none, (.call (.f 273) [(.t 57), (.t 58)])⟩,
    ⟨(some 11), none, (.mov (.t 59))⟩]) (.seq (.reg [⟨(some 60), none, (.mov (.t 11))⟩,
    ⟨(some 61), none, (.eq true .ptr (.t 60) (.c (.ptr none)))⟩]) (.cond (.t 61) (.reg [⟨(some 62), none, (.mov (.t 11))⟩,
    ⟨(some 63), none, (.nilCheck (.t 62))⟩,
    ⟨(some 64), none, (.fieldAddr 25 (.t 63))⟩,
    ⟨(some 65), none, (.load none (.t 64))⟩,
    ⟨(some 66), none, (.bin .add (.t 65) (.c (.int .i64 1)))⟩,
    ⟨(some 67), none, (.nilCheck (.t 62))⟩,
    ⟨(some 68), none, (.fieldAddr 25 (.t 67))⟩,
    ⟨none, none, (.store 1 (.t 68) (.t 66))⟩]) .skip))))) (.reg [⟨(some 69), none, (.bin .add (.t 54) (.c (.int .i64 1)))⟩,
    ⟨(some 54), none, (.mov (.t 69))⟩]))))
def s406 : SFn := ⟨[.tmp 4, .tmp 5], (.seq (.reg [⟨(some 3), none, (.box (.t 1))⟩,
    ⟨(some 4), none, (.mov (.c (.int .i64 0)))⟩,
    ⟨(some 5), none, (.mov (.c (.int .i64 0)))⟩]) (.seq (.seq (.reg [⟨(some 12), none, (.mov (.t 0))⟩,
    ⟨(some 13), none, (.eq false .ptr (.t 12) (.c (.ptr none)))⟩]) (.cond (.t 13) (.seq (.reg [⟨(some 4), none, (.mov (.c (.int .i64 0)))⟩,
    ⟨(some 5), none, (.mov (.c (.int .i64 1)))⟩]) .ret) .skip)) (.seq (.seq (.reg [⟨(some 14), none, (.fieldAddr 0 (.t 3))⟩,
    ⟨(some 15), none, (.load none (.t 14))⟩]) (.cond (.t 15) (.reg [⟨(some 16), none, (.build [(.int .i64 0), (.int .i64 0), (.int .i64 0), (.int .i64 0), (.int .i64 0), (.int .i64 0), (.int .i64 0), (.int .i64 0)] [])⟩,
    ⟨(some 17), none, (.fieldAddr 1 (.t 3))⟩,
    ⟨none, none, (.store 8 (.t 17) (.t 16))⟩]) (.reg [⟨(some 18), none, (.build [(.int .i64 0), (.bool false), (.int .i64 0), (.bool false), (.int .i64 0), (.bool false), (.int .i64 0), (.bool false), (.int .i64 0), (.bool false), (.int .i64 0), (.bool false), (.int .i64 0), (.bool false), (.int .i64 0), (.bool false)] [])⟩,
    ⟨(some 19), none, (.fieldAddr 9 (.t 3))⟩,
    ⟨none, none, (.store 16 (.t 19) (.t 18))⟩]))) (.seq (.seq (.reg [⟨(some 20), none, (.fieldAddr 1 (.t 3))⟩,
    ⟨(some 21), none, (.load (some 8) (.t 20))⟩,
    ⟨(some 22), none, (.mov (.c (.int .i64 0)))⟩]) (.block 0 (.loop s406_l0))) (.seq (.seq (.dreg false [⟨⟨(some 34), none, (.mov (.t 0))⟩, 0, 0⟩,
    ⟨⟨(some 35), none, (.call (.f 423) [(.t 34)])⟩, 0, 1⟩,
    ⟨⟨(some 36), none, (.mov (.t 0))⟩, 0, 1⟩,
    ⟨⟨(some 37), none, (.nilCheck (.t 36))⟩, 0, 1⟩,
    ⟨⟨(some 38), none, (.fieldAddr 0 (.t 37))⟩, 0, 1⟩,
    ⟨⟨(some 39), none, (.load none (.t 38))⟩, 0, 1⟩,
    ⟨⟨(some 40), none, (.bin .geq (.t 35) (.t 39))⟩, 1, 1⟩]) (.cond (.t 40) (.seq (.reg [⟨(some 4), none, (.mov (.c (.int .i64 0)))⟩,
    ⟨(some 5), none, (.mov (.c (.int .i64 14)))⟩]) .ret) .skip)) (.seq (.reg [⟨(some 41), none, (.mov (.t 0))⟩,
    ⟨(some 42), none, (.call (.f 424) [(.t 41)])⟩,
    ⟨(some 8), none, (.mov (.t 42))⟩]) (.seq (.dreg false [⟨⟨(some 43), none, (.mov (.t 0))⟩, 0, 0⟩,
    ⟨⟨(some 44), none, (.nilCheck (.t 43))⟩, 0, 0⟩,
    ⟨⟨(some 45), none, (.fieldAddr 1 (.t 44))⟩, 0, 0⟩,
    ⟨⟨(some 46), none, (.load none (.t 45))⟩, 0, 0⟩,
    ⟨⟨(some 47), none, (.mov (.t 8))⟩, 0, 0⟩,
    ⟨⟨(some 48), none, (.bin .sub (.t 47) (.c (.int .i64 1)))⟩, 0, 0⟩,
    ⟨⟨(some 49), none, (.load (some 25) (.t 3))⟩, 0, 0⟩,
    ⟨⟨(some 50), none, (.build [(.bool false), (.int .i64 0), (.int .i64 0), (.int .i64 0), (.int .i64 0), (.int .i64 0), (.int .i64 0), (.int .i64 0), (.int .i64 0), (.int .i64 0), (.bool false), (.int .i64 0), (.bool false), (.int .i64 0), (.bool false), (.int .i64 0), (.bool false), (.int .i64 0), (.bool false), (.int .i64 0), (.bool false), (.int .i64 0), (.bool false), (.int .i64 0), (.bool false), (.int .i64 0)] [(0, 25, (.t 49)), (25, 1, (.c (.int .i64 1)))])⟩, 0, 0⟩,
    ⟨⟨(some 51), none, (.indexAddr none 26 (.t 46) (.t 48))⟩, 0, 0⟩,
    ⟨⟨none, none, (.store 26 (.t 51) (.t 50))⟩, 0, 1⟩]) (.seq (.seq (.reg [⟨(some 52), none, (.fieldAddr 1 (.t 3))⟩,
    ⟨(some 53), none, (.load (some 8) (.t 52))⟩,
    ⟨(some 54), none, (.mov (.c (.int .i64 0)))⟩]) (.block 2 (.loop s406_l1))) (.seq (.reg [⟨(some 70), none, (.mov (.t 8))⟩,
    ⟨(some 4), none, (.mov (.t 70))⟩,
    ⟨(some 5), none, (.mov (.c (.int .i64 0)))⟩]) .ret)))))))))⟩
/- (*moiety/tree.Tree).Depth -/
def s410 : SFn := ⟨[.tmp 4], (.seq (.reg [⟨(some 4), none, (.mov (.c (.int .i64 0)))⟩]) (.seq (.reg [⟨(some 5), none, (.mov (.t 0))⟩,
    ⟨(some 6), none, (.mov (.t 1))⟩,
    ⟨(some 7), none, (.call (.f 236) [(.t 5), (.t 6)])⟩,
    ⟨(some 8), none, (.len false (.t 7))⟩,
    ⟨(some 9), none, (.bin .sub (.t 8) (.c (.int .i64 1)))⟩,
    ⟨(some 10), none, (.minmax true (.c (.int .i64 0)) (.t 9))⟩,
    ⟨(some 4), none, (.mov (.t 10))⟩]) .ret))⟩
/- (*moiety/arena.Arena).Used -/
def s423 : SFn := ⟨[.tmp 2], (.seq (.reg [⟨(some 2), none, (.mov (.c (.int .i64 0)))⟩]) (.seq (.seq (.reg [⟨(some 3), none, (.mov (.t 0))⟩,
    ⟨(some 4), none, (.eq false .ptr (.t 3) (.c (.ptr none)))⟩]) (.cond (.t 4) (.seq (.reg [⟨(some 2), none, (.mov (.c (.int .i64 0)))⟩]) .ret) .skip)) (.seq (.dreg false [⟨⟨(some 5), none, (.mov (.t 0))⟩, 0, 0⟩,
    ⟨⟨(some 6), none, (.nilCheck (.t 5))⟩, 0, 0⟩,
    ⟨⟨(some 7), none, (.fieldAddr 1 (.t 6))⟩, 0, 0⟩,
    ⟨⟨(some 8), none, (.load none (.t 7))⟩, 0, 0⟩,
    ⟨⟨(some 9), none, (.len false (.t 8))⟩, 0, 0⟩,
    ⟨⟨(some 10), none, (.mov (.t 0))⟩, 0, 0⟩,
    ⟨⟨(some 11), none, (.nilCheck (.t 10))⟩, 0, 0⟩,
    ⟨⟨(some 12), none, (.fieldAddr 2 (.t 11))⟩, 0, 0⟩,
    ⟨⟨(some 13), none, (.load none (.t 12))⟩, 0, 0⟩,
    ⟨⟨(some 14), none, (.len false (.t 13))⟩, 0, 0⟩,
    ⟨⟨(some 15), none, (.bin .sub (.t 9) (.t 14))⟩, 0, 0⟩,
    ⟨⟨(some 2), none, (.mov (.t 15))⟩, 0, 0⟩]) .ret)))⟩
/- (*moiety/arena.Arena).place -/
def s424 : SFn := ⟨[.tmp 2], (.seq (.reg [⟨(some 2), none, (.mov (.c (.int .i64 0)))⟩]) (.seq (.reg [⟨(some 5), none, (.mov (.t 0))⟩,
    ⟨(some 6), none, (.nilCheck (.t 5))⟩,
    ⟨(some 7), none, (.fieldAddr 2 (.t 6))⟩,
    ⟨(some 8), none, (.load none (.t 7))⟩,
    ⟨(some 9), none, (.len false (.t 8))⟩,
    ⟨(some 3), none, (.mov (.t 9))⟩]) (.seq (.seq (.reg [⟨(some 10), none, (.mov (.t 3))⟩,
    ⟨(some 11), none, (.bin .eql (.t 10) (.c (.int .i64 0)))⟩]) (.cond (.t 11) (.seq (.reg [⟨(some 12), none, (.mov (.t 0))⟩,
    ⟨(some 13), none, (.mov (.t 0))⟩,
    ⟨(some 14), none, (.nilCheck (.t 13))⟩,
    ⟨(some 15), none, (.fieldAddr 1 (.t 14))⟩,
    ⟨(some 16), none, (.load none (.t 15))⟩,
    ⟨(some 17), none, (.build [(.bool false), (.int .i64 0), (.int .i64 0), (.int .i64 0), (.int .i64 0), (.int .i64 0), (.int .i64 0), (.int .i64 0), (.int .i64 0), (.int .i64 0), (.bool false), (.int .i64 0), (.bool false), (.int .i64 0), (.bool false), (.int .i64 0), (.bool false), (.int .i64 0), (.bool false), (.int .i64 0), (.bool false), (.int .i64 0), (.bool false), (.int .i64 0), (.bool false), (.int .i64 0)] [])⟩,
    ⟨(some 18), none, (.buildSlice 1 [(.bool false), (.int .i64 0), (.int .i64 0), (.int .i64 0), (.int .i64 0), (.int .i64 0), (.int .i64 0), (.int .i64 0), (.int .i64 0), (.int .i64 0), (.bool false), (.int .i64 0), (.bool false), (.int .i64 0), (.bool false), (.int .i64 0), (.bool false), (.int .i64 0), (.bool false), (.int .i64 0), (.bool false), (.int .i64 0), (.bool false), (.int .i64 0), (.bool false), (.int .i64 0)] [(0, 26, (.t 17))])⟩,
    ⟨(some 19), none, (.append 26 208 (.t 16) (.t 18))⟩,
    ⟨(some 20), none, (.nilCheck (.t 12))⟩,
    ⟨(some 21), none, (.fieldAddr 1 (.t 20))⟩,
    ⟨none, none, (.store 1 (.t 21) (.t 19))⟩]) (.seq (.reg [⟨(some 22), none, (.mov (.t 0))⟩,
    ⟨(some 23), none, (.nilCheck (.t 22))⟩,
    ⟨(some 24), none, (.fieldAddr 1 (.t 23))⟩,
    ⟨(some 25), none, (.load none (.t 24))⟩,
    ⟨(some 26), none, (.len false (.t 25))⟩,
    ⟨(some 2), none, (.mov (.t 26))⟩]) .ret)) .skip)) (.seq (.reg [⟨(some 27), none, (.mov (.t 0))⟩,
    ⟨(some 28), none, (.nilCheck (.t 27))⟩,
    ⟨(some 29), none, (.fieldAddr 2 (.t 28))⟩,
    ⟨(some 30), none, (.load none (.t 29))⟩,
    ⟨(some 31), none, (.mov (.t 3))⟩,
    ⟨(some 32), none, (.bin .sub (.t 31) (.c (.int .i64 1)))⟩,
    ⟨(some 33), none, (.indexAddr none 1 (.t 30) (.t 32))⟩,
    ⟨(some 34), none, (.load none (.t 33))⟩,
    ⟨(some 4), none, (.mov (.t 34))⟩]) (.seq (.reg [⟨(some 35), none, (.mov (.t 0))⟩,
    ⟨(some 36), none, (.mov (.t 0))⟩,
    ⟨(some 37), none, (.nilCheck (.t 36))⟩,
    ⟨(some 38), none, (.fieldAddr 2 (.t 37))⟩,
    ⟨(some 39), none, (.load none (.t 38))⟩,
    ⟨(some 40), none, (.mov (.t 3))⟩,
    ⟨(some 41), none, (.bin .sub (.t 40) (.c (.int .i64 1)))⟩,
    ⟨(some 42), none, (.slice (.slice 1) (.t 39) none (some (.t 41)) none)⟩,
    ⟨(some 43), none, (.nilCheck (.t 35))⟩,
    ⟨(some 44), none, (.fieldAddr 2 (.t 43))⟩,
    ⟨none, none, (.store 1 (.t 44) (.t 42))⟩]) (.seq (.reg [⟨(some 45), none, (.mov (.t 4))⟩,
    ⟨(some 2), none, (.mov (.t 45))⟩]) .ret))))))⟩
theorem low297 : lowerFn Tryz.prog Tryz.f297 = some s297 := by kernel_rfl
theorem low298 : lowerFn Tryz.prog Tryz.f298 = some s298 := by kernel_rfl
theorem low299 : lowerFn Tryz.prog Tryz.f299 = some s299 := by kernel_rfl
theorem low300 : lowerFn Tryz.prog Tryz.f300 = some s300 := by kernel_rfl
theorem low301 : lowerFn Tryz.prog Tryz.f301 = some s301 := by kernel_rfl
theorem low302 : lowerFn Tryz.prog Tryz.f302 = some s302 := by kernel_rfl
theorem low307 : lowerFn Tryz.prog Tryz.f307 = some s307 := by kernel_rfl
theorem low308 : lowerFn Tryz.prog Tryz.f308 = some s308 := by kernel_rfl
theorem low309 : lowerFn Tryz.prog Tryz.f309 = some s309 := by kernel_rfl
theorem low310 : lowerFn Tryz.prog Tryz.f310 = some s310 := by kernel_rfl
theorem low311 : lowerFn Tryz.prog Tryz.f311 = some s311 := by kernel_rfl
theorem low329 : lowerFn Tryz.prog Tryz.f329 = some s329 := by kernel_rfl
theorem low330 : lowerFn Tryz.prog Tryz.f330 = some s330 := by kernel_rfl
theorem low331 : lowerFn Tryz.prog Tryz.f331 = some s331 := by kernel_rfl
theorem low334 : lowerFn Tryz.prog Tryz.f334 = some s334 := by kernel_rfl
theorem low335 : lowerFn Tryz.prog Tryz.f335 = some s335 := by kernel_rfl
theorem low343 : lowerFn Tryz.prog Tryz.f343 = some s343 := by kernel_rfl
theorem low345 : lowerFn Tryz.prog Tryz.f345 = some s345 := by kernel_rfl
theorem low347 : lowerFn Tryz.prog Tryz.f347 = some s347 := by kernel_rfl
theorem low348 : lowerFn Tryz.prog Tryz.f348 = some s348 := by kernel_rfl
theorem low349 : lowerFn Tryz.prog Tryz.f349 = some s349 := by kernel_rfl
theorem low356 : lowerFn Tryz.prog Tryz.f356 = some s356 := by kernel_rfl
theorem low357 : lowerFn Tryz.prog Tryz.f357 = some s357 := by kernel_rfl
theorem low358 : lowerFn Tryz.prog Tryz.f358 = some s358 := by kernel_rfl
theorem low359 : lowerFn Tryz.prog Tryz.f359 = some s359 := by kernel_rfl
theorem low360 : lowerFn Tryz.prog Tryz.f360 = some s360 := by kernel_rfl
theorem low361 : lowerFn Tryz.prog Tryz.f361 = some s361 := by kernel_rfl
theorem low362 : lowerFn Tryz.prog Tryz.f362 = some s362 := by kernel_rfl
theorem low363 : lowerFn Tryz.prog Tryz.f363 = some s363 := by kernel_rfl
theorem low365 : lowerFn Tryz.prog Tryz.f365 = some s365 := by kernel_rfl
theorem low366 : lowerFn Tryz.prog Tryz.f366 = some s366 := by kernel_rfl
theorem low367 : lowerFn Tryz.prog Tryz.f367 = some s367 := by kernel_rfl
theorem low368 : lowerFn Tryz.prog Tryz.f368 = some s368 := by kernel_rfl
theorem low369 : lowerFn Tryz.prog Tryz.f369 = some s369 := by kernel_rfl
theorem low370 : lowerFn Tryz.prog Tryz.f370 = some s370 := by kernel_rfl
theorem low379 : lowerFn Tryz.prog Tryz.f379 = some s379 := by kernel_rfl
theorem low381 : lowerFn Tryz.prog Tryz.f381 = some s381 := by kernel_rfl
theorem low387 : lowerFn Tryz.prog Tryz.f387 = some s387 := by kernel_rfl
theorem low406 : lowerFn Tryz.prog Tryz.f406 = some s406 := by kernel_rfl
theorem low410 : lowerFn Tryz.prog Tryz.f410 = some s410 := by kernel_rfl
theorem low423 : lowerFn Tryz.prog Tryz.f423 = some s423 := by kernel_rfl
theorem low424 : lowerFn Tryz.prog Tryz.f424 = some s424 := by kernel_rfl
theorem ok297 : DefOk Tryz.prog 297 (.text s297) := ⟨Tryz.call297, _, Tryz.func297, low297⟩
theorem ok298 : DefOk Tryz.prog 298 (.text s298) := ⟨Tryz.call298, _, Tryz.func298, low298⟩
theorem ok299 : DefOk Tryz.prog 299 (.text s299) := ⟨Tryz.call299, _, Tryz.func299, low299⟩
theorem ok300 : DefOk Tryz.prog 300 (.text s300) := ⟨Tryz.call300, _, Tryz.func300, low300⟩
theorem ok301 : DefOk Tryz.prog 301 (.text s301) := ⟨Tryz.call301, _, Tryz.func301, low301⟩
theorem ok302 : DefOk Tryz.prog 302 (.text s302) := ⟨Tryz.call302, _, Tryz.func302, low302⟩
theorem ok307 : DefOk Tryz.prog 307 (.text s307) := ⟨Tryz.call307, _, Tryz.func307, low307⟩
theorem ok308 : DefOk Tryz.prog 308 (.text s308) := ⟨Tryz.call308, _, Tryz.func308, low308⟩
theorem ok309 : DefOk Tryz.prog 309 (.text s309) := ⟨Tryz.call309, _, Tryz.func309, low309⟩
theorem ok310 : DefOk Tryz.prog 310 (.text s310) := ⟨Tryz.call310, _, Tryz.func310, low310⟩
theorem ok311 : DefOk Tryz.prog 311 (.text s311) := ⟨Tryz.call311, _, Tryz.func311, low311⟩
theorem ok329 : DefOk Tryz.prog 329 (.text s329) := ⟨Tryz.call329, _, Tryz.func329, low329⟩
theorem ok330 : DefOk Tryz.prog 330 (.text s330) := ⟨Tryz.call330, _, Tryz.func330, low330⟩
theorem ok331 : DefOk Tryz.prog 331 (.text s331) := ⟨Tryz.call331, _, Tryz.func331, low331⟩
theorem ok334 : DefOk Tryz.prog 334 (.text s334) := ⟨Tryz.call334, _, Tryz.func334, low334⟩
theorem ok335 : DefOk Tryz.prog 335 (.text s335) := ⟨Tryz.call335, _, Tryz.func335, low335⟩
theorem ok343 : DefOk Tryz.prog 343 (.text s343) := ⟨Tryz.call343, _, Tryz.func343, low343⟩
theorem ok345 : DefOk Tryz.prog 345 (.text s345) := ⟨Tryz.call345, _, Tryz.func345, low345⟩
theorem ok347 : DefOk Tryz.prog 347 (.text s347) := ⟨Tryz.call347, _, Tryz.func347, low347⟩
theorem ok348 : DefOk Tryz.prog 348 (.text s348) := ⟨Tryz.call348, _, Tryz.func348, low348⟩
theorem ok349 : DefOk Tryz.prog 349 (.text s349) := ⟨Tryz.call349, _, Tryz.func349, low349⟩
theorem ok356 : DefOk Tryz.prog 356 (.text s356) := ⟨Tryz.call356, _, Tryz.func356, low356⟩
theorem ok357 : DefOk Tryz.prog 357 (.text s357) := ⟨Tryz.call357, _, Tryz.func357, low357⟩
theorem ok358 : DefOk Tryz.prog 358 (.text s358) := ⟨Tryz.call358, _, Tryz.func358, low358⟩
theorem ok359 : DefOk Tryz.prog 359 (.text s359) := ⟨Tryz.call359, _, Tryz.func359, low359⟩
theorem ok360 : DefOk Tryz.prog 360 (.text s360) := ⟨Tryz.call360, _, Tryz.func360, low360⟩
theorem ok361 : DefOk Tryz.prog 361 (.text s361) := ⟨Tryz.call361, _, Tryz.func361, low361⟩
theorem ok362 : DefOk Tryz.prog 362 (.text s362) := ⟨Tryz.call362, _, Tryz.func362, low362⟩
theorem ok363 : DefOk Tryz.prog 363 (.text s363) := ⟨Tryz.call363, _, Tryz.func363, low363⟩
theorem ok365 : DefOk Tryz.prog 365 (.text s365) := ⟨Tryz.call365, _, Tryz.func365, low365⟩
theorem ok366 : DefOk Tryz.prog 366 (.text s366) := ⟨Tryz.call366, _, Tryz.func366, low366⟩
theorem ok367 : DefOk Tryz.prog 367 (.text s367) := ⟨Tryz.call367, _, Tryz.func367, low367⟩
theorem ok368 : DefOk Tryz.prog 368 (.text s368) := ⟨Tryz.call368, _, Tryz.func368, low368⟩
theorem ok369 : DefOk Tryz.prog 369 (.text s369) := ⟨Tryz.call369, _, Tryz.func369, low369⟩
theorem ok370 : DefOk Tryz.prog 370 (.text s370) := ⟨Tryz.call370, _, Tryz.func370, low370⟩
theorem ok379 : DefOk Tryz.prog 379 (.text s379) := ⟨Tryz.call379, _, Tryz.func379, low379⟩
theorem ok381 : DefOk Tryz.prog 381 (.text s381) := ⟨Tryz.call381, _, Tryz.func381, low381⟩
theorem ok387 : DefOk Tryz.prog 387 (.text s387) := ⟨Tryz.call387, _, Tryz.func387, low387⟩
theorem ok406 : DefOk Tryz.prog 406 (.text s406) := ⟨Tryz.call406, _, Tryz.func406, low406⟩
theorem ok410 : DefOk Tryz.prog 410 (.text s410) := ⟨Tryz.call410, _, Tryz.func410, low410⟩
theorem ok423 : DefOk Tryz.prog 423 (.text s423) := ⟨Tryz.call423, _, Tryz.func423, low423⟩
theorem ok424 : DefOk Tryz.prog 424 (.text s424) := ⟨Tryz.call424, _, Tryz.func424, low424⟩
def TFe0 : FuncId → Option Def
  | 297 => some (.text s297)
  | 298 => some (.text s298)
  | 299 => some (.text s299)
  | 300 => some (.text s300)
  | 301 => some (.text s301)
  | 302 => some (.text s302)
  | 307 => some (.text s307)
  | 308 => some (.text s308)
  | 309 => some (.text s309)
  | 310 => some (.text s310)
  | 311 => some (.text s311)
  | 329 => some (.text s329)
  | _ => none
theorem TFe0_ok : ∀ f d, TFe0 f = some d → DefOk Tryz.prog f d := by
  intro f d h
  unfold TFe0 at h
  split at h
  · cases h; exact ok297
  · cases h; exact ok298
  · cases h; exact ok299
  · cases h; exact ok300
  · cases h; exact ok301
  · cases h; exact ok302
  · cases h; exact ok307
  · cases h; exact ok308
  · cases h; exact ok309
  · cases h; exact ok310
  · cases h; exact ok311
  · cases h; exact ok329
  · cases h
def TFe1 : FuncId → Option Def
  | 330 => some (.text s330)
  | 331 => some (.text s331)
  | 334 => some (.text s334)
  | 335 => some (.text s335)
  | 343 => some (.text s343)
  | 345 => some (.text s345)
  | 347 => some (.text s347)
  | 348 => some (.text s348)
  | 349 => some (.text s349)
  | 356 => some (.text s356)
  | 357 => some (.text s357)
  | 358 => some (.text s358)
  | _ => none
theorem TFe1_ok : ∀ f d, TFe1 f = some d → DefOk Tryz.prog f d := by
  intro f d h
  unfold TFe1 at h
  split at h
  · cases h; exact ok330
  · cases h; exact ok331
  · cases h; exact ok334
  · cases h; exact ok335
  · cases h; exact ok343
  · cases h; exact ok345
  · cases h; exact ok347
  · cases h; exact ok348
  · cases h; exact ok349
  · cases h; exact ok356
  · cases h; exact ok357
  · cases h; exact ok358
  · cases h
def TFe2 : FuncId → Option Def
  | 359 => some (.text s359)
  | 360 => some (.text s360)
  | 361 => some (.text s361)
  | 362 => some (.text s362)
  | 363 => some (.text s363)
  | 365 => some (.text s365)
  | 366 => some (.text s366)
  | 367 => some (.text s367)
  | 368 => some (.text s368)
  | 369 => some (.text s369)
  | 370 => some (.text s370)
  | 379 => some (.text s379)
  | _ => none
theorem TFe2_ok : ∀ f d, TFe2 f = some d → DefOk Tryz.prog f d := by
  intro f d h
  unfold TFe2 at h
  split at h
  · cases h; exact ok359
  · cases h; exact ok360
  · cases h; exact ok361
  · cases h; exact ok362
  · cases h; exact ok363
  · cases h; exact ok365
  · cases h; exact ok366
  · cases h; exact ok367
  · cases h; exact ok368
  · cases h; exact ok369
  · cases h; exact ok370
  · cases h; exact ok379
  · cases h
def TFe3 : FuncId → Option Def
  | 381 => some (.text s381)
  | 387 => some (.text s387)
  | 406 => some (.text s406)
  | 410 => some (.text s410)
  | 423 => some (.text s423)
  | 424 => some (.text s424)
  | _ => none
theorem TFe3_ok : ∀ f d, TFe3 f = some d → DefOk Tryz.prog f d := by
  intro f d h
  unfold TFe3 at h
  split at h
  · cases h; exact ok381
  · cases h; exact ok387
  · cases h; exact ok406
  · cases h; exact ok410
  · cases h; exact ok423
  · cases h; exact ok424
  · cases h
def TFe (f : FuncId) : Option Def := cond (Nat.ble f 358) (cond (Nat.ble f 329) (TFe0 f) (TFe1 f)) (cond (Nat.ble f 379) (TFe2 f) (TFe3 f))
theorem TFe_ok : ∀ f d, TFe f = some d → DefOk Tryz.prog f d := by
  intro f d h
  unfold TFe at h
  cases hb358 : Nat.ble f 358 with
  | true =>
    rw [hb358, cond_true] at h
    cases hb329 : Nat.ble f 329 with
    | true =>
      rw [hb329, cond_true] at h
      exact TFe0_ok f d h
    | false =>
      rw [hb329, cond_false] at h
      exact TFe1_ok f d h
  | false =>
    rw [hb358, cond_false] at h
    cases hb379 : Nat.ble f 379 with
    | true =>
      rw [hb379, cond_true] at h
      exact TFe2_ok f d h
    | false =>
      rw [hb379, cond_false] at h
      exact TFe3_ok f d h
end Go.Proofs.YtbdigabjcjdfcaaGreat
