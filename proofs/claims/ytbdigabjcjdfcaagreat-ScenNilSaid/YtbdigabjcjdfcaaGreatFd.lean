/-
  The functions of this seat as the evaluator has them: printed by a program of this session (wip/tools), each held against the translation by the kernel.
-/
import Derived.Test.YtbdigabjcjdfcaaGreatProg
import Derived.Test.YtbdigabjcjdfcaaGreatLu
import Derived.Test.YtbdigabjcjdfcaaGreatFz
import Derived.KernelRfl
namespace Go.Proofs.YtbdigabjcjdfcaaGreat
open Go.Lite
/- slices.Clone[[]string,string] -/
def s209 : SFn := ⟨[.tmp 2], (.seq (.reg [⟨(some 2), none, (.mov (.c (.slice none 0 (.known 0))))⟩]) (.seq (.seq (.reg [⟨(some 3), none, (.mov (.t 0))⟩,
    ⟨(some 4), none, (.eq false .slice (.t 3) (.c (.slice none 0 (.known 0))))⟩]) (.cond (.t 4) (.seq (.reg [⟨(some 2), none, (.mov (.c (.slice none 0 (.known 0))))⟩]) .ret) .skip)) (.seq (.reg [⟨(some 5), none, (.buildSlice 0 [] [])⟩,
    ⟨(some 6), none, (.mov (.t 0))⟩,
    ⟨(some 7), none, (.append 1 16 (.t 5) (.t 6))⟩,
    ⟨(some 2), none, (.mov (.t 7))⟩]) .ret)))⟩
/- slices.Clone[[]moiety/api.Dim,moiety/api.Dim] -/
def s210 : SFn := ⟨[.tmp 2], (.seq (.reg [⟨(some 2), none, (.mov (.c (.slice none 0 (.known 0))))⟩]) (.seq (.seq (.reg [⟨(some 3), none, (.mov (.t 0))⟩,
    ⟨(some 4), none, (.eq false .slice (.t 3) (.c (.slice none 0 (.known 0))))⟩]) (.cond (.t 4) (.seq (.reg [⟨(some 2), none, (.mov (.c (.slice none 0 (.known 0))))⟩]) .ret) .skip)) (.seq (.reg [⟨(some 5), none, (.buildSlice 0 [] [])⟩,
    ⟨(some 6), none, (.mov (.t 0))⟩,
    ⟨(some 7), none, (.append 2 40 (.t 5) (.t 6))⟩,
    ⟨(some 2), none, (.mov (.t 7))⟩]) .ret)))⟩
/- slices.Clone[[]moiety/api.Node,moiety/api.Node] -/
def s211 : SFn := ⟨[.tmp 2], (.seq (.reg [⟨(some 2), none, (.mov (.c (.slice none 0 (.known 0))))⟩]) (.seq (.seq (.reg [⟨(some 3), none, (.mov (.t 0))⟩,
    ⟨(some 4), none, (.eq false .slice (.t 3) (.c (.slice none 0 (.known 0))))⟩]) (.cond (.t 4) (.seq (.reg [⟨(some 2), none, (.mov (.c (.slice none 0 (.known 0))))⟩]) .ret) .skip)) (.seq (.reg [⟨(some 5), none, (.buildSlice 0 [] [])⟩,
    ⟨(some 6), none, (.mov (.t 0))⟩,
    ⟨(some 7), none, (.append 2 24 (.t 5) (.t 6))⟩,
    ⟨(some 2), none, (.mov (.t 7))⟩]) .ret)))⟩
/- slices.AppendSeq[[]string,string] -/
def s212 : SFn := ⟨[.tmp 4], (.seq (.reg [⟨(some 2), none, (.box (.t 0))⟩,
    ⟨(some 4), none, (.mov (.c (.slice none 0 (.known 0))))⟩]) (.seq (.seq (.reg [⟨(some 6), none, (.mov (.t 1))⟩]) (.block 0 (.range (.t 6) [7] (.reg [⟨(some 5), none, (.mov (.t 7))⟩]) (.block 1 (.reg [⟨(some 8), none, (.load none (.t 2))⟩,
    ⟨(some 9), none, (.mov (.t 5))⟩,
    ⟨(some 10), none, (.buildSlice 1 [(.str ⟨#[]⟩)] [(0, 1, (.t 9))])⟩,
    ⟨(some 11), none, (.append 1 16 (.t 8) (.t 10))⟩,
    ⟨none, none, (.store 1 (.t 2) (.t 11))⟩]))))) (.seq (.reg [⟨(some 12), none, (.load none (.t 2))⟩,
    ⟨(some 4), none, (.mov (.t 12))⟩]) .ret)))⟩
/- slices.pdqsortOrdered[string] -/
def s213_l0 : S := (.block 1 (.seq (.reg [⟨(some 19), none, (.mov (.t 2))⟩,
    ⟨(some 20), none, (.mov (.t 1))⟩,
    ⟨(some 21), none, (.bin .sub (.t 19) (.t 20))⟩,
    ⟨(some 10), none, (.mov (.t 21))⟩]) (.seq (.seq (.reg [⟨(some 22), none, (.mov (.t 10))⟩,
    ⟨(some 23), none, (.bin .leq (.t 22) (.c (.int .i64 12)))⟩]) (.cond (.t 23) (.seq (.reg [⟨(some 24), none, (.mov (.t 0))⟩,
    ⟨(some 25), none, (.mov (.t 1))⟩,
    ⟨(some 26), none, (.mov (.t 2))⟩,
    ⟨(some 27), none, (.call (.f 280) [(.t 24), (.t 25), (.t 26)])⟩]) .ret) .skip)) (.seq (.seq (.reg [⟨(some 28), none, (.mov (.t 3))⟩,
    ⟨(some 29), none, (.bin .eql (.t 28) (.c (.int .i64 0)))⟩]) (.cond (.t 29) (.seq (.reg [⟨(some 30), none, (.mov (.t 0))⟩,
    ⟨(some 31), none, (.mov (.t 1))⟩,
    ⟨(some 32), none, (.mov (.t 2))⟩,
    ⟨(some 33), none, (.call (.f 281) [(.t 30), (.t 31), (.t 32)])⟩]) .ret) .skip)) (.seq (.seq (.reg [⟨(some 34), none, (.mov (.t 8))⟩,
    ⟨(some 35), none, (.un .not (.t 34))⟩]) (.cond (.t 35) (.seq (.reg [⟨(some 36), none, (.mov (.t 0))⟩,
    ⟨(some 37), none, (.mov (.t 1))⟩,
    ⟨(some 38), none, (.mov (.t 2))⟩,
    ⟨(some 39), none, (.call (.f 282) [(.t 36), (.t 37), (.t 38)])⟩]) (.reg [⟨(some 40), none, (.mov (.t 3))⟩,
    ⟨(some 41), none, (.bin .sub (.t 40) (.c (.int .i64 1)))⟩,
    ⟨(some 3), none, (.mov (.t 41))⟩])) .skip)) (.seq (.reg [⟨(some 43), none, (.mov (.t 0))⟩,
    ⟨(some 44), none, (.mov (.t 1))⟩,
    ⟨(some 45), none, (.mov (.t 2))⟩,
    ⟨(some 46), none, (.call (.f 283) [(.t 43), (.t 44), (.t 45)])⟩,
    ⟨(some 42), none, (.mov (.t 46))⟩,
    ⟨(some 47), none, (.extract (.t 42) 0)⟩,
    ⟨(some 48), none, (.extract (.t 42) 1)⟩,
    ⟨(some 11), none, (.mov (.t 47))⟩,
    ⟨(some 12), none, (.mov (.t 48))⟩]) (.seq (.seq (.reg [⟨(some 49), none, (.mov (.t 12))⟩,
    ⟨(some 50), none, (.bin .eql (.t 49) (.c (.int .i64 2)))⟩]) (.cond (.t 50) (.seq (.reg [⟨(some 51), none, (.mov (.t 0))⟩,
    ⟨(some 52), none, (.mov (.t 1))⟩,
    ⟨(some 53), none, (.mov (.t 2))⟩,
    ⟨(some 54), none, (.call (.f 284) [(.t 51), (.t 52), (.t 53)])⟩]) (.seq (.reg [⟨(some 55), none, (.mov (.t 2))⟩,
    ⟨(some 56), none, (.bin .sub (.t 55) (.c (.int .i64 1)))⟩,
    ⟨(some 57), none, (.mov (.t 11))⟩,
    ⟨(some 58), none, (.mov (.t 1))⟩,
    ⟨(some 59), none, (.bin .sub (.t 57) (.t 58))⟩,
    ⟨(some 60), none, (.bin .sub (.t 56) (.t 59))⟩,
    ⟨(some 11), none, (.mov (.t 60))⟩]) (.reg [⟨(some 12), none, (.mov (.c (.int .i64 1)))⟩]))) .skip)) (.seq (.seq (.reg [⟨(some 61), none, (.mov (.t 8))⟩,
    ⟨(some 62), none, (.mov (.t 61))⟩,
    ⟨(some 63), (some (62, true)), (.mov (.t 9))⟩,
    ⟨(some 64), none, (.pick (.t 62) (.t 63) (.c (.bool false)))⟩,
    ⟨(some 65), none, (.mov (.t 64))⟩,
    ⟨(some 66), (some (65, true)), (.mov (.t 12))⟩,
    ⟨(some 67), (some (65, true)), (.bin .eql (.t 66) (.c (.int .i64 1)))⟩,
    ⟨(some 68), none, (.pick (.t 65) (.t 67) (.c (.bool false)))⟩]) (.cond (.t 68) (.seq (.reg [⟨(some 69), none, (.mov (.t 0))⟩,
    ⟨(some 70), none, (.mov (.t 1))⟩,
    ⟨(some 71), none, (.mov (.t 2))⟩,
    ⟨(some 72), none, (.call (.f 285) [(.t 69), (.t 70), (.t 71)])⟩]) (.cond (.t 72) .ret .skip)) .skip)) (.seq (.seq (.dreg false [⟨⟨(some 73), none, (.mov (.t 1))⟩, 0, 0⟩,
    ⟨⟨(some 74), none, (.bin .gtr (.t 73) (.c (.int .i64 0)))⟩, 0, 0⟩,
    ⟨⟨(some 75), none, (.mov (.t 74))⟩, 0, 0⟩,
    ⟨⟨(some 76), (some (75, true)), (.mov (.t 0))⟩, 0, 0⟩,
    ⟨⟨(some 77), (some (75, true)), (.mov (.t 1))⟩, 0, 0⟩,
    ⟨⟨(some 78), (some (75, true)), (.bin .sub (.t 77) (.c (.int .i64 1)))⟩, 0, 0⟩,
    ⟨⟨(some 79), (some (75, true)), (.indexAddr none 1 (.t 76) (.t 78))⟩, 0, 0⟩,
    ⟨⟨(some 80), (some (75, true)), (.load none (.t 79))⟩, 0, 0⟩,
    ⟨⟨(some 81), (some (75, true)), (.mov (.t 0))⟩, 0, 0⟩,
    ⟨⟨(some 82), (some (75, true)), (.mov (.t 11))⟩, 0, 0⟩,
    ⟨⟨(some 83), (some (75, true)), (.indexAddr none 1 (.t 81) (.t 82))⟩, 0, 0⟩,
    ⟨⟨(some 84), (some (75, true)), (.load none (.t 83))⟩, 0, 0⟩,
    ⟨⟨(some 85), (some (75, true)), (.call (.f 286) [(.t 80), (.t 84)])⟩, 0, 1⟩,
    ⟨⟨(some 86), (some (75, true)), (.un .not (.t 85))⟩, 1, 1⟩,
    ⟨⟨(some 87), none, (.pick (.t 75) (.t 86) (.c (.bool false)))⟩, 1, 1⟩]) (.cond (.t 87) (.seq (.reg [⟨(some 88), none, (.mov (.t 0))⟩,
    ⟨(some 89), none, (.mov (.t 1))⟩,
    ⟨(some 90), none, (.mov (.t 2))⟩,
    ⟨(some 91), none, (.mov (.t 11))⟩,
    ⟨(some 92), none, (.call (.f 287) [(.t 88), (.t 89), (.t 90), (.t 91)])⟩,
    ⟨(some 13), none, (.mov (.t 92))⟩]) (.seq (.reg [⟨(some 93), none, (.mov (.t 13))⟩,
    ⟨(some 1), none, (.mov (.t 93))⟩]) (.exit 1))) .skip)) (.seq (.reg [⟨(some 95), none, (.mov (.t 0))⟩,
    ⟨(some 96), none, (.mov (.t 1))⟩,
    ⟨(some 97), none, (.mov (.t 2))⟩,
    ⟨(some 98), none, (.mov (.t 11))⟩,
    ⟨(some 99), none, (.call (.f 288) [(.t 95), (.t 96), (.t 97), (.t 98)])⟩,
    ⟨(some 94), none, (.mov (.t 99))⟩,
    ⟨(some 100), none, (.extract (.t 94) 0)⟩,
    ⟨(some 101), none, (.extract (.t 94) 1)⟩,
    ⟨(some 14), none, (.mov (.t 100))⟩,
    ⟨(some 15), none, (.mov (.t 101))⟩]) (.seq (.reg [⟨(some 102), none, (.mov (.t 15))⟩,
    ⟨(some 9), none, (.mov (.t 102))⟩]) (.seq (.reg [⟨(some 103), none, (.mov (.t 14))⟩,
    ⟨(some 104), none, (.mov (.t 1))⟩,
    ⟨(some 105), none, (.bin .sub (.t 103) (.t 104))⟩,
    ⟨(some 106), none, (.mov (.t 2))⟩,
    ⟨(some 107), none, (.mov (.t 14))⟩,
    ⟨(some 108), none, (.bin .sub (.t 106) (.t 107))⟩,
    ⟨(some 16), none, (.mov (.t 105))⟩,
    ⟨(some 17), none, (.mov (.t 108))⟩]) (.seq (.reg [⟨(some 109), none, (.mov (.t 10))⟩,
    ⟨(some 110), none, (.bin .quo (.t 109) (.c (.int .i64 8)))⟩,
    ⟨(some 18), none, (.mov (.t 110))⟩]) (.seq (.reg [⟨(some 111), none, (.mov (.t 16))⟩,
    ⟨(some 112), none, (.mov (.t 17))⟩,
    ⟨(some 113), none, (.bin .lss (.t 111) (.t 112))⟩]) (.cond (.t 113) (.seq (.reg [⟨(some 114), none, (.mov (.t 16))⟩,
    ⟨(some 115), none, (.mov (.t 18))⟩,
    ⟨(some 116), none, (.bin .geq (.t 114) (.t 115))⟩,
    ⟨(some 8), none, (.mov (.t 116))⟩]) (.seq (.reg [⟨(some 117), none, (.mov (.t 0))⟩,
    ⟨(some 118), none, (.mov (.t 1))⟩,
    ⟨(some 119), none, (.mov (.t 14))⟩,
    ⟨(some 120), none, (.mov (.t 3))⟩,
    ⟨(some 121), none, (.call (.f 213) [(.t 117), (.t 118), (.t 119), (.t 120)])⟩]) (.reg [⟨(some 122), none, (.mov (.t 14))⟩,
    ⟨(some 123), none, (.bin .add (.t 122) (.c (.int .i64 1)))⟩,
    ⟨(some 1), none, (.mov (.t 123))⟩]))) (.seq (.reg [⟨(some 124), none, (.mov (.t 17))⟩,
    ⟨(some 125), none, (.mov (.t 18))⟩,
    ⟨(some 126), none, (.bin .geq (.t 124) (.t 125))⟩,
    ⟨(some 8), none, (.mov (.t 126))⟩]) (.seq (.reg [⟨(some 127), none, (.mov (.t 0))⟩,
    ⟨(some 128), none, (.mov (.t 14))⟩,
    ⟨(some 129), none, (.bin .add (.t 128) (.c (.int .i64 1)))⟩,
    ⟨(some 130), none, (.mov (.t 2))⟩,
    ⟨(some 131), none, (.mov (.t 3))⟩,
    ⟨(some 132), none, (.call (.f 213) [(.t 127), (.t 129), (.t 130), (.t 131)])⟩]) (.reg [⟨(some 133), none, (.mov (.t 14))⟩,
    ⟨(some 2), none, (.mov (.t 133))⟩]))))))))))))))))))
def s213 : SFn := ⟨[], (.seq (.reg [⟨(some 8), none, (.mov (.c (.bool true)))⟩]) (.seq (.reg [⟨(some 9), none, (.mov (.c (.bool true)))⟩]) (.block 0 (.loop s213_l0))))⟩
/- math/bits.Len -/
def s214 : SFn := ⟨[.tmp 2], (.seq (.reg [⟨(some 2), none, (.mov (.c (.int .i64 0)))⟩]) (.seq (.cond (.c (.bool false)) (.seq (.reg [⟨(some 3), none, (.mov (.t 0))⟩,
    ⟨(some 4), none, (.convInt .u32 (.t 3))⟩,
    ⟨(some 5), none, (.call (.f 289) [(.t 4)])⟩,
    ⟨(some 2), none, (.mov (.t 5))⟩]) .ret) .skip) (.seq (.reg [⟨(some 6), none, (.mov (.t 0))⟩,
    ⟨(some 7), none, (.call (.f 290) [(.t 6)])⟩,
    ⟨(some 2), none, (.mov (.t 7))⟩]) .ret)))⟩
/- slices.Clone[[]moiety/state.State,moiety/state.State] -/
def s215 : SFn := ⟨[.tmp 2], (.seq (.reg [⟨(some 2), none, (.mov (.c (.slice none 0 (.known 0))))⟩]) (.seq (.seq (.reg [⟨(some 3), none, (.mov (.t 0))⟩,
    ⟨(some 4), none, (.eq false .slice (.t 3) (.c (.slice none 0 (.known 0))))⟩]) (.cond (.t 4) (.seq (.reg [⟨(some 2), none, (.mov (.c (.slice none 0 (.known 0))))⟩]) .ret) .skip)) (.seq (.reg [⟨(some 5), none, (.buildSlice 0 [] [])⟩,
    ⟨(some 6), none, (.mov (.t 0))⟩,
    ⟨(some 7), none, (.append 3 56 (.t 5) (.t 6))⟩,
    ⟨(some 2), none, (.mov (.t 7))⟩]) .ret)))⟩
/- moiety/dims.within -/
def s216 : SFn := ⟨[.tmp 6], (.seq (.reg [⟨(some 6), none, (.mov (.c (.bool false)))⟩]) (.seq (.reg [⟨(some 7), none, (.mov (.t 0))⟩,
    ⟨(some 8), none, (.mov (.t 1))⟩,
    ⟨(some 9), none, (.bin .geq (.t 7) (.t 8))⟩,
    ⟨(some 10), none, (.mov (.t 9))⟩,
    ⟨(some 11), (some (10, true)), (.mov (.t 0))⟩,
    ⟨(some 12), (some (10, true)), (.mov (.t 2))⟩,
    ⟨(some 13), (some (10, true)), (.bin .leq (.t 11) (.t 12))⟩,
    ⟨(some 14), none, (.pick (.t 10) (.t 13) (.c (.bool false)))⟩,
    ⟨(some 6), none, (.mov (.t 14))⟩]) .ret))⟩
/- moiety/dims.fresh -/
def s217 : SFn := ⟨[.tmp 4], (.seq (.reg [⟨(some 4), none, (.mov (.c (.int .i64 0)))⟩]) (.seq (.block 0 (.seq (.reg [⟨(some 6), none, (.mov (.t 0))⟩,
    ⟨(some 7), none, (.call (.f 37) [(.t 6)])⟩,
    ⟨(some 8), none, (.un .not (.t 7))⟩,
    ⟨(some 5), none, (.mov (.t 8))⟩]) (.cond (.t 5) (.seq (.reg [⟨(some 4), none, (.mov (.c (.int .i64 3)))⟩]) .ret) (.seq (.reg [⟨(some 10), none, (.mov (.t 1))⟩,
    ⟨(some 11), none, (.mov (.t 0))⟩,
    ⟨(some 12), none, (.call (.f 291) [(.t 10), (.t 11)])⟩,
    ⟨(some 9), none, (.mov (.t 12))⟩]) (.cond (.t 9) (.seq (.reg [⟨(some 4), none, (.mov (.c (.int .i64 4)))⟩]) .ret) .skip))))) (.seq (.reg [⟨(some 4), none, (.mov (.c (.int .i64 0)))⟩]) .ret)))⟩
/- moiety/tree.New -/
def s218_l0 : S := (.seq (.reg [⟨(some 36), none, (.bin .lss (.t 35) (.t 34))⟩]) (.seq (.cond (.t 36) .skip (.exit 2)) (.seq (.block 3 (.seq (.reg [⟨(some 37), none, (.mov (.t 35))⟩,
    ⟨(some 7), none, (.mov (.t 37))⟩]) (.seq (.reg [⟨(some 38), none, (.mov (.t 5))⟩,
    ⟨(some 39), none, (.mov (.t 6))⟩,
    ⟨(some 40), none, (.mov (.t 7))⟩,
    ⟨(some 41), none, (.call (.f 292) [(.t 38), (.t 39), (.t 40)])⟩,
    ⟨(some 8), none, (.mov (.t 41))⟩]) (.seq (.reg [⟨(some 42), none, (.mov (.t 8))⟩,
    ⟨(some 43), none, (.bin .neq (.t 42) (.c (.int .i64 0)))⟩]) (.cond (.t 43) (.seq (.reg [⟨(some 44), none, (.mov (.t 7))⟩,
    ⟨(some 45), none, (.mov (.t 8))⟩,
    ⟨(some 2), none, (.mov (.c (.ptr none)))⟩,
    ⟨(some 3), none, (.mov (.t 44))⟩,
    ⟨(some 4), none, (.mov (.t 45))⟩]) .ret) .skip))))) (.reg [⟨(some 46), none, (.bin .add (.t 35) (.c (.int .i64 1)))⟩,
    ⟨(some 35), none, (.mov (.t 46))⟩]))))
def s218_l1 : S := (.seq (.reg [⟨(some 31), none, (.bin .lss (.t 30) (.c (.int .i64 5)))⟩]) (.seq (.cond (.t 31) .skip (.exit 0)) (.seq (.block 1 (.seq (.reg [⟨(some 32), none, (.mov (.t 30))⟩,
    ⟨(some 6), none, (.mov (.t 32))⟩]) (.seq (.reg [⟨(some 33), none, (.mov (.t 0))⟩,
    ⟨(some 34), none, (.len false (.t 33))⟩,
    ⟨(some 35), none, (.mov (.c (.int .i64 0)))⟩]) (.block 2 (.loop s218_l0))))) (.reg [⟨(some 47), none, (.bin .add (.t 30) (.c (.int .i64 1)))⟩,
    ⟨(some 30), none, (.mov (.t 47))⟩]))))
def s218_l2 : S := (.seq (.reg [⟨(some 51), none, (.bin .lss (.t 50) (.t 49))⟩]) (.seq (.cond (.t 51) .skip (.exit 4)) (.seq (.block 5 (.seq (.reg [⟨(some 52), none, (.mov (.t 50))⟩,
    ⟨(some 53), none, (.indexAddr none 2 (.t 48) (.t 50))⟩,
    ⟨(some 54), none, (.load (some 2) (.t 53))⟩,
    ⟨(some 10), none, (.new [(.str ⟨#[]⟩), (.int .i64 0)])⟩,
    ⟨(some 9), none, (.mov (.t 52))⟩,
    ⟨none, none, (.store 2 (.t 10) (.t 54))⟩]) (.seq (.reg [⟨(some 55), none, (.fieldAddr 1 (.t 10))⟩,
    ⟨(some 56), none, (.load none (.t 55))⟩,
    ⟨(some 57), none, (.bin .geq (.t 56) (.c (.int .i64 0)))⟩]) (.cond (.t 57) (.dreg false [⟨⟨(some 58), none, (.mov (.t 5))⟩, 0, 2⟩,
    ⟨⟨(some 59), none, (.nilCheck (.t 58))⟩, 0, 2⟩,
    ⟨⟨(some 60), none, (.fieldAddr 2 (.t 59))⟩, 0, 2⟩,
    ⟨⟨(some 61), none, (.load none (.t 60))⟩, 0, 2⟩,
    ⟨⟨(some 62), none, (.fieldAddr 1 (.t 10))⟩, 0, 2⟩,
    ⟨⟨(some 63), none, (.load none (.t 62))⟩, 0, 2⟩,
    ⟨⟨(some 64), none, (.mov (.t 5))⟩, 0, 1⟩,
    ⟨⟨(some 65), none, (.nilCheck (.t 64))⟩, 0, 1⟩,
    ⟨⟨(some 66), none, (.fieldAddr 2 (.t 65))⟩, 0, 1⟩,
    ⟨⟨(some 67), none, (.load none (.t 66))⟩, 0, 1⟩,
    ⟨⟨(some 68), none, (.fieldAddr 1 (.t 10))⟩, 0, 1⟩,
    ⟨⟨(some 69), none, (.load none (.t 68))⟩, 0, 1⟩,
    ⟨⟨(some 70), none, (.indexAddr none 1 (.t 67) (.t 69))⟩, 0, 1⟩,
    ⟨⟨(some 71), none, (.load none (.t 70))⟩, 0, 1⟩,
    ⟨⟨(some 72), none, (.mov (.t 9))⟩, 0, 0⟩,
    ⟨⟨(some 73), none, (.buildSlice 1 [(.int .i64 0)] [(0, 1, (.t 72))])⟩, 0, 1⟩,
    ⟨⟨(some 74), none, (.append 1 8 (.t 71) (.t 73))⟩, 1, 2⟩,
    ⟨⟨(some 75), none, (.indexAddr none 1 (.t 61) (.t 63))⟩, 2, 2⟩,
    ⟨⟨none, none, (.store 1 (.t 75) (.t 74))⟩, 2, 3⟩]) .skip)))) (.reg [⟨(some 76), none, (.bin .add (.t 50) (.c (.int .i64 1)))⟩,
    ⟨(some 50), none, (.mov (.t 76))⟩]))))
def s218 : SFn := ⟨[.tmp 2, .tmp 3, .tmp 4], (.seq (.reg [⟨(some 2), none, (.mov (.c (.ptr none)))⟩,
    ⟨(some 3), none, (.mov (.c (.int .i64 0)))⟩,
    ⟨(some 4), none, (.mov (.c (.int .i64 0)))⟩]) (.seq (.seq (.reg [⟨(some 11), none, (.mov (.t 0))⟩,
    ⟨(some 12), none, (.len false (.t 11))⟩,
    ⟨(some 13), none, (.bin .eql (.t 12) (.c (.int .i64 0)))⟩,
    ⟨(some 14), none, (.mov (.t 13))⟩,
    ⟨(some 15), (some (14, false)), (.mov (.t 0))⟩,
    ⟨(some 16), (some (14, false)), (.len false (.t 15))⟩,
    ⟨(some 17), (some (14, false)), (.bin .gtr (.t 16) (.c (.int .i64 32)))⟩,
    ⟨(some 18), none, (.pick (.t 14) (.c (.bool true)) (.t 17))⟩]) (.cond (.t 18) (.seq (.reg [⟨(some 2), none, (.mov (.c (.ptr none)))⟩,
    ⟨(some 3), none, (.mov (.c (.int .i64 0)))⟩,
    ⟨(some 4), none, (.mov (.c (.int .i64 5)))⟩]) .ret) .skip)) (.seq (.dreg true [⟨⟨(some 19), none, (.mov (.t 0))⟩, 0, 0⟩,
    ⟨⟨(some 20), none, (.call (.f 211) [(.t 19)])⟩, 0, 1⟩,
    ⟨⟨(some 21), none, .makeMap⟩, 0, 1⟩,
    ⟨⟨(some 22), none, (.mov (.t 0))⟩, 0, 1⟩,
    ⟨⟨(some 23), none, (.len false (.t 22))⟩, 0, 1⟩,
    ⟨⟨(some 24), none, (.makeSlice 24 [(.slice none 0 (.known 0))] (.t 23) (.t 23))⟩, 0, 1⟩,
    ⟨⟨(some 25), none, (.mov (.t 0))⟩, 0, 1⟩,
    ⟨⟨(some 26), none, (.len false (.t 25))⟩, 0, 1⟩,
    ⟨⟨(some 27), none, (.makeSlice 16 [(.int .i64 0), (.int .i64 0)] (.t 26) (.t 26))⟩, 0, 1⟩,
    ⟨⟨(some 28), none, (.build [(.slice none 0 (.known 0)), (.map none), (.slice none 0 (.known 0)), (.slice none 0 (.known 0)), (.slice none 0 (.known 0)), (.slice none 0 (.known 0))] [(0, 1, (.t 20)), (1, 1, (.t 21)), (2, 1, (.t 24)), (5, 1, (.t 27))])⟩, 1, 1⟩,
    ⟨⟨(some 29), none, (.box (.t 28))⟩, 1, 2⟩,
    ⟨⟨(some 5), none, (.mov (.t 29))⟩, 2, 2⟩]) (.seq (.seq (.reg [⟨(some 30), none, (.mov (.c (.int .i64 0)))⟩]) (.block 0 (.loop s218_l1))) (.seq (.seq (.reg [⟨(some 48), none, (.mov (.t 0))⟩,
    ⟨(some 49), none, (.len false (.t 48))⟩,
    ⟨(some 50), none, (.mov (.c (.int .i64 0)))⟩]) (.block 4 (.loop s218_l2))) (.seq (.reg [⟨(some 77), none, (.mov (.t 5))⟩,
    ⟨(some 78), none, (.call (.f 293) [(.t 77)])⟩]) (.seq (.reg [⟨(some 79), none, (.mov (.t 5))⟩,
    ⟨(some 2), none, (.mov (.t 79))⟩,
    ⟨(some 3), none, (.mov (.c (.int .i64 0)))⟩,
    ⟨(some 4), none, (.mov (.c (.int .i64 0)))⟩]) .ret)))))))⟩
/- moiety/moietyref06.named -/
def s219_l0 : S := (.seq (.seq (.reg [⟨(some 12), none, (.mov (.t 5))⟩,
    ⟨(some 13), none, (.mov (.t 1))⟩,
    ⟨(some 14), none, (.bin .lss (.t 12) (.t 13))⟩]) (.cond (.t 14) .skip (.exit 0))) (.seq (.block 1 (.seq (.dreg false [⟨⟨(some 17), none, (.mov (.t 0))⟩, 0, 0⟩,
    ⟨⟨(some 18), none, (.mov (.t 5))⟩, 0, 0⟩,
    ⟨⟨(some 19), none, (.indexAddr none 1 (.t 17) (.t 18))⟩, 0, 0⟩,
    ⟨⟨(some 20), none, (.load none (.t 19))⟩, 0, 0⟩,
    ⟨⟨(some 21), none, (.mov (.t 0))⟩, 0, 0⟩,
    ⟨⟨(some 22), none, (.mov (.t 1))⟩, 0, 0⟩,
    ⟨⟨(some 23), none, (.indexAddr none 1 (.t 21) (.t 22))⟩, 0, 0⟩,
    ⟨⟨(some 24), none, (.load none (.t 23))⟩, 0, 0⟩,
    ⟨⟨(some 25), none, (.bin .eql (.t 20) (.t 24))⟩, 0, 0⟩]) (.cond (.t 25) (.seq (.reg [⟨(some 4), none, (.mov (.c (.int .i64 4)))⟩]) .ret) .skip))) (.reg [⟨(some 15), none, (.mov (.t 5))⟩,
    ⟨(some 16), none, (.bin .add (.t 15) (.c (.int .i64 1)))⟩,
    ⟨(some 5), none, (.mov (.t 16))⟩])))
def s219 : SFn := ⟨[.tmp 4], (.seq (.reg [⟨(some 4), none, (.mov (.c (.int .i64 0)))⟩]) (.seq (.seq (.reg [⟨(some 6), none, (.mov (.t 0))⟩,
    ⟨(some 7), none, (.mov (.t 1))⟩,
    ⟨(some 8), none, (.indexAddr none 1 (.t 6) (.t 7))⟩,
    ⟨(some 9), none, (.load none (.t 8))⟩,
    ⟨(some 10), none, (.call (.f 294) [(.t 9)])⟩,
    ⟨(some 11), none, (.un .not (.t 10))⟩]) (.cond (.t 11) (.seq (.reg [⟨(some 4), none, (.mov (.c (.int .i64 3)))⟩]) .ret) .skip)) (.seq (.seq (.reg [⟨(some 5), none, (.mov (.c (.int .i64 0)))⟩]) (.block 0 (.loop s219_l0))) (.seq (.reg [⟨(some 4), none, (.mov (.c (.int .i64 0)))⟩]) .ret))))⟩
/- moiety/moietyref06.Names -/
def s220_l0 : S := (.seq (.seq (.reg [⟨(some 5), none, (.mov (.t 4))⟩,
    ⟨(some 6), none, (.mov (.t 0))⟩,
    ⟨(some 7), none, (.len false (.t 6))⟩,
    ⟨(some 8), none, (.bin .lss (.t 5) (.t 7))⟩]) (.cond (.t 8) .skip (.exit 0))) (.seq (.block 1 (.reg [⟨(some 11), none, (.mov (.t 3))⟩,
    ⟨(some 12), none, (.mov (.t 0))⟩,
    ⟨(some 13), none, (.mov (.t 4))⟩,
    ⟨(some 14), none, (.indexAddr none 2 (.t 12) (.t 13))⟩,
    ⟨(some 15), none, (.fieldAddr 0 (.t 14))⟩,
    ⟨(some 16), none, (.load none (.t 15))⟩,
    ⟨(some 17), none, (.buildSlice 1 [(.str ⟨#[]⟩)] [(0, 1, (.t 16))])⟩,
    ⟨(some 18), none, (.append 1 16 (.t 11) (.t 17))⟩,
    ⟨(some 3), none, (.mov (.t 18))⟩])) (.reg [⟨(some 9), none, (.mov (.t 4))⟩,
    ⟨(some 10), none, (.bin .add (.t 9) (.c (.int .i64 1)))⟩,
    ⟨(some 4), none, (.mov (.t 10))⟩])))
def s220 : SFn := ⟨[.tmp 2], (.seq (.reg [⟨(some 2), none, (.mov (.c (.slice none 0 (.known 0))))⟩]) (.seq (.reg [⟨(some 3), none, (.mov (.c (.slice none 0 (.known 0))))⟩]) (.seq (.seq (.reg [⟨(some 4), none, (.mov (.c (.int .i64 0)))⟩]) (.block 0 (.loop s220_l0))) (.seq (.reg [⟨(some 19), none, (.mov (.t 3))⟩,
    ⟨(some 2), none, (.mov (.t 19))⟩]) .ret))))⟩
/- moiety/moietyref05.New -/
def s221_l0 : S := (.seq (.seq (.reg [⟨(some 32), none, (.mov (.t 6))⟩,
    ⟨(some 33), none, (.mov (.t 0))⟩,
    ⟨(some 34), none, (.len false (.t 33))⟩,
    ⟨(some 35), none, (.bin .lss (.t 32) (.t 34))⟩]) (.cond (.t 35) .skip (.exit 0))) (.seq (.block 1 (.seq (.reg [⟨(some 38), none, (.mov (.t 0))⟩,
    ⟨(some 39), none, (.mov (.t 6))⟩,
    ⟨(some 40), none, (.indexAddr none 2 (.t 38) (.t 39))⟩,
    ⟨(some 41), none, (.fieldAddr 0 (.t 40))⟩,
    ⟨(some 42), none, (.load none (.t 41))⟩,
    ⟨(some 43), none, (.call (.f 294) [(.t 42)])⟩,
    ⟨(some 44), none, (.un .not (.t 43))⟩]) (.cond (.t 44) (.seq (.reg [⟨(some 45), none, (.mov (.t 6))⟩,
    ⟨(some 2), none, (.mov (.c (.ptr none)))⟩,
    ⟨(some 3), none, (.mov (.t 45))⟩,
    ⟨(some 4), none, (.mov (.c (.int .i64 3)))⟩]) .ret) .skip))) (.reg [⟨(some 36), none, (.mov (.t 6))⟩,
    ⟨(some 37), none, (.bin .add (.t 36) (.c (.int .i64 1)))⟩,
    ⟨(some 6), none, (.mov (.t 37))⟩])))
def s221_l1 : S := (.seq (.seq (.reg [⟨(some 46), none, (.mov (.t 7))⟩,
    ⟨(some 47), none, (.mov (.t 0))⟩,
    ⟨(some 48), none, (.len false (.t 47))⟩,
    ⟨(some 49), none, (.bin .lss (.t 46) (.t 48))⟩]) (.cond (.t 49) .skip (.exit 2))) (.seq (.block 3 (.seq (.reg [⟨(some 52), none, (.mov (.t 5))⟩,
    ⟨(some 53), none, (.mov (.t 0))⟩,
    ⟨(some 54), none, (.mov (.t 7))⟩,
    ⟨(some 55), none, (.indexAddr none 2 (.t 53) (.t 54))⟩,
    ⟨(some 56), none, (.fieldAddr 0 (.t 55))⟩,
    ⟨(some 57), none, (.load none (.t 56))⟩,
    ⟨(some 58), none, (.call (.f 295) [(.t 52), (.t 57)])⟩,
    ⟨(some 59), none, (.mov (.t 7))⟩,
    ⟨(some 60), none, (.bin .lss (.t 58) (.t 59))⟩]) (.cond (.t 60) (.seq (.reg [⟨(some 61), none, (.mov (.t 7))⟩,
    ⟨(some 2), none, (.mov (.c (.ptr none)))⟩,
    ⟨(some 3), none, (.mov (.t 61))⟩,
    ⟨(some 4), none, (.mov (.c (.int .i64 4)))⟩]) .ret) .skip))) (.reg [⟨(some 50), none, (.mov (.t 7))⟩,
    ⟨(some 51), none, (.bin .add (.t 50) (.c (.int .i64 1)))⟩,
    ⟨(some 7), none, (.mov (.t 51))⟩])))
def s221_l2 : S := (.seq (.seq (.reg [⟨(some 62), none, (.mov (.t 8))⟩,
    ⟨(some 63), none, (.mov (.t 0))⟩,
    ⟨(some 64), none, (.len false (.t 63))⟩,
    ⟨(some 65), none, (.bin .lss (.t 62) (.t 64))⟩]) (.cond (.t 65) .skip (.exit 4))) (.seq (.block 5 (.seq (.reg [⟨(some 68), none, (.mov (.t 0))⟩,
    ⟨(some 69), none, (.mov (.t 8))⟩,
    ⟨(some 70), none, (.indexAddr none 2 (.t 68) (.t 69))⟩,
    ⟨(some 71), none, (.fieldAddr 1 (.t 70))⟩,
    ⟨(some 72), none, (.load none (.t 71))⟩,
    ⟨(some 73), none, (.bin .lss (.t 72) (.c (.int .i64 (-1))))⟩,
    ⟨(some 74), none, (.mov (.t 73))⟩,
    ⟨(some 75), (some (74, false)), (.mov (.t 0))⟩,
    ⟨(some 76), (some (74, false)), (.mov (.t 8))⟩,
    ⟨(some 77), (some (74, false)), (.indexAddr none 2 (.t 75) (.t 76))⟩,
    ⟨(some 78), (some (74, false)), (.fieldAddr 1 (.t 77))⟩,
    ⟨(some 79), (some (74, false)), (.load none (.t 78))⟩,
    ⟨(some 80), (some (74, false)), (.mov (.t 0))⟩,
    ⟨(some 81), (some (74, false)), (.len false (.t 80))⟩,
    ⟨(some 82), (some (74, false)), (.bin .geq (.t 79) (.t 81))⟩,
    ⟨(some 83), none, (.pick (.t 74) (.c (.bool true)) (.t 82))⟩]) (.cond (.t 83) (.seq (.reg [⟨(some 84), none, (.mov (.t 8))⟩,
    ⟨(some 2), none, (.mov (.c (.ptr none)))⟩,
    ⟨(some 3), none, (.mov (.t 84))⟩,
    ⟨(some 4), none, (.mov (.c (.int .i64 17)))⟩]) .ret) .skip))) (.reg [⟨(some 66), none, (.mov (.t 8))⟩,
    ⟨(some 67), none, (.bin .add (.t 66) (.c (.int .i64 1)))⟩,
    ⟨(some 8), none, (.mov (.t 67))⟩])))
def s221_l3 : S := (.seq (.seq (.reg [⟨(some 96), none, (.mov (.t 11))⟩,
    ⟨(some 97), none, (.mov (.t 0))⟩,
    ⟨(some 98), none, (.len false (.t 97))⟩,
    ⟨(some 99), none, (.bin .lss (.t 96) (.t 98))⟩,
    ⟨(some 100), none, (.mov (.t 99))⟩,
    ⟨(some 101), (some (100, true)), (.mov (.t 10))⟩,
    ⟨(some 102), (some (100, true)), (.bin .geq (.t 101) (.c (.int .i64 0)))⟩,
    ⟨(some 103), none, (.pick (.t 100) (.t 102) (.c (.bool false)))⟩]) (.cond (.t 103) .skip (.exit 8))) (.seq (.block 9 (.seq (.seq (.reg [⟨(some 106), none, (.mov (.t 10))⟩,
    ⟨(some 107), none, (.mov (.t 9))⟩,
    ⟨(some 108), none, (.bin .eql (.t 106) (.t 107))⟩]) (.cond (.t 108) (.seq (.reg [⟨(some 109), none, (.mov (.t 9))⟩,
    ⟨(some 2), none, (.mov (.c (.ptr none)))⟩,
    ⟨(some 3), none, (.mov (.t 109))⟩,
    ⟨(some 4), none, (.mov (.c (.int .i64 15)))⟩]) .ret) .skip)) (.reg [⟨(some 110), none, (.mov (.t 0))⟩,
    ⟨(some 111), none, (.mov (.t 10))⟩,
    ⟨(some 112), none, (.indexAddr none 2 (.t 110) (.t 111))⟩,
    ⟨(some 113), none, (.fieldAddr 1 (.t 112))⟩,
    ⟨(some 114), none, (.load none (.t 113))⟩,
    ⟨(some 10), none, (.mov (.t 114))⟩]))) (.reg [⟨(some 104), none, (.mov (.t 11))⟩,
    ⟨(some 105), none, (.bin .add (.t 104) (.c (.int .i64 1)))⟩,
    ⟨(some 11), none, (.mov (.t 105))⟩])))
def s221_l4 : S := (.seq (.seq (.reg [⟨(some 85), none, (.mov (.t 9))⟩,
    ⟨(some 86), none, (.mov (.t 0))⟩,
    ⟨(some 87), none, (.len false (.t 86))⟩,
    ⟨(some 88), none, (.bin .lss (.t 85) (.t 87))⟩]) (.cond (.t 88) .skip (.exit 6))) (.seq (.block 7 (.seq (.reg [⟨(some 91), none, (.mov (.t 0))⟩,
    ⟨(some 92), none, (.mov (.t 9))⟩,
    ⟨(some 93), none, (.indexAddr none 2 (.t 91) (.t 92))⟩,
    ⟨(some 94), none, (.fieldAddr 1 (.t 93))⟩,
    ⟨(some 95), none, (.load none (.t 94))⟩,
    ⟨(some 10), none, (.mov (.t 95))⟩]) (.seq (.reg [⟨(some 11), none, (.mov (.c (.int .i64 0)))⟩]) (.block 8 (.loop s221_l3))))) (.reg [⟨(some 89), none, (.mov (.t 9))⟩,
    ⟨(some 90), none, (.bin .add (.t 89) (.c (.int .i64 1)))⟩,
    ⟨(some 9), none, (.mov (.t 90))⟩])))
def s221_l5 : S := (.seq (.seq (.reg [⟨(some 115), none, (.mov (.t 12))⟩,
    ⟨(some 116), none, (.mov (.t 0))⟩,
    ⟨(some 117), none, (.len false (.t 116))⟩,
    ⟨(some 118), none, (.bin .lss (.t 115) (.t 117))⟩]) (.cond (.t 118) .skip (.exit 10))) (.seq (.block 11 (.seq (.reg [⟨(some 121), none, (.mov (.t 5))⟩,
    ⟨(some 122), none, (.mov (.t 12))⟩,
    ⟨(some 123), none, (.call (.f 296) [(.t 121), (.t 122)])⟩,
    ⟨(some 124), none, (.bin .geq (.t 123) (.c (.int .i64 6)))⟩]) (.cond (.t 124) (.seq (.reg [⟨(some 125), none, (.mov (.t 12))⟩,
    ⟨(some 2), none, (.mov (.c (.ptr none)))⟩,
    ⟨(some 3), none, (.mov (.t 125))⟩,
    ⟨(some 4), none, (.mov (.c (.int .i64 16)))⟩]) .ret) .skip))) (.reg [⟨(some 119), none, (.mov (.t 12))⟩,
    ⟨(some 120), none, (.bin .add (.t 119) (.c (.int .i64 1)))⟩,
    ⟨(some 12), none, (.mov (.t 120))⟩])))
def s221 : SFn := ⟨[.tmp 2, .tmp 3, .tmp 4], (.seq (.reg [⟨(some 2), none, (.mov (.c (.ptr none)))⟩,
    ⟨(some 3), none, (.mov (.c (.int .i64 0)))⟩,
    ⟨(some 4), none, (.mov (.c (.int .i64 0)))⟩]) (.seq (.seq (.reg [⟨(some 13), none, (.mov (.t 0))⟩,
    ⟨(some 14), none, (.len false (.t 13))⟩,
    ⟨(some 15), none, (.bin .eql (.t 14) (.c (.int .i64 0)))⟩,
    ⟨(some 16), none, (.mov (.t 15))⟩,
    ⟨(some 17), (some (16, false)), (.mov (.t 0))⟩,
    ⟨(some 18), (some (16, false)), (.len false (.t 17))⟩,
    ⟨(some 19), (some (16, false)), (.bin .gtr (.t 18) (.c (.int .i64 32)))⟩,
    ⟨(some 20), none, (.pick (.t 16) (.c (.bool true)) (.t 19))⟩]) (.cond (.t 20) (.seq (.reg [⟨(some 2), none, (.mov (.c (.ptr none)))⟩,
    ⟨(some 3), none, (.mov (.c (.int .i64 0)))⟩,
    ⟨(some 4), none, (.mov (.c (.int .i64 5)))⟩]) .ret) .skip)) (.seq (.reg [⟨(some 21), none, (.build [(.slice none 0 (.known 0))] [])⟩,
    ⟨(some 22), none, (.box (.t 21))⟩,
    ⟨(some 5), none, (.mov (.t 22))⟩]) (.seq (.reg [⟨(some 23), none, (.mov (.t 5))⟩,
    ⟨(some 24), none, (.mov (.t 5))⟩,
    ⟨(some 25), none, (.nilCheck (.t 24))⟩,
    ⟨(some 26), none, (.fieldAddr 0 (.t 25))⟩,
    ⟨(some 27), none, (.load none (.t 26))⟩,
    ⟨(some 28), none, (.mov (.t 0))⟩,
    ⟨(some 29), none, (.append 2 24 (.t 27) (.t 28))⟩,
    ⟨(some 30), none, (.nilCheck (.t 23))⟩,
    ⟨(some 31), none, (.fieldAddr 0 (.t 30))⟩,
    ⟨none, none, (.store 1 (.t 31) (.t 29))⟩]) (.seq (.seq (.reg [⟨(some 6), none, (.mov (.c (.int .i64 0)))⟩]) (.block 0 (.loop s221_l0))) (.seq (.seq (.reg [⟨(some 7), none, (.mov (.c (.int .i64 0)))⟩]) (.block 2 (.loop s221_l1))) (.seq (.seq (.reg [⟨(some 8), none, (.mov (.c (.int .i64 0)))⟩]) (.block 4 (.loop s221_l2))) (.seq (.seq (.reg [⟨(some 9), none, (.mov (.c (.int .i64 0)))⟩]) (.block 6 (.loop s221_l4))) (.seq (.seq (.reg [⟨(some 12), none, (.mov (.c (.int .i64 0)))⟩]) (.block 10 (.loop s221_l5))) (.seq (.reg [⟨(some 126), none, (.mov (.t 5))⟩,
    ⟨(some 2), none, (.mov (.t 126))⟩,
    ⟨(some 3), none, (.mov (.c (.int .i64 0)))⟩,
    ⟨(some 4), none, (.mov (.c (.int .i64 0)))⟩]) .ret))))))))))⟩
/- (*moiety/moietyref05.Tree).Leaves -/
def s222_l0 : S := (.seq (.seq (.reg [⟨(some 8), none, (.mov (.t 5))⟩,
    ⟨(some 9), none, (.mov (.t 4))⟩,
    ⟨(some 10), none, (.len false (.t 9))⟩,
    ⟨(some 11), none, (.bin .lss (.t 8) (.t 10))⟩]) (.cond (.t 11) .skip (.exit 0))) (.seq (.block 1 (.seq (.reg [⟨(some 14), none, (.mov (.t 0))⟩,
    ⟨(some 15), none, (.mov (.t 4))⟩,
    ⟨(some 16), none, (.mov (.t 5))⟩,
    ⟨(some 17), none, (.indexAddr none 1 (.t 15) (.t 16))⟩,
    ⟨(some 18), none, (.load none (.t 17))⟩,
    ⟨(some 19), none, (.call (.f 298) [(.t 14), (.t 18)])⟩]) (.cond (.t 19) (.reg [⟨(some 20), none, (.mov (.t 3))⟩,
    ⟨(some 21), none, (.mov (.t 4))⟩,
    ⟨(some 22), none, (.mov (.t 5))⟩,
    ⟨(some 23), none, (.indexAddr none 1 (.t 21) (.t 22))⟩,
    ⟨(some 24), none, (.load none (.t 23))⟩,
    ⟨(some 25), none, (.buildSlice 1 [(.int .i64 0)] [(0, 1, (.t 24))])⟩,
    ⟨(some 26), none, (.append 1 8 (.t 20) (.t 25))⟩,
    ⟨(some 3), none, (.mov (.t 26))⟩]) .skip))) (.reg [⟨(some 12), none, (.mov (.t 5))⟩,
    ⟨(some 13), none, (.bin .add (.t 12) (.c (.int .i64 1)))⟩,
    ⟨(some 5), none, (.mov (.t 13))⟩])))
def s222 : SFn := ⟨[.tmp 2], (.seq (.reg [⟨(some 2), none, (.mov (.c (.slice none 0 (.known 0))))⟩]) (.seq (.reg [⟨(some 3), none, (.mov (.c (.slice none 0 (.known 0))))⟩]) (.seq (.reg [⟨(some 6), none, (.mov (.t 0))⟩,
    ⟨(some 7), none, (.call (.f 297) [(.t 6)])⟩,
    ⟨(some 4), none, (.mov (.t 7))⟩]) (.seq (.seq (.reg [⟨(some 5), none, (.mov (.c (.int .i64 0)))⟩]) (.block 0 (.loop s222_l0))) (.seq (.reg [⟨(some 27), none, (.mov (.t 3))⟩,
    ⟨(some 2), none, (.mov (.t 27))⟩]) .ret)))))⟩
/- (*moiety/tree.Tree).Within -/
def s223 : SFn := ⟨[.tmp 6], (.seq (.reg [⟨(some 6), none, (.mov (.c (.bool false)))⟩]) (.seq (.reg [⟨(some 7), none, (.mov (.t 0))⟩,
    ⟨(some 8), none, (.mov (.t 1))⟩,
    ⟨(some 9), none, (.call (.f 236) [(.t 7), (.t 8)])⟩,
    ⟨(some 10), none, (.mov (.t 2))⟩,
    ⟨(some 11), none, (.call (.f 299) [(.t 9), (.t 10)])⟩,
    ⟨(some 6), none, (.mov (.t 11))⟩]) .ret))⟩
/- slices.IndexFunc[[]moiety/api.Cell,moiety/api.Cell] -/
def s224_l0 : S := (.seq (.reg [⟨(some 9), none, (.bin .lss (.t 8) (.t 7))⟩]) (.seq (.cond (.t 9) .skip (.exit 0)) (.seq (.block 1 (.seq (.reg [⟨(some 10), none, (.mov (.t 8))⟩,
    ⟨(some 5), none, (.mov (.t 10))⟩]) (.seq (.reg [⟨(some 11), none, (.mov (.t 1))⟩,
    ⟨(some 12), none, (.mov (.t 0))⟩,
    ⟨(some 13), none, (.mov (.t 5))⟩,
    ⟨(some 14), none, (.indexAddr none 5 (.t 12) (.t 13))⟩,
    ⟨(some 15), none, (.load (some 5) (.t 14))⟩,
    ⟨(some 16), none, (.call (.t 11) [(.t 15)])⟩]) (.cond (.t 16) (.seq (.reg [⟨(some 17), none, (.mov (.t 5))⟩,
    ⟨(some 4), none, (.mov (.t 17))⟩]) .ret) .skip)))) (.reg [⟨(some 18), none, (.bin .add (.t 8) (.c (.int .i64 1)))⟩,
    ⟨(some 8), none, (.mov (.t 18))⟩]))))
def s224 : SFn := ⟨[.tmp 4], (.seq (.reg [⟨(some 4), none, (.mov (.c (.int .i64 0)))⟩]) (.seq (.seq (.reg [⟨(some 6), none, (.mov (.t 0))⟩,
    ⟨(some 7), none, (.len false (.t 6))⟩,
    ⟨(some 8), none, (.mov (.c (.int .i64 0)))⟩]) (.block 0 (.loop s224_l0))) (.seq (.reg [⟨(some 4), none, (.mov (.c (.int .i64 (-1))))⟩]) .ret)))⟩
/- (moiety/hold.Holds).List -/
def s225 : SFn := ⟨[.tmp 2], (.seq (.reg [⟨(some 1), none, (.box (.t 0))⟩,
    ⟨(some 2), none, (.mov (.c (.slice none 0 (.known 0))))⟩]) (.seq (.reg [⟨(some 3), none, (.fieldAddr 0 (.t 1))⟩,
    ⟨(some 4), none, (.load none (.t 3))⟩,
    ⟨(some 5), none, (.call (.f 300) [(.t 4)])⟩,
    ⟨(some 2), none, (.mov (.t 5))⟩]) .ret))⟩
/- (*moiety/state.Book).Held$1 -/
def s226 : SFn := ⟨[.tmp 2], (.seq (.reg [⟨(some 1), none, (.box (.t 0))⟩,
    ⟨(some 2), none, (.mov (.c (.bool false)))⟩]) (.seq (.reg [⟨(some 3), none, (.fieldAddr 1 (.t 1))⟩,
    ⟨(some 4), none, (.load none (.t 3))⟩,
    ⟨(some 2), none, (.mov (.t 4))⟩]) .ret))⟩
/- slices.SortFunc[[]moiety/api.Cell,moiety/api.Cell] -/
def s227 : SFn := ⟨[], (.seq (.reg [⟨(some 5), none, (.mov (.t 0))⟩,
    ⟨(some 6), none, (.len false (.t 5))⟩,
    ⟨(some 4), none, (.mov (.t 6))⟩]) (.reg [⟨(some 7), none, (.mov (.t 0))⟩,
    ⟨(some 8), none, (.mov (.t 4))⟩,
    ⟨(some 9), none, (.mov (.t 4))⟩,
    ⟨(some 10), none, (.convInt .u64 (.t 9))⟩,
    ⟨(some 11), none, (.call (.f 214) [(.t 10)])⟩,
    ⟨(some 12), none, (.mov (.t 1))⟩,
    ⟨(some 13), none, (.call (.f 301) [(.t 7), (.c (.int .i64 0)), (.t 8), (.t 11), (.t 12)])⟩]))⟩
/- slices.ContainsFunc[[]moiety/lock.entry,moiety/lock.entry] -/
def s229 : SFn := ⟨[.tmp 4], (.seq (.reg [⟨(some 4), none, (.mov (.c (.bool false)))⟩]) (.seq (.reg [⟨(some 5), none, (.mov (.t 0))⟩,
    ⟨(some 6), none, (.mov (.t 1))⟩,
    ⟨(some 7), none, (.call (.f 302) [(.t 5), (.t 6)])⟩,
    ⟨(some 8), none, (.bin .geq (.t 7) (.c (.int .i64 0)))⟩,
    ⟨(some 4), none, (.mov (.t 8))⟩]) .ret))⟩
/- moiety/basis.weigher -/
def s231 : SFn := ⟨[.tmp 8], (.seq (.reg [⟨(some 4), none, (.box (.t 0))⟩,
    ⟨(some 5), none, (.box (.t 1))⟩,
    ⟨(some 7), none, (.box (.t 3))⟩,
    ⟨(some 8), none, (.mov (.c .nilFunc))⟩]) (.seq (.reg [⟨(some 10), none, (.makeFunc 303 [] [(.t 4), (.t 5)])⟩,
    ⟨(some 9), none, (.new [.nilFunc])⟩,
    ⟨none, none, (.store 1 (.t 9) (.t 10))⟩]) (.seq (.seq (.reg [⟨(some 11), none, (.mov (.t 2))⟩]) (.block 0 (.seq (.reg [⟨(some 13), none, (.bin .eql (.t 11) (.c (.int .i64 1)))⟩,
    ⟨(some 12), none, (.mov (.t 13))⟩]) (.cond (.t 12) (.seq (.reg [⟨(some 14), none, (.load none (.t 9))⟩,
    ⟨(some 8), none, (.mov (.t 14))⟩]) .ret) (.seq (.reg [⟨(some 16), none, (.bin .eql (.t 11) (.c (.int .i64 2)))⟩,
    ⟨(some 15), none, (.mov (.t 16))⟩]) (.cond (.t 15) (.seq (.reg [⟨(some 17), none, (.makeFunc 305 [] [(.t 9), (.t 4), (.t 7)])⟩,
    ⟨(some 8), none, (.mov (.t 17))⟩]) .ret) .skip)))))) (.seq (.reg [⟨(some 8), none, (.mov (.f 307))⟩]) .ret))))⟩
/- moiety/num.MulDiv -/
def s232 : SFn := ⟨[.tmp 6, .tmp 7, .tmp 8], (.seq (.reg [⟨(some 6), none, (.mov (.c (.int .u64 0)))⟩,
    ⟨(some 7), none, (.mov (.c (.int .u64 0)))⟩,
    ⟨(some 8), none, (.mov (.c (.int .i64 0)))⟩]) (.seq (.reg [⟨(some 14), none, (.mov (.t 0))⟩,
    ⟨(some 15), none, (.mov (.t 1))⟩,
    ⟨(some 16), none, (.call (.f 308) [(.t 14), (.t 15)])⟩,
    ⟨(some 13), none, (.mov (.t 16))⟩,
    ⟨(some 17), none, (.extract (.t 13) 0)⟩,
    ⟨(some 18), none, (.extract (.t 13) 1)⟩,
    ⟨(some 9), none, (.mov (.t 17))⟩,
    ⟨(some 10), none, (.mov (.t 18))⟩]) (.seq (.block 0 (.seq (.reg [⟨(some 20), none, (.mov (.t 2))⟩,
    ⟨(some 21), none, (.bin .eql (.t 20) (.c (.int .u64 0)))⟩,
    ⟨(some 19), none, (.mov (.t 21))⟩]) (.cond (.t 19) (.seq (.reg [⟨(some 6), none, (.mov (.c (.int .u64 0)))⟩,
    ⟨(some 7), none, (.mov (.c (.int .u64 0)))⟩,
    ⟨(some 8), none, (.mov (.c (.int .i64 9)))⟩]) .ret) (.seq (.reg [⟨(some 23), none, (.mov (.t 9))⟩,
    ⟨(some 24), none, (.mov (.t 2))⟩,
    ⟨(some 25), none, (.bin .geq (.t 23) (.t 24))⟩,
    ⟨(some 22), none, (.mov (.t 25))⟩]) (.cond (.t 22) (.seq (.reg [⟨(some 6), none, (.mov (.c (.int .u64 0)))⟩,
    ⟨(some 7), none, (.mov (.c (.int .u64 0)))⟩,
    ⟨(some 8), none, (.mov (.c (.int .i64 8)))⟩]) .ret) .skip))))) (.seq (.reg [⟨(some 27), none, (.mov (.t 9))⟩,
    ⟨(some 28), none, (.mov (.t 10))⟩,
    ⟨(some 29), none, (.mov (.t 2))⟩,
    ⟨(some 30), none, (.call (.f 309) [(.t 27), (.t 28), (.t 29)])⟩,
    ⟨(some 26), none, (.mov (.t 30))⟩,
    ⟨(some 31), none, (.extract (.t 26) 0)⟩,
    ⟨(some 32), none, (.extract (.t 26) 1)⟩,
    ⟨(some 11), none, (.mov (.t 31))⟩,
    ⟨(some 12), none, (.mov (.t 32))⟩]) (.seq (.reg [⟨(some 33), none, (.mov (.t 11))⟩,
    ⟨(some 34), none, (.mov (.t 12))⟩,
    ⟨(some 6), none, (.mov (.t 33))⟩,
    ⟨(some 7), none, (.mov (.t 34))⟩,
    ⟨(some 8), none, (.mov (.c (.int .i64 0)))⟩]) .ret)))))⟩
/- slices.SortStableFunc[[]moiety/share.claim,moiety/share.claim] -/
def s233 : SFn := ⟨[], (.reg [⟨(some 4), none, (.mov (.t 0))⟩,
    ⟨(some 5), none, (.mov (.t 0))⟩,
    ⟨(some 6), none, (.len false (.t 5))⟩,
    ⟨(some 7), none, (.mov (.t 1))⟩,
    ⟨(some 8), none, (.call (.f 310) [(.t 4), (.t 6), (.t 7)])⟩])⟩
/- moiety/share.Split$1 -/
def s234 : SFn := ⟨[.tmp 4], (.seq (.reg [⟨(some 2), none, (.box (.t 0))⟩,
    ⟨(some 3), none, (.box (.t 1))⟩,
    ⟨(some 4), none, (.mov (.c (.int .i64 0)))⟩]) (.seq (.block 0 (.seq (.reg [⟨(some 6), none, (.fieldAddr 1 (.t 2))⟩,
    ⟨(some 7), none, (.load none (.t 6))⟩,
    ⟨(some 8), none, (.fieldAddr 1 (.t 3))⟩,
    ⟨(some 9), none, (.load none (.t 8))⟩,
    ⟨(some 10), none, (.bin .gtr (.t 7) (.t 9))⟩,
    ⟨(some 5), none, (.mov (.t 10))⟩]) (.cond (.t 5) (.seq (.reg [⟨(some 4), none, (.mov (.c (.int .i64 (-1))))⟩]) .ret) (.seq (.reg [⟨(some 12), none, (.fieldAddr 1 (.t 2))⟩,
    ⟨(some 13), none, (.load none (.t 12))⟩,
    ⟨(some 14), none, (.fieldAddr 1 (.t 3))⟩,
    ⟨(some 15), none, (.load none (.t 14))⟩,
    ⟨(some 16), none, (.bin .lss (.t 13) (.t 15))⟩,
    ⟨(some 11), none, (.mov (.t 16))⟩]) (.cond (.t 11) (.seq (.reg [⟨(some 4), none, (.mov (.c (.int .i64 1)))⟩]) .ret) .skip))))) (.seq (.reg [⟨(some 4), none, (.mov (.c (.int .i64 0)))⟩]) .ret)))⟩
/- moiety/num.fit -/
def s235 : SFn := ⟨[.tmp 4, .tmp 5], (.seq (.reg [⟨(some 4), none, (.mov (.c (.int .i64 0)))⟩,
    ⟨(some 5), none, (.mov (.c (.int .i64 0)))⟩]) (.seq (.seq (.reg [⟨(some 6), none, (.mov (.t 1))⟩,
    ⟨(some 7), none, (.un .not (.t 6))⟩]) (.cond (.t 7) (.seq (.reg [⟨(some 4), none, (.mov (.c (.int .i64 0)))⟩,
    ⟨(some 5), none, (.mov (.c (.int .i64 8)))⟩]) .ret) .skip)) (.seq (.reg [⟨(some 8), none, (.mov (.t 0))⟩,
    ⟨(some 4), none, (.mov (.t 8))⟩,
    ⟨(some 5), none, (.mov (.c (.int .i64 0)))⟩]) .ret)))⟩
/- (*moiety/tree.Tree).Above -/
def s236_l0 : S := (.seq (.seq (.reg [⟨(some 6), none, (.mov (.t 0))⟩,
    ⟨(some 7), none, (.mov (.t 1))⟩,
    ⟨(some 8), none, (.call (.f 269) [(.t 6), (.t 7)])⟩]) (.cond (.t 8) .skip (.exit 0))) (.seq (.block 1 (.reg [⟨(some 17), none, (.mov (.t 5))⟩,
    ⟨(some 18), none, (.mov (.t 1))⟩,
    ⟨(some 19), none, (.buildSlice 1 [(.int .i64 0)] [(0, 1, (.t 18))])⟩,
    ⟨(some 20), none, (.append 1 8 (.t 17) (.t 19))⟩,
    ⟨(some 5), none, (.mov (.t 20))⟩])) (.reg [⟨(some 9), none, (.mov (.t 0))⟩,
    ⟨(some 10), none, (.nilCheck (.t 9))⟩,
    ⟨(some 11), none, (.fieldAddr 0 (.t 10))⟩,
    ⟨(some 12), none, (.load none (.t 11))⟩,
    ⟨(some 13), none, (.mov (.t 1))⟩,
    ⟨(some 14), none, (.indexAddr none 2 (.t 12) (.t 13))⟩,
    ⟨(some 15), none, (.fieldAddr 1 (.t 14))⟩,
    ⟨(some 16), none, (.load none (.t 15))⟩,
    ⟨(some 1), none, (.mov (.t 16))⟩])))
def s236 : SFn := ⟨[.tmp 4], (.seq (.reg [⟨(some 4), none, (.mov (.c (.slice none 0 (.known 0))))⟩]) (.seq (.reg [⟨(some 5), none, (.mov (.c (.slice none 0 (.known 0))))⟩]) (.seq (.block 0 (.loop s236_l0)) (.seq (.reg [⟨(some 21), none, (.mov (.t 5))⟩,
    ⟨(some 4), none, (.mov (.t 21))⟩]) .ret))))⟩
/- slices.Sort[[]int,int] -/
def s237 : SFn := ⟨[], (.seq (.reg [⟨(some 3), none, (.mov (.t 0))⟩,
    ⟨(some 4), none, (.len false (.t 3))⟩,
    ⟨(some 2), none, (.mov (.t 4))⟩]) (.reg [⟨(some 5), none, (.mov (.t 0))⟩,
    ⟨(some 6), none, (.mov (.t 2))⟩,
    ⟨(some 7), none, (.mov (.t 2))⟩,
    ⟨(some 8), none, (.convInt .u64 (.t 7))⟩,
    ⟨(some 9), none, (.call (.f 214) [(.t 8)])⟩,
    ⟨(some 10), none, (.call (.f 311) [(.t 5), (.c (.int .i64 0)), (.t 6), (.t 9)])⟩]))⟩
/- (*moiety/coord.Space).unpack -/
def s239_l0 : S := (.seq (.seq (.reg [⟨(some 27), none, (.mov (.t 10))⟩,
    ⟨(some 28), none, (.bin .geq (.t 27) (.c (.int .i64 0)))⟩]) (.cond (.t 28) .skip (.exit 0))) (.seq (.block 1 (.seq (.reg [⟨(some 31), none, (.mov (.t 10))⟩,
    ⟨(some 32), none, (.mov (.t 1))⟩,
    ⟨(some 33), none, (.mov (.t 10))⟩,
    ⟨(some 34), none, (.indexAddr (some 4) 1 (.t 5) (.t 33))⟩,
    ⟨(some 35), none, (.load none (.t 34))⟩,
    ⟨(some 36), none, (.bin .rem (.t 32) (.t 35))⟩,
    ⟨(some 37), none, (.indexAddr (some 4) 1 (.t 9) (.t 31))⟩,
    ⟨none, none, (.store 1 (.t 37) (.t 36))⟩]) (.reg [⟨(some 38), none, (.mov (.t 1))⟩,
    ⟨(some 39), none, (.mov (.t 10))⟩,
    ⟨(some 40), none, (.indexAddr (some 4) 1 (.t 5) (.t 39))⟩,
    ⟨(some 41), none, (.load none (.t 40))⟩,
    ⟨(some 42), none, (.bin .quo (.t 38) (.t 41))⟩,
    ⟨(some 1), none, (.mov (.t 42))⟩]))) (.reg [⟨(some 29), none, (.mov (.t 10))⟩,
    ⟨(some 30), none, (.bin .sub (.t 29) (.c (.int .i64 1)))⟩,
    ⟨(some 10), none, (.mov (.t 30))⟩])))
def s239 : SFn := ⟨[.tmp 6, .cell 7 (some 4), .tmp 8], (.seq (.reg [⟨(some 5), none, (.box (.t 2))⟩,
    ⟨(some 6), none, (.mov (.c (.int .i64 0)))⟩,
    ⟨(some 7), none, (.new [(.int .i64 0), (.int .i64 0), (.int .i64 0), (.int .i64 0)])⟩,
    ⟨(some 8), none, (.mov (.c (.bool false)))⟩]) (.seq (.reg [⟨(some 9), none, (.new [(.int .i64 0), (.int .i64 0), (.int .i64 0), (.int .i64 0)])⟩]) (.seq (.seq (.reg [⟨(some 11), none, (.mov (.t 1))⟩,
    ⟨(some 12), none, (.bin .lss (.t 11) (.c (.int .i64 0)))⟩,
    ⟨(some 13), none, (.mov (.t 12))⟩,
    ⟨(some 14), (some (13, false)), (.mov (.t 1))⟩,
    ⟨(some 15), (some (13, false)), (.mov (.t 0))⟩,
    ⟨(some 16), (some (13, false)), (.load (some 4) (.t 5))⟩,
    ⟨(some 17), (some (13, false)), (.call (.f 208) [(.t 15), (.t 16)])⟩,
    ⟨(some 18), (some (13, false)), (.bin .geq (.t 14) (.t 17))⟩,
    ⟨(some 19), none, (.pick (.t 13) (.c (.bool true)) (.t 18))⟩]) (.cond (.t 19) (.seq (.dreg false [⟨⟨(some 20), none, (.load (some 4) (.t 9))⟩, 0, 0⟩,
    ⟨⟨(some 6), none, (.mov (.c (.int .i64 0)))⟩, 0, 0⟩,
    ⟨⟨none, none, (.store 4 (.t 7) (.t 20))⟩, 0, 1⟩,
    ⟨⟨(some 8), none, (.mov (.c (.bool false)))⟩, 1, 1⟩]) .ret) .skip)) (.seq (.seq (.reg [⟨(some 21), none, (.mov (.t 0))⟩,
    ⟨(some 22), none, (.nilCheck (.t 21))⟩,
    ⟨(some 23), none, (.fieldAddr 2 (.t 22))⟩,
    ⟨(some 24), none, (.load none (.t 23))⟩,
    ⟨(some 25), none, (.len false (.t 24))⟩,
    ⟨(some 26), none, (.bin .sub (.t 25) (.c (.int .i64 1)))⟩,
    ⟨(some 10), none, (.mov (.t 26))⟩]) (.block 0 (.loop s239_l0))) (.seq (.dreg false [⟨⟨(some 43), none, (.mov (.t 1))⟩, 0, 0⟩,
    ⟨⟨(some 44), none, (.load (some 4) (.t 9))⟩, 0, 0⟩,
    ⟨⟨(some 6), none, (.mov (.t 43))⟩, 0, 0⟩,
    ⟨⟨none, none, (.store 4 (.t 7) (.t 44))⟩, 0, 1⟩,
    ⟨⟨(some 8), none, (.mov (.c (.bool true)))⟩, 1, 1⟩]) .ret)))))⟩
/- (*moiety/pages.Pages).All -/
def s240_l0 : S := (.seq (.reg [⟨(some 25), none, (.bin .lss (.t 24) (.t 23))⟩]) (.seq (.cond (.t 25) .skip (.exit 0)) (.seq (.block 1 (.seq (.reg [⟨(some 26), none, (.indexAddr none 1 (.t 22) (.t 24))⟩,
    ⟨(some 27), none, (.load none (.t 26))⟩,
    ⟨(some 10), none, (.mov (.t 27))⟩]) (.seq (.reg [⟨(some 29), none, (.mov (.t 0))⟩,
    ⟨(some 30), none, (.mov (.t 1))⟩,
    ⟨(some 31), none, (.mov (.t 10))⟩,
    ⟨(some 32), none, (.call (.f 93) [(.t 29), (.t 30), (.t 31)])⟩,
    ⟨(some 28), none, (.mov (.t 32))⟩,
    ⟨(some 33), none, (.extract (.t 28) 0)⟩,
    ⟨(some 34), none, (.extract (.t 28) 1)⟩,
    ⟨(some 11), none, (.new [(.int .i64 0), (.bool false)])⟩,
    ⟨none, none, (.store 2 (.t 11) (.t 33))⟩,
    ⟨(some 12), none, (.mov (.t 34))⟩]) (.reg [⟨(some 35), none, (.mov (.t 8))⟩,
    ⟨(some 36), none, (.mov (.t 10))⟩,
    ⟨(some 37), none, (.load (some 2) (.t 11))⟩,
    ⟨(some 38), none, (.build [(.int .i64 0), (.int .i64 0), (.bool false)] [(0, 1, (.t 36)), (1, 2, (.t 37))])⟩,
    ⟨(some 39), none, (.buildSlice 1 [(.int .i64 0), (.int .i64 0), (.bool false)] [(0, 3, (.t 38))])⟩,
    ⟨(some 40), none, (.append 3 24 (.t 35) (.t 39))⟩,
    ⟨(some 8), none, (.mov (.t 40))⟩])))) (.reg [⟨(some 41), none, (.bin .add (.t 24) (.c (.int .i64 1)))⟩,
    ⟨(some 24), none, (.mov (.t 41))⟩]))))
def s240 : SFn := ⟨[.tmp 4, .tmp 5], (.seq (.reg [⟨(some 4), none, (.mov (.c (.slice none 0 (.known 0))))⟩,
    ⟨(some 5), none, (.mov (.c (.int .i64 0)))⟩]) (.seq (.reg [⟨(some 14), none, (.mov (.t 0))⟩,
    ⟨(some 15), none, (.mov (.t 1))⟩,
    ⟨(some 16), none, (.call (.f 173) [(.t 14), (.t 15), (.c (.int .i64 0))])⟩,
    ⟨(some 13), none, (.mov (.t 16))⟩,
    ⟨(some 17), none, (.extract (.t 13) 0)⟩,
    ⟨(some 18), none, (.extract (.t 13) 1)⟩,
    ⟨(some 6), none, (.mov (.t 17))⟩,
    ⟨(some 7), none, (.mov (.t 18))⟩]) (.seq (.seq (.reg [⟨(some 19), none, (.mov (.t 7))⟩,
    ⟨(some 20), none, (.bin .neq (.t 19) (.c (.int .i64 0)))⟩]) (.cond (.t 20) (.seq (.reg [⟨(some 21), none, (.mov (.t 7))⟩,
    ⟨(some 4), none, (.mov (.c (.slice none 0 (.known 0))))⟩,
    ⟨(some 5), none, (.mov (.t 21))⟩]) .ret) .skip)) (.seq (.reg [⟨(some 8), none, (.mov (.c (.slice none 0 (.known 0))))⟩]) (.seq (.seq (.reg [⟨(some 22), none, (.mov (.t 6))⟩,
    ⟨(some 23), none, (.len false (.t 22))⟩,
    ⟨(some 24), none, (.mov (.c (.int .i64 0)))⟩]) (.block 0 (.loop s240_l0))) (.seq (.reg [⟨(some 42), none, (.mov (.t 8))⟩,
    ⟨(some 4), none, (.mov (.t 42))⟩,
    ⟨(some 5), none, (.mov (.c (.int .i64 0)))⟩]) .ret))))))⟩
/- (*moiety/moietyref07.Space).Leaves -/
def s241_l0 : S := (.seq (.seq (.reg [⟨(some 16), none, (.mov (.t 4))⟩,
    ⟨(some 17), none, (.mov (.t 0))⟩,
    ⟨(some 18), none, (.nilCheck (.t 17))⟩,
    ⟨(some 19), none, (.fieldAddr 0 (.t 18))⟩,
    ⟨(some 20), none, (.load none (.t 19))⟩,
    ⟨(some 21), none, (.nilCheck (.t 20))⟩,
    ⟨(some 22), none, (.fieldAddr 4 (.t 21))⟩,
    ⟨(some 23), none, (.load none (.t 22))⟩,
    ⟨(some 24), none, (.len false (.t 23))⟩,
    ⟨(some 25), none, (.bin .lss (.t 16) (.t 24))⟩]) (.cond (.t 25) .skip (.exit 0))) (.seq (.block 1 (.reg [⟨(some 28), none, (.mov (.t 3))⟩,
    ⟨(some 29), none, (.mov (.t 0))⟩,
    ⟨(some 30), none, (.nilCheck (.t 29))⟩,
    ⟨(some 31), none, (.fieldAddr 1 (.t 30))⟩,
    ⟨(some 32), none, (.load none (.t 31))⟩,
    ⟨(some 33), none, (.mov (.t 4))⟩,
    ⟨(some 34), none, (.indexAddr none 1 (.t 32) (.t 33))⟩,
    ⟨(some 35), none, (.load none (.t 34))⟩,
    ⟨(some 36), none, (.len false (.t 35))⟩,
    ⟨(some 37), none, (.bin .mul (.t 28) (.t 36))⟩,
    ⟨(some 3), none, (.mov (.t 37))⟩])) (.reg [⟨(some 26), none, (.mov (.t 4))⟩,
    ⟨(some 27), none, (.bin .add (.t 26) (.c (.int .i64 1)))⟩,
    ⟨(some 4), none, (.mov (.t 27))⟩])))
def s241 : SFn := ⟨[.tmp 2], (.seq (.reg [⟨(some 2), none, (.mov (.c (.int .i64 0)))⟩]) (.seq (.reg [⟨(some 5), none, (.mov (.t 0))⟩,
    ⟨(some 6), none, (.call (.f 277) [(.t 5)])⟩]) (.seq (.reg [⟨(some 7), none, (.mov (.t 0))⟩,
    ⟨(some 8), none, (.nilCheck (.t 7))⟩,
    ⟨(some 9), none, (.fieldAddr 0 (.t 8))⟩,
    ⟨(some 10), none, (.load none (.t 9))⟩,
    ⟨(some 11), none, (.nilCheck (.t 10))⟩,
    ⟨(some 12), none, (.fieldAddr 0 (.t 11))⟩,
    ⟨(some 13), none, (.fieldAddr 1 (.t 12))⟩,
    ⟨(some 14), none, (.load none (.t 13))⟩,
    ⟨(some 15), none, (.len false (.t 14))⟩,
    ⟨(some 3), none, (.mov (.t 15))⟩]) (.seq (.seq (.reg [⟨(some 4), none, (.mov (.c (.int .i64 0)))⟩]) (.block 0 (.loop s241_l0))) (.seq (.reg [⟨(some 38), none, (.mov (.t 3))⟩,
    ⟨(some 2), none, (.mov (.t 38))⟩]) .ret)))))⟩
/- (*moiety/state.Book).turn -/
def s242 : SFn := ⟨[.cell 10 (some 3), .tmp 11], (.seq (.reg [⟨(some 6), none, (.box (.t 1))⟩,
    ⟨(some 10), none, (.new [(.int .i64 0), (.slice none 0 (.known 0)), (.slice none 0 (.known 0))])⟩,
    ⟨(some 11), none, (.mov (.c (.int .i64 0)))⟩]) (.seq (.reg [⟨(some 13), none, (.mov (.t 0))⟩,
    ⟨(some 14), none, (.load (some 3) (.t 6))⟩,
    ⟨(some 15), none, (.mov (.t 2))⟩,
    ⟨(some 16), none, (.call (.f 107) [(.t 13), (.t 14), (.t 15)])⟩,
    ⟨(some 12), none, (.new [(.int .i64 0), (.bool false)])⟩,
    ⟨none, none, (.store 2 (.t 12) (.t 16))⟩]) (.seq (.seq (.reg [⟨(some 17), none, (.fieldAddr 1 (.t 12))⟩,
    ⟨(some 18), none, (.load none (.t 17))⟩,
    ⟨(some 19), none, (.mov (.t 3))⟩,
    ⟨(some 20), none, (.eq false .bool (.t 18) (.t 19))⟩]) (.cond (.t 20) (.seq (.reg [⟨(some 21), none, (.build [(.int .i64 0), (.slice none 0 (.known 0)), (.slice none 0 (.known 0))] [])⟩,
    ⟨(some 22), none, (.mov (.t 4))⟩,
    ⟨none, none, (.store 3 (.t 10) (.t 21))⟩,
    ⟨(some 11), none, (.mov (.t 22))⟩]) .ret) .skip)) (.seq (.reg [⟨(some 23), none, (.mov (.t 3))⟩,
    ⟨(some 24), none, (.fieldAddr 1 (.t 12))⟩,
    ⟨none, none, (.store 1 (.t 24) (.t 23))⟩]) (.seq (.reg [⟨(some 25), none, (.mov (.t 0))⟩,
    ⟨(some 26), none, (.load (some 3) (.t 6))⟩,
    ⟨(some 27), none, (.mov (.t 2))⟩,
    ⟨(some 28), none, (.load (some 2) (.t 12))⟩,
    ⟨(some 29), none, (.call (.f 108) [(.t 25), (.t 26), (.t 27), (.t 28), (.c (.bool false))])⟩,
    ⟨(some 30), none, (.extract (.t 29) 0)⟩,
    ⟨(some 31), none, (.extract (.t 29) 1)⟩,
    ⟨none, none, (.store 3 (.t 10) (.t 30))⟩,
    ⟨(some 11), none, (.mov (.t 31))⟩]) .ret)))))⟩
/- moiety/moietyref15.lent -/
def s246 : SFn := ⟨[.cell 2 (some 3)], (.seq (.reg [⟨(some 1), none, (.box (.t 0))⟩,
    ⟨(some 2), none, (.new [(.slice none 0 (.known 0)), (.slice none 0 (.known 0)), (.slice none 0 (.known 0))])⟩]) (.seq (.reg [⟨(some 3), none, (.mov (.c (.slice none 0 (.known 0))))⟩]) (.seq (.reg [⟨(some 4), none, (.mov (.t 3))⟩,
    ⟨(some 5), none, (.fieldAddr 0 (.t 1))⟩,
    ⟨(some 6), none, (.load none (.t 5))⟩,
    ⟨(some 7), none, (.append 2 16 (.t 4) (.t 6))⟩,
    ⟨(some 3), none, (.mov (.t 7))⟩]) (.seq (.reg [⟨(some 8), none, (.mov (.t 3))⟩,
    ⟨(some 9), none, (.fieldAddr 0 (.t 1))⟩,
    ⟨none, none, (.store 1 (.t 9) (.t 8))⟩]) (.seq (.reg [⟨(some 10), none, (.load (some 3) (.t 1))⟩,
    ⟨none, none, (.store 3 (.t 2) (.t 10))⟩]) .ret)))))⟩
/- (*moiety/cube.Cube).put$1 -/
def s254 : SFn := ⟨[.tmp 3], (.seq (.reg [⟨(some 3), none, (.mov (.c (.int .i64 0)))⟩]) (.seq (.dreg false [⟨⟨(some 4), none, (.load none (.t 0))⟩, 0, 0⟩,
    ⟨⟨(some 5), none, (.nilCheck (.t 4))⟩, 0, 0⟩,
    ⟨⟨(some 6), none, (.fieldAddr 0 (.t 5))⟩, 0, 0⟩,
    ⟨⟨(some 7), none, (.load none (.t 6))⟩, 0, 0⟩,
    ⟨⟨(some 8), none, (.load none (.t 1))⟩, 0, 0⟩,
    ⟨⟨(some 9), none, (.load (some 3) (.t 2))⟩, 0, 0⟩,
    ⟨⟨(some 10), none, (.call (.f 20) [(.t 7), (.t 8), (.t 9)])⟩, 0, 1⟩,
    ⟨⟨(some 3), none, (.mov (.t 10))⟩, 1, 1⟩]) .ret))⟩
/- (*moiety/roll.Roll).Turn -/
def s255_l0 : S := (.seq (.reg [⟨(some 66), none, (.bin .lss (.t 65) (.t 64))⟩]) (.seq (.cond (.t 66) .skip (.exit 1)) (.seq (.block 2 (.seq (.reg [⟨(some 67), none, (.indexAddr none 5 (.t 63) (.t 65))⟩,
    ⟨(some 68), none, (.load (some 5) (.t 67))⟩,
    ⟨(some 10), none, (.new [(.int .i64 0), (.int .i64 0), (.int .i64 0), (.int .i64 0), (.int .i64 0)])⟩,
    ⟨none, none, (.store 5 (.t 10) (.t 68))⟩]) (.seq (.dreg false [⟨⟨(some 69), none, (.mov (.t 0))⟩, 0, 0⟩,
    ⟨⟨(some 70), none, (.nilCheck (.t 69))⟩, 0, 0⟩,
    ⟨⟨(some 71), none, (.fieldAddr 0 (.t 70))⟩, 0, 0⟩,
    ⟨⟨(some 72), none, (.load none (.t 71))⟩, 0, 0⟩,
    ⟨⟨(some 73), none, (.load (some 5) (.t 10))⟩, 0, 0⟩,
    ⟨⟨(some 74), none, (.call (.f 130) [(.t 72), (.t 73)])⟩, 0, 1⟩,
    ⟨⟨(some 11), none, (.mov (.t 74))⟩, 1, 1⟩]) (.seq (.reg [⟨(some 75), none, (.mov (.t 0))⟩,
    ⟨(some 76), none, (.nilCheck (.t 75))⟩,
    ⟨(some 77), none, (.fieldAddr 2 (.t 76))⟩,
    ⟨(some 78), none, (.load none (.t 77))⟩,
    ⟨(some 79), none, (.mov (.t 11))⟩,
    ⟨(some 80), none, (.indexAddr none 2 (.t 78) (.t 79))⟩,
    ⟨(some 81), none, (.load (some 2) (.t 80))⟩,
    ⟨(some 82), none, (.call (.f 330) [(.t 81)])⟩,
    ⟨(some 12), none, (.mov (.t 82))⟩]) (.seq (.dreg true [⟨⟨(some 83), none, (.mov (.t 0))⟩, 0, 2⟩,
    ⟨⟨(some 84), none, (.nilCheck (.t 83))⟩, 0, 2⟩,
    ⟨⟨(some 85), none, (.fieldAddr 2 (.t 84))⟩, 0, 2⟩,
    ⟨⟨(some 86), none, (.load none (.t 85))⟩, 0, 2⟩,
    ⟨⟨(some 87), none, (.mov (.t 11))⟩, 0, 2⟩,
    ⟨⟨(some 88), none, (.mov (.t 0))⟩, 0, 0⟩,
    ⟨⟨(some 89), none, (.nilCheck (.t 88))⟩, 0, 0⟩,
    ⟨⟨(some 90), none, (.fieldAddr 2 (.t 89))⟩, 0, 0⟩,
    ⟨⟨(some 91), none, (.load none (.t 90))⟩, 0, 0⟩,
    ⟨⟨(some 92), none, (.mov (.t 11))⟩, 0, 0⟩,
    ⟨⟨(some 93), none, (.indexAddr none 2 (.t 91) (.t 92))⟩, 0, 0⟩,
    ⟨⟨(some 94), none, (.load (some 2) (.t 93))⟩, 0, 0⟩,
    ⟨⟨(some 95), none, (.mov (.t 8))⟩, 0, 0⟩,
    ⟨⟨(some 96), none, (.call (.f 331) [(.t 94), (.t 95)])⟩, 0, 1⟩,
    ⟨⟨(some 97), none, (.mov (.t 2))⟩, 0, 1⟩,
    ⟨⟨(some 98), none, (.buildSlice 1 [(.int .i64 0)] [(0, 1, (.t 97))])⟩, 0, 1⟩,
    ⟨⟨(some 99), none, (.call (.f 143) [(.t 96), (.t 98)])⟩, 1, 2⟩,
    ⟨⟨(some 100), none, (.indexAddr none 2 (.t 86) (.t 87))⟩, 2, 2⟩,
    ⟨⟨none, none, (.store 2 (.t 100) (.t 99))⟩, 2, 3⟩]) (.seq (.reg [⟨(some 101), none, (.mov (.t 0))⟩,
    ⟨(some 102), none, (.nilCheck (.t 101))⟩,
    ⟨(some 103), none, (.fieldAddr 2 (.t 102))⟩,
    ⟨(some 104), none, (.load none (.t 103))⟩,
    ⟨(some 105), none, (.mov (.t 11))⟩,
    ⟨(some 106), none, (.indexAddr none 2 (.t 104) (.t 105))⟩,
    ⟨(some 107), none, (.load (some 2) (.t 106))⟩,
    ⟨(some 108), none, (.call (.f 330) [(.t 107)])⟩,
    ⟨(some 13), none, (.mov (.t 108))⟩]) (.block 3 (.seq (.reg [⟨(some 110), none, (.mov (.t 12))⟩,
    ⟨(some 111), none, (.mov (.t 110))⟩,
    ⟨(some 112), (some (111, true)), (.mov (.t 13))⟩,
    ⟨(some 113), (some (111, true)), (.un .not (.t 112))⟩,
    ⟨(some 114), none, (.pick (.t 111) (.t 113) (.c (.bool false)))⟩,
    ⟨(some 109), none, (.mov (.t 114))⟩]) (.cond (.t 109) (.reg [⟨(some 115), none, (.mov (.t 0))⟩,
    ⟨(some 116), none, (.nilCheck (.t 115))⟩,
    ⟨(some 117), none, (.fieldAddr 3 (.t 116))⟩,
    ⟨(some 118), none, (.load none (.t 117))⟩,
    ⟨(some 119), none, (.bin .add (.t 118) (.c (.int .i64 1)))⟩,
    ⟨(some 120), none, (.nilCheck (.t 115))⟩,
    ⟨(some 121), none, (.fieldAddr 3 (.t 120))⟩,
    ⟨none, none, (.store 1 (.t 121) (.t 119))⟩]) (.seq (.reg [⟨(some 123), none, (.mov (.t 13))⟩,
    ⟨(some 124), none, (.mov (.t 123))⟩,
    ⟨(some 125), (some (124, true)), (.mov (.t 12))⟩,
    ⟨(some 126), (some (124, true)), (.un .not (.t 125))⟩,
    ⟨(some 127), none, (.pick (.t 124) (.t 126) (.c (.bool false)))⟩,
    ⟨(some 122), none, (.mov (.t 127))⟩]) (.cond (.t 122) (.reg [⟨(some 128), none, (.mov (.t 0))⟩,
    ⟨(some 129), none, (.nilCheck (.t 128))⟩,
    ⟨(some 130), none, (.fieldAddr 3 (.t 129))⟩,
    ⟨(some 131), none, (.load none (.t 130))⟩,
    ⟨(some 132), none, (.bin .sub (.t 131) (.c (.int .i64 1)))⟩,
    ⟨(some 133), none, (.nilCheck (.t 128))⟩,
    ⟨(some 134), none, (.fieldAddr 3 (.t 133))⟩,
    ⟨none, none, (.store 1 (.t 134) (.t 132))⟩]) .skip))))))))))) (.reg [⟨(some 135), none, (.bin .add (.t 65) (.c (.int .i64 1)))⟩,
    ⟨(some 65), none, (.mov (.t 135))⟩]))))
def s255 : SFn := ⟨[.tmp 6], (.seq (.reg [⟨(some 6), none, (.mov (.c (.int .i64 0)))⟩]) (.seq (.seq (.reg [⟨(some 14), none, (.mov (.t 0))⟩,
    ⟨(some 15), none, (.mov (.t 1))⟩,
    ⟨(some 16), none, (.call (.f 329) [(.t 14), (.t 15)])⟩,
    ⟨(some 7), none, (.mov (.t 16))⟩]) (.seq (.reg [⟨(some 17), none, (.mov (.t 7))⟩,
    ⟨(some 18), none, (.bin .neq (.t 17) (.c (.int .i64 0)))⟩]) (.cond (.t 18) (.seq (.reg [⟨(some 19), none, (.mov (.t 7))⟩,
    ⟨(some 6), none, (.mov (.t 19))⟩]) .ret) .skip))) (.seq (.reg [⟨(some 20), none, (.mov (.t 0))⟩,
    ⟨(some 21), none, (.nilCheck (.t 20))⟩,
    ⟨(some 22), none, (.fieldAddr 1 (.t 21))⟩,
    ⟨(some 23), none, (.load none (.t 22))⟩,
    ⟨(some 24), none, (.mov (.t 1))⟩,
    ⟨(some 25), none, (.indexAddr none 1 (.t 23) (.t 24))⟩,
    ⟨(some 26), none, (.load none (.t 25))⟩,
    ⟨(some 8), none, (.mov (.t 26))⟩]) (.seq (.reg [⟨(some 27), none, (.mov (.t 0))⟩,
    ⟨(some 28), none, (.nilCheck (.t 27))⟩,
    ⟨(some 29), none, (.fieldAddr 1 (.t 28))⟩,
    ⟨(some 30), none, (.load none (.t 29))⟩,
    ⟨(some 31), none, (.mov (.t 1))⟩,
    ⟨(some 32), none, (.mov (.t 2))⟩,
    ⟨(some 33), none, (.indexAddr none 1 (.t 30) (.t 31))⟩,
    ⟨none, none, (.store 1 (.t 33) (.t 32))⟩]) (.seq (.block 0 (.seq (.reg [⟨(some 35), none, (.mov (.t 8))⟩,
    ⟨(some 36), none, (.mov (.t 2))⟩,
    ⟨(some 37), none, (.bin .eql (.t 35) (.t 36))⟩,
    ⟨(some 34), none, (.mov (.t 37))⟩]) (.cond (.t 34) (.seq (.reg [⟨(some 6), none, (.mov (.c (.int .i64 0)))⟩]) .ret) (.seq (.reg [⟨(some 39), none, (.mov (.t 8))⟩,
    ⟨(some 40), none, (.bin .eql (.t 39) (.c (.int .i64 0)))⟩,
    ⟨(some 38), none, (.mov (.t 40))⟩]) (.cond (.t 38) (.reg [⟨(some 41), none, (.mov (.t 0))⟩,
    ⟨(some 42), none, (.nilCheck (.t 41))⟩,
    ⟨(some 43), none, (.fieldAddr 4 (.t 42))⟩,
    ⟨(some 44), none, (.load none (.t 43))⟩,
    ⟨(some 45), none, (.bin .add (.t 44) (.c (.int .i64 1)))⟩,
    ⟨(some 46), none, (.nilCheck (.t 41))⟩,
    ⟨(some 47), none, (.fieldAddr 4 (.t 46))⟩,
    ⟨none, none, (.store 1 (.t 47) (.t 45))⟩]) (.seq (.reg [⟨(some 49), none, (.mov (.t 2))⟩,
    ⟨(some 50), none, (.bin .eql (.t 49) (.c (.int .i64 0)))⟩,
    ⟨(some 48), none, (.mov (.t 50))⟩]) (.cond (.t 48) (.reg [⟨(some 51), none, (.mov (.t 0))⟩,
    ⟨(some 52), none, (.nilCheck (.t 51))⟩,
    ⟨(some 53), none, (.fieldAddr 4 (.t 52))⟩,
    ⟨(some 54), none, (.load none (.t 53))⟩,
    ⟨(some 55), none, (.bin .sub (.t 54) (.c (.int .i64 1)))⟩,
    ⟨(some 56), none, (.nilCheck (.t 51))⟩,
    ⟨(some 57), none, (.fieldAddr 4 (.t 56))⟩,
    ⟨none, none, (.store 1 (.t 57) (.t 55))⟩]) .skip))))))) (.seq (.seq (.reg [⟨(some 58), none, (.mov (.t 0))⟩,
    ⟨(some 59), none, (.nilCheck (.t 58))⟩,
    ⟨(some 60), none, (.fieldAddr 0 (.t 59))⟩,
    ⟨(some 61), none, (.load none (.t 60))⟩,
    ⟨(some 62), none, (.mov (.t 1))⟩,
    ⟨(some 63), none, (.call (.f 142) [(.t 61), (.t 62)])⟩,
    ⟨(some 64), none, (.len false (.t 63))⟩,
    ⟨(some 65), none, (.mov (.c (.int .i64 0)))⟩]) (.block 1 (.loop s255_l0))) (.seq (.reg [⟨(some 6), none, (.mov (.c (.int .i64 0)))⟩]) .ret)))))))⟩
/- moiety/cube.Of -/
def s262_l0 : S := (.seq (.reg [⟨(some 30), none, (.bin .lss (.t 29) (.t 28))⟩]) (.seq (.cond (.t 30) .skip (.exit 0)) (.seq (.block 1 (.seq (.reg [⟨(some 31), none, (.indexAddr none 1 (.t 27) (.t 29))⟩,
    ⟨(some 32), none, (.load none (.t 31))⟩,
    ⟨(some 7), none, (.mov (.t 32))⟩]) (.seq (.reg [⟨(some 34), none, (.mov (.t 0))⟩,
    ⟨(some 35), none, (.mov (.t 7))⟩,
    ⟨(some 36), none, (.call (.f 10) [(.t 34), (.t 35)])⟩,
    ⟨(some 33), none, (.mov (.t 36))⟩,
    ⟨(some 37), none, (.extract (.t 33) 0)⟩,
    ⟨(some 38), none, (.extract (.t 33) 1)⟩,
    ⟨(some 8), none, (.new [(.int .i64 0), (.slice none 0 (.known 0)), (.slice none 0 (.known 0))])⟩,
    ⟨none, none, (.store 3 (.t 8) (.t 37))⟩,
    ⟨(some 9), none, (.mov (.t 38))⟩]) (.seq (.seq (.dreg false [⟨⟨(some 39), none, (.mov (.t 4))⟩, 0, 0⟩,
    ⟨⟨(some 40), none, (.load (some 3) (.t 8))⟩, 0, 0⟩,
    ⟨⟨(some 41), none, (.mov (.t 5))⟩, 0, 0⟩,
    ⟨⟨(some 42), none, (.nilCheck (.t 41))⟩, 0, 0⟩,
    ⟨⟨(some 43), none, (.fieldAddr 2 (.t 42))⟩, 0, 0⟩,
    ⟨⟨(some 44), none, (.load none (.t 43))⟩, 0, 0⟩,
    ⟨⟨(some 45), none, (.call (.f 28) [(.t 39), (.t 40), (.t 44)])⟩, 0, 1⟩,
    ⟨⟨(some 10), none, (.mov (.t 45))⟩, 1, 1⟩]) (.seq (.reg [⟨(some 46), none, (.mov (.t 10))⟩,
    ⟨(some 47), none, (.bin .neq (.t 46) (.c (.int .i64 0)))⟩]) (.cond (.t 47) (.seq (.reg [⟨(some 48), none, (.mov (.t 10))⟩,
    ⟨(some 2), none, (.mov (.c (.ptr none)))⟩,
    ⟨(some 3), none, (.mov (.t 48))⟩]) .ret) .skip))) (.seq (.reg [⟨(some 50), none, (.mov (.t 4))⟩,
    ⟨(some 51), none, (.call (.f 41) [(.t 50)])⟩,
    ⟨(some 52), none, (.call (.f 334) [(.t 51)])⟩,
    ⟨(some 49), none, (.mov (.t 52))⟩,
    ⟨(some 53), none, (.extract (.t 49) 0)⟩,
    ⟨(some 54), none, (.extract (.t 49) 1)⟩,
    ⟨(some 11), none, (.mov (.t 53))⟩,
    ⟨(some 12), none, (.mov (.t 54))⟩]) (.seq (.seq (.reg [⟨(some 55), none, (.mov (.t 12))⟩,
    ⟨(some 56), none, (.bin .neq (.t 55) (.c (.int .i64 0)))⟩]) (.cond (.t 56) (.seq (.reg [⟨(some 57), none, (.mov (.t 12))⟩,
    ⟨(some 2), none, (.mov (.c (.ptr none)))⟩,
    ⟨(some 3), none, (.mov (.t 57))⟩]) .ret) .skip)) (.seq (.reg [⟨(some 58), none, (.mov (.t 5))⟩,
    ⟨(some 59), none, (.nilCheck (.t 58))⟩,
    ⟨(some 60), none, (.fieldAddr 1 (.t 59))⟩,
    ⟨(some 61), none, (.load none (.t 60))⟩,
    ⟨(some 62), none, (.mov (.t 7))⟩,
    ⟨(some 63), none, (.mov (.t 11))⟩,
    ⟨none, none, (.mapUpd (.str) (.t 61) (.t 62) (.t 63))⟩]) (.reg [⟨(some 64), none, (.mov (.t 5))⟩,
    ⟨(some 65), none, (.mov (.t 7))⟩,
    ⟨(some 66), none, (.build [(.int .i64 0), (.slice none 0 (.known 0)), (.slice none 0 (.known 0))] [])⟩,
    ⟨(some 67), none, (.call (.f 160) [(.t 64), (.t 65), (.t 66)])⟩])))))))) (.reg [⟨(some 68), none, (.bin .add (.t 29) (.c (.int .i64 1)))⟩,
    ⟨(some 29), none, (.mov (.t 68))⟩]))))
def s262 : SFn := ⟨[.tmp 2, .tmp 3], (.seq (.reg [⟨(some 2), none, (.mov (.c (.ptr none)))⟩,
    ⟨(some 3), none, (.mov (.c (.int .i64 0)))⟩]) (.seq (.seq (.reg [⟨(some 13), none, (.mov (.t 0))⟩,
    ⟨(some 14), none, (.eq false .ptr (.t 13) (.c (.ptr none)))⟩]) (.cond (.t 14) (.seq (.reg [⟨(some 2), none, (.mov (.c (.ptr none)))⟩,
    ⟨(some 3), none, (.mov (.c (.int .i64 1)))⟩]) .ret) .skip)) (.seq (.reg [⟨(some 15), none, (.mov (.t 0))⟩,
    ⟨(some 16), none, (.call (.f 14) [(.t 15)])⟩,
    ⟨(some 4), none, (.mov (.t 16))⟩]) (.seq (.reg [⟨(some 17), none, (.mov (.t 0))⟩,
    ⟨(some 18), none, .makeMap⟩,
    ⟨(some 19), none, (.mov (.t 4))⟩,
    ⟨(some 20), none, (.call (.f 41) [(.t 19)])⟩,
    ⟨(some 21), none, (.call (.f 85) [(.t 20)])⟩,
    ⟨(some 22), none, (.call (.f 55) [(.t 21)])⟩,
    ⟨(some 23), none, (.field 2 none (.t 22))⟩,
    ⟨(some 24), none, (.build [(.ptr none), (.map none), (.int .i64 0)] [(0, 1, (.t 17)), (1, 1, (.t 18)), (2, 1, (.t 23))])⟩,
    ⟨(some 25), none, (.box (.t 24))⟩,
    ⟨(some 5), none, (.mov (.t 25))⟩]) (.seq (.seq (.reg [⟨(some 26), none, (.mov (.t 0))⟩,
    ⟨(some 27), none, (.call (.f 15) [(.t 26)])⟩,
    ⟨(some 28), none, (.len false (.t 27))⟩,
    ⟨(some 29), none, (.mov (.c (.int .i64 0)))⟩]) (.block 0 (.loop s262_l0))) (.seq (.reg [⟨(some 69), none, (.mov (.t 5))⟩,
    ⟨(some 2), none, (.mov (.t 69))⟩,
    ⟨(some 3), none, (.mov (.c (.int .i64 0)))⟩]) .ret))))))⟩
/- (*moiety/pages.Pages).Differ$1 -/
def s263_l0 : S := (.seq (.reg [⟨(some 29), none, (.bin .lss (.t 28) (.c (.int .i64 8)))⟩]) (.seq (.cond (.t 29) .skip (.exit 0)) (.seq (.block 1 (.seq (.reg [⟨(some 30), none, (.mov (.t 28))⟩,
    ⟨(some 14), none, (.mov (.t 30))⟩]) (.seq (.seq (.dreg false [⟨⟨(some 31), none, (.mov (.t 11))⟩, 0, 0⟩,
    ⟨⟨(some 32), none, (.mov (.t 31))⟩, 0, 0⟩,
    ⟨⟨(some 33), (some (32, true)), (.mov (.t 14))⟩, 0, 0⟩,
    ⟨⟨(some 34), (some (32, true)), (.fieldAddr 9 (.t 12))⟩, 0, 0⟩,
    ⟨⟨(some 35), (some (32, true)), (.indexAddr (some 8) 2 (.t 34) (.t 33))⟩, 0, 0⟩,
    ⟨⟨(some 36), (some (32, true)), (.load (some 2) (.t 35))⟩, 0, 0⟩,
    ⟨⟨(some 37), (some (32, true)), (.mov (.t 14))⟩, 0, 0⟩,
    ⟨⟨(some 38), (some (32, true)), (.fieldAddr 9 (.t 13))⟩, 0, 0⟩,
    ⟨⟨(some 39), (some (32, true)), (.indexAddr (some 8) 2 (.t 38) (.t 37))⟩, 0, 0⟩,
    ⟨⟨(some 40), (some (32, true)), (.load (some 2) (.t 39))⟩, 0, 0⟩,
    ⟨⟨(some 41), (some (32, true)), (.eq true (.flat [.int .i64, .bool]) (.t 36) (.t 40))⟩, 0, 0⟩,
    ⟨⟨(some 42), none, (.pick (.t 32) (.t 41) (.c (.bool false)))⟩, 0, 0⟩]) (.cond (.t 42) (.reg [⟨(some 43), none, (.load none (.t 5))⟩,
    ⟨(some 44), none, (.mov (.t 2))⟩,
    ⟨(some 45), none, (.mov (.t 14))⟩,
    ⟨(some 46), none, (.bin .add (.t 44) (.t 45))⟩,
    ⟨(some 47), none, (.buildSlice 1 [(.int .i64 0)] [(0, 1, (.t 46))])⟩,
    ⟨(some 48), none, (.append 1 8 (.t 43) (.t 47))⟩,
    ⟨none, none, (.store 1 (.t 5) (.t 48))⟩]) .skip)) (.seq (.reg [⟨(some 49), none, (.mov (.t 11))⟩,
    ⟨(some 50), none, (.un .not (.t 49))⟩]) (.cond (.t 50) (.dreg false [⟨⟨(some 51), none, (.load none (.t 6))⟩, 0, 0⟩,
    ⟨⟨(some 52), none, (.mov (.t 14))⟩, 0, 0⟩,
    ⟨⟨(some 53), none, (.fieldAddr 1 (.t 12))⟩, 0, 0⟩,
    ⟨⟨(some 54), none, (.indexAddr (some 8) 1 (.t 53) (.t 52))⟩, 0, 0⟩,
    ⟨⟨(some 55), none, (.load none (.t 54))⟩, 0, 0⟩,
    ⟨⟨(some 56), none, (.mov (.t 14))⟩, 0, 0⟩,
    ⟨⟨(some 57), none, (.fieldAddr 1 (.t 13))⟩, 0, 0⟩,
    ⟨⟨(some 58), none, (.indexAddr (some 8) 1 (.t 57) (.t 56))⟩, 0, 0⟩,
    ⟨⟨(some 59), none, (.load none (.t 58))⟩, 0, 0⟩,
    ⟨⟨(some 60), none, (.mov (.t 2))⟩, 0, 0⟩,
    ⟨⟨(some 61), none, (.mov (.t 14))⟩, 0, 0⟩,
    ⟨⟨(some 62), none, (.mov (.t 3))⟩, 0, 0⟩,
    ⟨⟨(some 63), none, (.bin .mul (.t 61) (.t 62))⟩, 0, 0⟩,
    ⟨⟨(some 64), none, (.bin .quo (.t 63) (.c (.int .i64 8)))⟩, 0, 0⟩,
    ⟨⟨(some 65), none, (.bin .add (.t 60) (.t 64))⟩, 0, 0⟩,
    ⟨⟨(some 66), none, (.mov (.t 3))⟩, 0, 0⟩,
    ⟨⟨(some 67), none, (.bin .quo (.t 66) (.c (.int .i64 8)))⟩, 0, 0⟩,
    ⟨⟨(some 68), none, (.call (.t 51) [(.t 55), (.t 59), (.t 65), (.t 67)])⟩, 0, 1⟩]) .skip))))) (.reg [⟨(some 69), none, (.bin .add (.t 28) (.c (.int .i64 1)))⟩,
    ⟨(some 28), none, (.mov (.t 69))⟩]))))
def s263 : SFn := ⟨[], (.seq (.seq (.reg [⟨(some 15), none, (.mov (.t 0))⟩,
    ⟨(some 16), none, (.mov (.t 1))⟩,
    ⟨(some 17), none, (.bin .eql (.t 15) (.t 16))⟩]) (.cond (.t 17) .ret .skip)) (.seq (.reg [⟨(some 18), none, (.mov (.t 3))⟩,
    ⟨(some 19), none, (.bin .eql (.t 18) (.c (.int .i64 8)))⟩,
    ⟨(some 11), none, (.mov (.t 19))⟩]) (.seq (.dreg false [⟨⟨(some 20), none, (.load none (.t 4))⟩, 0, 0⟩,
    ⟨⟨(some 21), none, (.mov (.t 0))⟩, 0, 0⟩,
    ⟨⟨(some 22), none, (.mov (.t 11))⟩, 0, 0⟩,
    ⟨⟨(some 23), none, (.call (.f 182) [(.t 20), (.t 21), (.t 22)])⟩, 0, 1⟩,
    ⟨⟨(some 24), none, (.load none (.t 4))⟩, 0, 1⟩,
    ⟨⟨(some 25), none, (.mov (.t 1))⟩, 0, 1⟩,
    ⟨⟨(some 26), none, (.mov (.t 11))⟩, 0, 1⟩,
    ⟨⟨(some 27), none, (.call (.f 182) [(.t 24), (.t 25), (.t 26)])⟩, 1, 2⟩,
    ⟨⟨(some 12), none, (.new [(.bool false), (.int .i64 0), (.int .i64 0), (.int .i64 0), (.int .i64 0), (.int .i64 0), (.int .i64 0), (.int .i64 0), (.int .i64 0), (.int .i64 0), (.bool false), (.int .i64 0), (.bool false), (.int .i64 0), (.bool false), (.int .i64 0), (.bool false), (.int .i64 0), (.bool false), (.int .i64 0), (.bool false), (.int .i64 0), (.bool false), (.int .i64 0), (.bool false)])⟩, 0, 2⟩,
    ⟨⟨(some 13), none, (.new [(.bool false), (.int .i64 0), (.int .i64 0), (.int .i64 0), (.int .i64 0), (.int .i64 0), (.int .i64 0), (.int .i64 0), (.int .i64 0), (.int .i64 0), (.bool false), (.int .i64 0), (.bool false), (.int .i64 0), (.bool false), (.int .i64 0), (.bool false), (.int .i64 0), (.bool false), (.int .i64 0), (.bool false), (.int .i64 0), (.bool false), (.int .i64 0), (.bool false)])⟩, 0, 2⟩,
    ⟨⟨none, none, (.store 25 (.t 12) (.t 23))⟩, 2, 3⟩,
    ⟨⟨none, none, (.store 25 (.t 13) (.t 27))⟩, 3, 4⟩]) (.seq (.reg [⟨(some 28), none, (.mov (.c (.int .i64 0)))⟩]) (.block 0 (.loop s263_l0))))))⟩
/- (*moiety/tree.Tree).Leaf -/
def s264 : SFn := ⟨[.tmp 4], (.seq (.reg [⟨(some 4), none, (.mov (.c (.bool false)))⟩]) (.seq (.reg [⟨(some 5), none, (.mov (.t 0))⟩,
    ⟨(some 6), none, (.mov (.t 1))⟩,
    ⟨(some 7), none, (.call (.f 269) [(.t 5), (.t 6)])⟩,
    ⟨(some 8), none, (.mov (.t 7))⟩,
    ⟨(some 9), (some (8, true)), (.mov (.t 0))⟩,
    ⟨(some 10), (some (8, true)), (.nilCheck (.t 9))⟩,
    ⟨(some 11), (some (8, true)), (.fieldAddr 2 (.t 10))⟩,
    ⟨(some 12), (some (8, true)), (.load none (.t 11))⟩,
    ⟨(some 13), (some (8, true)), (.mov (.t 1))⟩,
    ⟨(some 14), (some (8, true)), (.indexAddr none 1 (.t 12) (.t 13))⟩,
    ⟨(some 15), (some (8, true)), (.load none (.t 14))⟩,
    ⟨(some 16), (some (8, true)), (.len false (.t 15))⟩,
    ⟨(some 17), (some (8, true)), (.bin .eql (.t 16) (.c (.int .i64 0)))⟩,
    ⟨(some 18), none, (.pick (.t 8) (.t 17) (.c (.bool false)))⟩,
    ⟨(some 4), none, (.mov (.t 18))⟩]) .ret))⟩
/- (*moiety/arena.Arena).At -/
def s265 : SFn := ⟨[.cell 4 (some 25), .tmp 5], (.seq (.reg [⟨(some 4), none, (.new [(.bool false), (.int .i64 0), (.int .i64 0), (.int .i64 0), (.int .i64 0), (.int .i64 0), (.int .i64 0), (.int .i64 0), (.int .i64 0), (.int .i64 0), (.bool false), (.int .i64 0), (.bool false), (.int .i64 0), (.bool false), (.int .i64 0), (.bool false), (.int .i64 0), (.bool false), (.int .i64 0), (.bool false), (.int .i64 0), (.bool false), (.int .i64 0), (.bool false)])⟩,
    ⟨(some 5), none, (.mov (.c (.int .i64 0)))⟩]) (.seq (.reg [⟨(some 7), none, (.mov (.t 0))⟩,
    ⟨(some 8), none, (.mov (.t 1))⟩,
    ⟨(some 9), none, (.call (.f 273) [(.t 7), (.t 8)])⟩,
    ⟨(some 6), none, (.mov (.t 9))⟩]) (.seq (.seq (.reg [⟨(some 10), none, (.mov (.t 6))⟩,
    ⟨(some 11), none, (.eq false .ptr (.t 10) (.c (.ptr none)))⟩]) (.cond (.t 11) (.seq (.reg [⟨(some 12), none, (.build [(.bool false), (.int .i64 0), (.int .i64 0), (.int .i64 0), (.int .i64 0), (.int .i64 0), (.int .i64 0), (.int .i64 0), (.int .i64 0), (.int .i64 0), (.bool false), (.int .i64 0), (.bool false), (.int .i64 0), (.bool false), (.int .i64 0), (.bool false), (.int .i64 0), (.bool false), (.int .i64 0), (.bool false), (.int .i64 0), (.bool false), (.int .i64 0), (.bool false)] [])⟩,
    ⟨(some 13), none, (.mov (.t 0))⟩,
    ⟨(some 14), none, (.call (.f 274) [(.t 13)])⟩,
    ⟨none, none, (.store 25 (.t 4) (.t 12))⟩,
    ⟨(some 5), none, (.mov (.t 14))⟩]) .ret) .skip)) (.seq (.reg [⟨(some 15), none, (.mov (.t 6))⟩,
    ⟨(some 16), none, (.nilCheck (.t 15))⟩,
    ⟨(some 17), none, (.fieldAddr 0 (.t 16))⟩,
    ⟨(some 18), none, (.load (some 25) (.t 17))⟩,
    ⟨none, none, (.store 25 (.t 4) (.t 18))⟩,
    ⟨(some 5), none, (.mov (.c (.int .i64 0)))⟩]) .ret))))⟩
/- slices.IndexFunc[[]moiety/region.run,moiety/region.run] -/
def s266_l0 : S := (.seq (.reg [⟨(some 9), none, (.bin .lss (.t 8) (.t 7))⟩]) (.seq (.cond (.t 9) .skip (.exit 0)) (.seq (.block 1 (.seq (.reg [⟨(some 10), none, (.mov (.t 8))⟩,
    ⟨(some 5), none, (.mov (.t 10))⟩]) (.seq (.reg [⟨(some 11), none, (.mov (.t 1))⟩,
    ⟨(some 12), none, (.mov (.t 0))⟩,
    ⟨(some 13), none, (.mov (.t 5))⟩,
    ⟨(some 14), none, (.indexAddr none 2 (.t 12) (.t 13))⟩,
    ⟨(some 15), none, (.load (some 2) (.t 14))⟩,
    ⟨(some 16), none, (.call (.t 11) [(.t 15)])⟩]) (.cond (.t 16) (.seq (.reg [⟨(some 17), none, (.mov (.t 5))⟩,
    ⟨(some 4), none, (.mov (.t 17))⟩]) .ret) .skip)))) (.reg [⟨(some 18), none, (.bin .add (.t 8) (.c (.int .i64 1)))⟩,
    ⟨(some 8), none, (.mov (.t 18))⟩]))))
def s266 : SFn := ⟨[.tmp 4], (.seq (.reg [⟨(some 4), none, (.mov (.c (.int .i64 0)))⟩]) (.seq (.seq (.reg [⟨(some 6), none, (.mov (.t 0))⟩,
    ⟨(some 7), none, (.len false (.t 6))⟩,
    ⟨(some 8), none, (.mov (.c (.int .i64 0)))⟩]) (.block 0 (.loop s266_l0))) (.seq (.reg [⟨(some 4), none, (.mov (.c (.int .i64 (-1))))⟩]) .ret)))⟩
/- slices.pdqsortCmpFunc[moiety/region.run] -/
def s267_l0 : S := (.block 1 (.seq (.reg [⟨(some 21), none, (.mov (.t 2))⟩,
    ⟨(some 22), none, (.mov (.t 1))⟩,
    ⟨(some 23), none, (.bin .sub (.t 21) (.t 22))⟩,
    ⟨(some 12), none, (.mov (.t 23))⟩]) (.seq (.seq (.reg [⟨(some 24), none, (.mov (.t 12))⟩,
    ⟨(some 25), none, (.bin .leq (.t 24) (.c (.int .i64 12)))⟩]) (.cond (.t 25) (.seq (.reg [⟨(some 26), none, (.mov (.t 0))⟩,
    ⟨(some 27), none, (.mov (.t 1))⟩,
    ⟨(some 28), none, (.mov (.t 2))⟩,
    ⟨(some 29), none, (.mov (.t 4))⟩,
    ⟨(some 30), none, (.call (.f 335) [(.t 26), (.t 27), (.t 28), (.t 29)])⟩]) .ret) .skip)) (.seq (.seq (.reg [⟨(some 31), none, (.mov (.t 3))⟩,
    ⟨(some 32), none, (.bin .eql (.t 31) (.c (.int .i64 0)))⟩]) (.cond (.t 32) (.seq (.reg [⟨(some 33), none, (.mov (.t 0))⟩,
    ⟨(some 34), none, (.mov (.t 1))⟩,
    ⟨(some 35), none, (.mov (.t 2))⟩,
    ⟨(some 36), none, (.mov (.t 4))⟩,
    ⟨(some 37), none, (.call (.f 336) [(.t 33), (.t 34), (.t 35), (.t 36)])⟩]) .ret) .skip)) (.seq (.seq (.reg [⟨(some 38), none, (.mov (.t 10))⟩,
    ⟨(some 39), none, (.un .not (.t 38))⟩]) (.cond (.t 39) (.seq (.reg [⟨(some 40), none, (.mov (.t 0))⟩,
    ⟨(some 41), none, (.mov (.t 1))⟩,
    ⟨(some 42), none, (.mov (.t 2))⟩,
    ⟨(some 43), none, (.mov (.t 4))⟩,
    ⟨(some 44), none, (.call (.f 337) [(.t 40), (.t 41), (.t 42), (.t 43)])⟩]) (.reg [⟨(some 45), none, (.mov (.t 3))⟩,
    ⟨(some 46), none, (.bin .sub (.t 45) (.c (.int .i64 1)))⟩,
    ⟨(some 3), none, (.mov (.t 46))⟩])) .skip)) (.seq (.reg [⟨(some 48), none, (.mov (.t 0))⟩,
    ⟨(some 49), none, (.mov (.t 1))⟩,
    ⟨(some 50), none, (.mov (.t 2))⟩,
    ⟨(some 51), none, (.mov (.t 4))⟩,
    ⟨(some 52), none, (.call (.f 338) [(.t 48), (.t 49), (.t 50), (.t 51)])⟩,
    ⟨(some 47), none, (.mov (.t 52))⟩,
    ⟨(some 53), none, (.extract (.t 47) 0)⟩,
    ⟨(some 54), none, (.extract (.t 47) 1)⟩,
    ⟨(some 13), none, (.mov (.t 53))⟩,
    ⟨(some 14), none, (.mov (.t 54))⟩]) (.seq (.seq (.reg [⟨(some 55), none, (.mov (.t 14))⟩,
    ⟨(some 56), none, (.bin .eql (.t 55) (.c (.int .i64 2)))⟩]) (.cond (.t 56) (.seq (.reg [⟨(some 57), none, (.mov (.t 0))⟩,
    ⟨(some 58), none, (.mov (.t 1))⟩,
    ⟨(some 59), none, (.mov (.t 2))⟩,
    ⟨(some 60), none, (.mov (.t 4))⟩,
    ⟨(some 61), none, (.call (.f 339) [(.t 57), (.t 58), (.t 59), (.t 60)])⟩]) (.seq (.reg [⟨(some 62), none, (.mov (.t 2))⟩,
    ⟨(some 63), none, (.bin .sub (.t 62) (.c (.int .i64 1)))⟩,
    ⟨(some 64), none, (.mov (.t 13))⟩,
    ⟨(some 65), none, (.mov (.t 1))⟩,
    ⟨(some 66), none, (.bin .sub (.t 64) (.t 65))⟩,
    ⟨(some 67), none, (.bin .sub (.t 63) (.t 66))⟩,
    ⟨(some 13), none, (.mov (.t 67))⟩]) (.reg [⟨(some 14), none, (.mov (.c (.int .i64 1)))⟩]))) .skip)) (.seq (.seq (.reg [⟨(some 68), none, (.mov (.t 10))⟩,
    ⟨(some 69), none, (.mov (.t 68))⟩,
    ⟨(some 70), (some (69, true)), (.mov (.t 11))⟩,
    ⟨(some 71), none, (.pick (.t 69) (.t 70) (.c (.bool false)))⟩,
    ⟨(some 72), none, (.mov (.t 71))⟩,
    ⟨(some 73), (some (72, true)), (.mov (.t 14))⟩,
    ⟨(some 74), (some (72, true)), (.bin .eql (.t 73) (.c (.int .i64 1)))⟩,
    ⟨(some 75), none, (.pick (.t 72) (.t 74) (.c (.bool false)))⟩]) (.cond (.t 75) (.seq (.reg [⟨(some 76), none, (.mov (.t 0))⟩,
    ⟨(some 77), none, (.mov (.t 1))⟩,
    ⟨(some 78), none, (.mov (.t 2))⟩,
    ⟨(some 79), none, (.mov (.t 4))⟩,
    ⟨(some 80), none, (.call (.f 340) [(.t 76), (.t 77), (.t 78), (.t 79)])⟩]) (.cond (.t 80) .ret .skip)) .skip)) (.seq (.seq (.dreg false [⟨⟨(some 81), none, (.mov (.t 1))⟩, 0, 0⟩,
    ⟨⟨(some 82), none, (.bin .gtr (.t 81) (.c (.int .i64 0)))⟩, 0, 0⟩,
    ⟨⟨(some 83), none, (.mov (.t 82))⟩, 0, 0⟩,
    ⟨⟨(some 84), (some (83, true)), (.mov (.t 4))⟩, 0, 0⟩,
    ⟨⟨(some 85), (some (83, true)), (.mov (.t 0))⟩, 0, 0⟩,
    ⟨⟨(some 86), (some (83, true)), (.mov (.t 1))⟩, 0, 0⟩,
    ⟨⟨(some 87), (some (83, true)), (.bin .sub (.t 86) (.c (.int .i64 1)))⟩, 0, 0⟩,
    ⟨⟨(some 88), (some (83, true)), (.indexAddr none 2 (.t 85) (.t 87))⟩, 0, 0⟩,
    ⟨⟨(some 89), (some (83, true)), (.load (some 2) (.t 88))⟩, 0, 0⟩,
    ⟨⟨(some 90), (some (83, true)), (.mov (.t 0))⟩, 0, 0⟩,
    ⟨⟨(some 91), (some (83, true)), (.mov (.t 13))⟩, 0, 0⟩,
    ⟨⟨(some 92), (some (83, true)), (.indexAddr none 2 (.t 90) (.t 91))⟩, 0, 0⟩,
    ⟨⟨(some 93), (some (83, true)), (.load (some 2) (.t 92))⟩, 0, 0⟩,
    ⟨⟨(some 94), (some (83, true)), (.call (.t 84) [(.t 89), (.t 93)])⟩, 0, 1⟩,
    ⟨⟨(some 95), (some (83, true)), (.bin .lss (.t 94) (.c (.int .i64 0)))⟩, 1, 1⟩,
    ⟨⟨(some 96), (some (83, true)), (.un .not (.t 95))⟩, 1, 1⟩,
    ⟨⟨(some 97), none, (.pick (.t 83) (.t 96) (.c (.bool false)))⟩, 1, 1⟩]) (.cond (.t 97) (.seq (.reg [⟨(some 98), none, (.mov (.t 0))⟩,
    ⟨(some 99), none, (.mov (.t 1))⟩,
    ⟨(some 100), none, (.mov (.t 2))⟩,
    ⟨(some 101), none, (.mov (.t 13))⟩,
    ⟨(some 102), none, (.mov (.t 4))⟩,
    ⟨(some 103), none, (.call (.f 341) [(.t 98), (.t 99), (.t 100), (.t 101), (.t 102)])⟩,
    ⟨(some 15), none, (.mov (.t 103))⟩]) (.seq (.reg [⟨(some 104), none, (.mov (.t 15))⟩,
    ⟨(some 1), none, (.mov (.t 104))⟩]) (.exit 1))) .skip)) (.seq (.reg [⟨(some 106), none, (.mov (.t 0))⟩,
    ⟨(some 107), none, (.mov (.t 1))⟩,
    ⟨(some 108), none, (.mov (.t 2))⟩,
    ⟨(some 109), none, (.mov (.t 13))⟩,
    ⟨(some 110), none, (.mov (.t 4))⟩,
    ⟨(some 111), none, (.call (.f 342) [(.t 106), (.t 107), (.t 108), (.t 109), (.t 110)])⟩,
    ⟨(some 105), none, (.mov (.t 111))⟩,
    ⟨(some 112), none, (.extract (.t 105) 0)⟩,
    ⟨(some 113), none, (.extract (.t 105) 1)⟩,
    ⟨(some 16), none, (.mov (.t 112))⟩,
    ⟨(some 17), none, (.mov (.t 113))⟩]) (.seq (.reg [⟨(some 114), none, (.mov (.t 17))⟩,
    ⟨(some 11), none, (.mov (.t 114))⟩]) (.seq (.reg [⟨(some 115), none, (.mov (.t 16))⟩,
    ⟨(some 116), none, (.mov (.t 1))⟩,
    ⟨(some 117), none, (.bin .sub (.t 115) (.t 116))⟩,
    ⟨(some 118), none, (.mov (.t 2))⟩,
    ⟨(some 119), none, (.mov (.t 16))⟩,
    ⟨(some 120), none, (.bin .sub (.t 118) (.t 119))⟩,
    ⟨(some 18), none, (.mov (.t 117))⟩,
    ⟨(some 19), none, (.mov (.t 120))⟩]) (.seq (.reg [⟨(some 121), none, (.mov (.t 12))⟩,
    ⟨(some 122), none, (.bin .quo (.t 121) (.c (.int .i64 8)))⟩,
    ⟨(some 20), none, (.mov (.t 122))⟩]) (.seq (.reg [⟨(some 123), none, (.mov (.t 18))⟩,
    ⟨(some 124), none, (.mov (.t 19))⟩,
    ⟨(some 125), none, (.bin .lss (.t 123) (.t 124))⟩]) (.cond (.t 125) (.seq (.reg [⟨(some 126), none, (.mov (.t 18))⟩,
    ⟨(some 127), none, (.mov (.t 20))⟩,
    ⟨(some 128), none, (.bin .geq (.t 126) (.t 127))⟩,
    ⟨(some 10), none, (.mov (.t 128))⟩]) (.seq (.reg [⟨(some 129), none, (.mov (.t 0))⟩,
    ⟨(some 130), none, (.mov (.t 1))⟩,
    ⟨(some 131), none, (.mov (.t 16))⟩,
    ⟨(some 132), none, (.mov (.t 3))⟩,
    ⟨(some 133), none, (.mov (.t 4))⟩,
    ⟨(some 134), none, (.call (.f 267) [(.t 129), (.t 130), (.t 131), (.t 132), (.t 133)])⟩]) (.reg [⟨(some 135), none, (.mov (.t 16))⟩,
    ⟨(some 136), none, (.bin .add (.t 135) (.c (.int .i64 1)))⟩,
    ⟨(some 1), none, (.mov (.t 136))⟩]))) (.seq (.reg [⟨(some 137), none, (.mov (.t 19))⟩,
    ⟨(some 138), none, (.mov (.t 20))⟩,
    ⟨(some 139), none, (.bin .geq (.t 137) (.t 138))⟩,
    ⟨(some 10), none, (.mov (.t 139))⟩]) (.seq (.reg [⟨(some 140), none, (.mov (.t 0))⟩,
    ⟨(some 141), none, (.mov (.t 16))⟩,
    ⟨(some 142), none, (.bin .add (.t 141) (.c (.int .i64 1)))⟩,
    ⟨(some 143), none, (.mov (.t 2))⟩,
    ⟨(some 144), none, (.mov (.t 3))⟩,
    ⟨(some 145), none, (.mov (.t 4))⟩,
    ⟨(some 146), none, (.call (.f 267) [(.t 140), (.t 142), (.t 143), (.t 144), (.t 145)])⟩]) (.reg [⟨(some 147), none, (.mov (.t 16))⟩,
    ⟨(some 2), none, (.mov (.t 147))⟩]))))))))))))))))))
def s267 : SFn := ⟨[], (.seq (.reg [⟨(some 10), none, (.mov (.c (.bool true)))⟩]) (.seq (.reg [⟨(some 11), none, (.mov (.c (.bool true)))⟩]) (.block 0 (.loop s267_l0))))⟩
/- cmp.isNaN[int] -/
def s268 : SFn := ⟨[.tmp 2], (.seq (.reg [⟨(some 2), none, (.mov (.c (.bool false)))⟩]) (.seq (.reg [⟨(some 3), none, (.mov (.t 0))⟩,
    ⟨(some 4), none, (.mov (.t 0))⟩,
    ⟨(some 5), none, (.bin .neq (.t 3) (.t 4))⟩,
    ⟨(some 2), none, (.mov (.t 5))⟩]) .ret))⟩
/- (*moiety/tree.Tree).is -/
def s269 : SFn := ⟨[.tmp 4], (.seq (.reg [⟨(some 4), none, (.mov (.c (.bool false)))⟩]) (.seq (.reg [⟨(some 5), none, (.mov (.t 0))⟩,
    ⟨(some 6), none, (.eq true .ptr (.t 5) (.c (.ptr none)))⟩,
    ⟨(some 7), none, (.mov (.t 6))⟩,
    ⟨(some 8), (some (7, true)), (.mov (.t 1))⟩,
    ⟨(some 9), (some (7, true)), (.bin .geq (.t 8) (.c (.int .i64 0)))⟩,
    ⟨(some 10), none, (.pick (.t 7) (.t 9) (.c (.bool false)))⟩,
    ⟨(some 11), none, (.mov (.t 10))⟩,
    ⟨(some 12), (some (11, true)), (.mov (.t 1))⟩,
    ⟨(some 13), (some (11, true)), (.mov (.t 0))⟩,
    ⟨(some 14), (some (11, true)), (.nilCheck (.t 13))⟩,
    ⟨(some 15), (some (11, true)), (.fieldAddr 0 (.t 14))⟩,
    ⟨(some 16), (some (11, true)), (.load none (.t 15))⟩,
    ⟨(some 17), (some (11, true)), (.len false (.t 16))⟩,
    ⟨(some 18), (some (11, true)), (.bin .lss (.t 12) (.t 17))⟩,
    ⟨(some 19), none, (.pick (.t 11) (.t 18) (.c (.bool false)))⟩,
    ⟨(some 4), none, (.mov (.t 19))⟩]) .ret))⟩
/- moiety/coord.every$1 -/
def s270 : SFn := ⟨[], (.seq (.reg [⟨(some 2), none, (.box (.t 0))⟩]) (.seq (.reg [⟨(some 3), none, (.new [.nilFunc])⟩]) (.seq (.reg [⟨(some 4), none, (.makeFunc 271 [] [(.t 1), (.t 2), (.t 3)])⟩,
    ⟨none, none, (.store 1 (.t 3) (.t 4))⟩]) (.reg [⟨(some 5), none, (.load none (.t 3))⟩,
    ⟨(some 6), none, (.build [(.int .i64 0), (.int .i64 0), (.int .i64 0), (.int .i64 0)] [])⟩,
    ⟨(some 7), none, (.call (.t 5) [(.c (.int .i64 0)), (.t 6)])⟩]))))⟩
/- moiety/coord.every$1$1 -/
def s271_l0 : S := (.seq (.reg [⟨(some 23), none, (.bin .lss (.t 22) (.t 21))⟩]) (.seq (.cond (.t 23) .skip (.exit 0)) (.seq (.block 1 (.seq (.reg [⟨(some 24), none, (.indexAddr none 1 (.t 20) (.t 22))⟩,
    ⟨(some 25), none, (.load none (.t 24))⟩,
    ⟨(some 9), none, (.mov (.t 25))⟩]) (.seq (.reg [⟨(some 26), none, (.mov (.t 0))⟩,
    ⟨(some 27), none, (.mov (.t 9))⟩,
    ⟨(some 28), none, (.indexAddr (some 4) 1 (.t 6) (.t 26))⟩,
    ⟨none, none, (.store 1 (.t 28) (.t 27))⟩]) (.seq (.reg [⟨(some 29), none, (.load none (.t 4))⟩,
    ⟨(some 30), none, (.mov (.t 0))⟩,
    ⟨(some 31), none, (.bin .add (.t 30) (.c (.int .i64 1)))⟩,
    ⟨(some 32), none, (.load (some 4) (.t 6))⟩,
    ⟨(some 33), none, (.call (.t 29) [(.t 31), (.t 32)])⟩,
    ⟨(some 34), none, (.un .not (.t 33))⟩]) (.cond (.t 34) (.seq (.reg [⟨(some 7), none, (.mov (.c (.bool false)))⟩]) .ret) .skip))))) (.reg [⟨(some 35), none, (.bin .add (.t 22) (.c (.int .i64 1)))⟩,
    ⟨(some 22), none, (.mov (.t 35))⟩]))))
def s271 : SFn := ⟨[.tmp 7], (.seq (.reg [⟨(some 6), none, (.box (.t 1))⟩,
    ⟨(some 7), none, (.mov (.c (.bool false)))⟩]) (.seq (.seq (.reg [⟨(some 10), none, (.mov (.t 0))⟩,
    ⟨(some 11), none, (.load none (.t 2))⟩,
    ⟨(some 12), none, (.len false (.t 11))⟩,
    ⟨(some 13), none, (.bin .eql (.t 10) (.t 12))⟩]) (.cond (.t 13) (.seq (.reg [⟨(some 14), none, (.load none (.t 3))⟩,
    ⟨(some 15), none, (.load (some 4) (.t 6))⟩,
    ⟨(some 16), none, (.call (.t 14) [(.t 15)])⟩,
    ⟨(some 7), none, (.mov (.t 16))⟩]) .ret) .skip)) (.seq (.seq (.reg [⟨(some 17), none, (.load none (.t 2))⟩,
    ⟨(some 18), none, (.mov (.t 0))⟩,
    ⟨(some 19), none, (.indexAddr none 1 (.t 17) (.t 18))⟩,
    ⟨(some 20), none, (.load none (.t 19))⟩,
    ⟨(some 21), none, (.len false (.t 20))⟩,
    ⟨(some 22), none, (.mov (.c (.int .i64 0)))⟩]) (.block 0 (.loop s271_l0))) (.seq (.reg [⟨(some 7), none, (.mov (.c (.bool true)))⟩]) .ret))))⟩
/- (*moiety/pages.Pages).put -/
def s272 : SFn := ⟨[.tmp 10, .tmp 11], (.seq (.reg [⟨(some 9), none, (.box (.t 4))⟩,
    ⟨(some 10), none, (.mov (.c (.int .i64 0)))⟩,
    ⟨(some 11), none, (.mov (.c (.int .i64 0)))⟩]) (.seq (.seq (.reg [⟨(some 19), none, (.mov (.t 3))⟩,
    ⟨(some 20), none, (.bin .eql (.t 19) (.c (.int .i64 8)))⟩]) (.cond (.t 20) (.seq (.reg [⟨(some 21), none, (.mov (.t 0))⟩,
    ⟨(some 22), none, (.mov (.t 1))⟩,
    ⟨(some 23), none, (.call (.f 182) [(.t 21), (.t 22), (.c (.bool true))])⟩,
    ⟨(some 12), none, (.new [(.bool false), (.int .i64 0), (.int .i64 0), (.int .i64 0), (.int .i64 0), (.int .i64 0), (.int .i64 0), (.int .i64 0), (.int .i64 0), (.int .i64 0), (.bool false), (.int .i64 0), (.bool false), (.int .i64 0), (.bool false), (.int .i64 0), (.bool false), (.int .i64 0), (.bool false), (.int .i64 0), (.bool false), (.int .i64 0), (.bool false), (.int .i64 0), (.bool false)])⟩,
    ⟨none, none, (.store 25 (.t 12) (.t 23))⟩]) (.seq (.reg [⟨(some 24), none, (.mov (.t 2))⟩,
    ⟨(some 25), none, (.load (some 2) (.t 9))⟩,
    ⟨(some 26), none, (.fieldAddr 9 (.t 12))⟩,
    ⟨(some 27), none, (.indexAddr (some 8) 2 (.t 26) (.t 24))⟩,
    ⟨none, none, (.store 2 (.t 27) (.t 25))⟩]) (.seq (.reg [⟨(some 28), none, (.mov (.t 0))⟩,
    ⟨(some 29), none, (.load (some 25) (.t 12))⟩,
    ⟨(some 30), none, (.call (.f 343) [(.t 28), (.t 29)])⟩,
    ⟨(some 31), none, (.extract (.t 30) 0)⟩,
    ⟨(some 32), none, (.extract (.t 30) 1)⟩,
    ⟨(some 10), none, (.mov (.t 31))⟩,
    ⟨(some 11), none, (.mov (.t 32))⟩]) .ret))) .skip)) (.seq (.reg [⟨(some 33), none, (.mov (.t 3))⟩,
    ⟨(some 34), none, (.bin .quo (.t 33) (.c (.int .i64 8)))⟩,
    ⟨(some 13), none, (.mov (.t 34))⟩]) (.seq (.reg [⟨(some 35), none, (.mov (.t 0))⟩,
    ⟨(some 36), none, (.mov (.t 1))⟩,
    ⟨(some 37), none, (.call (.f 182) [(.t 35), (.t 36), (.c (.bool false))])⟩,
    ⟨(some 14), none, (.new [(.bool false), (.int .i64 0), (.int .i64 0), (.int .i64 0), (.int .i64 0), (.int .i64 0), (.int .i64 0), (.int .i64 0), (.int .i64 0), (.int .i64 0), (.bool false), (.int .i64 0), (.bool false), (.int .i64 0), (.bool false), (.int .i64 0), (.bool false), (.int .i64 0), (.bool false), (.int .i64 0), (.bool false), (.int .i64 0), (.bool false), (.int .i64 0), (.bool false)])⟩,
    ⟨none, none, (.store 25 (.t 14) (.t 37))⟩]) (.seq (.reg [⟨(some 38), none, (.mov (.t 2))⟩,
    ⟨(some 39), none, (.mov (.t 13))⟩,
    ⟨(some 40), none, (.bin .quo (.t 38) (.t 39))⟩,
    ⟨(some 15), none, (.mov (.t 40))⟩]) (.seq (.dreg false [⟨⟨(some 42), none, (.mov (.t 0))⟩, 0, 0⟩,
    ⟨⟨(some 43), none, (.mov (.t 15))⟩, 0, 0⟩,
    ⟨⟨(some 44), none, (.fieldAddr 1 (.t 14))⟩, 0, 0⟩,
    ⟨⟨(some 45), none, (.indexAddr (some 8) 1 (.t 44) (.t 43))⟩, 0, 0⟩,
    ⟨⟨(some 46), none, (.load none (.t 45))⟩, 0, 0⟩,
    ⟨⟨(some 47), none, (.mov (.t 2))⟩, 0, 0⟩,
    ⟨⟨(some 48), none, (.mov (.t 13))⟩, 0, 0⟩,
    ⟨⟨(some 49), none, (.bin .rem (.t 47) (.t 48))⟩, 0, 0⟩,
    ⟨⟨(some 50), none, (.mov (.t 13))⟩, 0, 0⟩,
    ⟨⟨(some 51), none, (.load (some 2) (.t 9))⟩, 0, 0⟩,
    ⟨⟨(some 52), none, (.call (.f 272) [(.t 42), (.t 46), (.t 49), (.t 50), (.t 51)])⟩, 0, 1⟩,
    ⟨⟨(some 41), none, (.mov (.t 52))⟩, 1, 1⟩,
    ⟨⟨(some 53), none, (.extract (.t 41) 0)⟩, 1, 1⟩,
    ⟨⟨(some 54), none, (.extract (.t 41) 1)⟩, 1, 1⟩,
    ⟨⟨(some 16), none, (.mov (.t 53))⟩, 1, 1⟩,
    ⟨⟨(some 17), none, (.mov (.t 54))⟩, 1, 1⟩]) (.seq (.seq (.reg [⟨(some 55), none, (.mov (.t 17))⟩,
    ⟨(some 56), none, (.bin .neq (.t 55) (.c (.int .i64 0)))⟩]) (.cond (.t 56) (.seq (.reg [⟨(some 57), none, (.mov (.t 17))⟩,
    ⟨(some 10), none, (.mov (.c (.int .i64 0)))⟩,
    ⟨(some 11), none, (.mov (.t 57))⟩]) .ret) .skip)) (.seq (.reg [⟨(some 58), none, (.mov (.t 15))⟩,
    ⟨(some 59), none, (.mov (.t 16))⟩,
    ⟨(some 60), none, (.fieldAddr 1 (.t 14))⟩,
    ⟨(some 61), none, (.indexAddr (some 8) 1 (.t 60) (.t 58))⟩,
    ⟨none, none, (.store 1 (.t 61) (.t 59))⟩]) (.seq (.reg [⟨(some 63), none, (.mov (.t 0))⟩,
    ⟨(some 64), none, (.load (some 25) (.t 14))⟩,
    ⟨(some 65), none, (.call (.f 343) [(.t 63), (.t 64)])⟩,
    ⟨(some 62), none, (.mov (.t 65))⟩,
    ⟨(some 66), none, (.extract (.t 62) 0)⟩,
    ⟨(some 67), none, (.extract (.t 62) 1)⟩,
    ⟨(some 18), none, (.mov (.t 66))⟩,
    ⟨(some 17), none, (.mov (.t 67))⟩]) (.seq (.reg [⟨(some 68), none, (.mov (.t 0))⟩,
    ⟨(some 69), none, (.mov (.t 16))⟩,
    ⟨(some 70), none, (.call (.f 344) [(.t 68), (.t 69)])⟩]) (.seq (.reg [⟨(some 71), none, (.mov (.t 18))⟩,
    ⟨(some 72), none, (.mov (.t 17))⟩,
    ⟨(some 10), none, (.mov (.t 71))⟩,
    ⟨(some 11), none, (.mov (.t 72))⟩]) .ret)))))))))))⟩
/- (*moiety/arena.Arena).slot -/
def s273 : SFn := ⟨[.tmp 4], (.seq (.reg [⟨(some 4), none, (.mov (.c (.ptr none)))⟩]) (.seq (.seq (.reg [⟨(some 5), none, (.mov (.t 0))⟩,
    ⟨(some 6), none, (.eq false .ptr (.t 5) (.c (.ptr none)))⟩,
    ⟨(some 7), none, (.mov (.t 6))⟩,
    ⟨(some 8), (some (7, false)), (.mov (.t 1))⟩,
    ⟨(some 9), (some (7, false)), (.bin .lss (.t 8) (.c (.int .i64 1)))⟩,
    ⟨(some 10), none, (.pick (.t 7) (.c (.bool true)) (.t 9))⟩,
    ⟨(some 11), none, (.mov (.t 10))⟩,
    ⟨(some 12), (some (11, false)), (.mov (.t 1))⟩,
    ⟨(some 13), (some (11, false)), (.mov (.t 0))⟩,
    ⟨(some 14), (some (11, false)), (.nilCheck (.t 13))⟩,
    ⟨(some 15), (some (11, false)), (.fieldAddr 1 (.t 14))⟩,
    ⟨(some 16), (some (11, false)), (.load none (.t 15))⟩,
    ⟨(some 17), (some (11, false)), (.len false (.t 16))⟩,
    ⟨(some 18), (some (11, false)), (.bin .gtr (.t 12) (.t 17))⟩,
    ⟨(some 19), none, (.pick (.t 11) (.c (.bool true)) (.t 18))⟩,
    ⟨(some 20), none, (.mov (.t 19))⟩,
    ⟨(some 21), (some (20, false)), (.mov (.t 0))⟩,
    ⟨(some 22), (some (20, false)), (.nilCheck (.t 21))⟩,
    ⟨(some 23), (some (20, false)), (.fieldAddr 1 (.t 22))⟩,
    ⟨(some 24), (some (20, false)), (.load none (.t 23))⟩,
    ⟨(some 25), (some (20, false)), (.mov (.t 1))⟩,
    ⟨(some 26), (some (20, false)), (.bin .sub (.t 25) (.c (.int .i64 1)))⟩,
    ⟨(some 27), (some (20, false)), (.indexAddr none 26 (.t 24) (.t 26))⟩,
    ⟨(some 28), (some (20, false)), (.fieldAddr 25 (.t 27))⟩,
    ⟨(some 29), (some (20, false)), (.load none (.t 28))⟩,
    ⟨(some 30), (some (20, false)), (.bin .eql (.t 29) (.c (.int .i64 0)))⟩,
    ⟨(some 31), none, (.pick (.t 20) (.c (.bool true)) (.t 30))⟩]) (.cond (.t 31) (.seq (.reg [⟨(some 4), none, (.mov (.c (.ptr none)))⟩]) .ret) .skip)) (.seq (.reg [⟨(some 32), none, (.mov (.t 0))⟩,
    ⟨(some 33), none, (.nilCheck (.t 32))⟩,
    ⟨(some 34), none, (.fieldAddr 1 (.t 33))⟩,
    ⟨(some 35), none, (.load none (.t 34))⟩,
    ⟨(some 36), none, (.mov (.t 1))⟩,
    ⟨(some 37), none, (.bin .sub (.t 36) (.c (.int .i64 1)))⟩,
    ⟨(some 38), none, (.indexAddr none 26 (.t 35) (.t 37))⟩,
    ⟨(some 4), none, (.mov (.t 38))⟩]) .ret)))⟩
/- (*moiety/arena.Arena).none -/
def s274 : SFn := ⟨[.tmp 2], (.seq (.reg [⟨(some 2), none, (.mov (.c (.int .i64 0)))⟩]) (.seq (.seq (.reg [⟨(some 3), none, (.mov (.t 0))⟩,
    ⟨(some 4), none, (.eq false .ptr (.t 3) (.c (.ptr none)))⟩]) (.cond (.t 4) (.seq (.reg [⟨(some 2), none, (.mov (.c (.int .i64 1)))⟩]) .ret) .skip)) (.seq (.reg [⟨(some 2), none, (.mov (.c (.int .i64 10)))⟩]) .ret)))⟩
/- (*moiety/arena.Arena).gone -/
def s275 : SFn := ⟨[], (.seq (.reg [⟨(some 7), none, (.mov (.t 0))⟩,
    ⟨(some 8), none, (.nilCheck (.t 7))⟩,
    ⟨(some 9), none, (.fieldAddr 2 (.t 8))⟩,
    ⟨(some 10), none, (.load none (.t 9))⟩,
    ⟨(some 11), none, (.mov (.t 1))⟩,
    ⟨(some 12), none, (.call (.f 345) [(.t 10), (.t 11), (.f 346)])⟩,
    ⟨(some 6), none, (.mov (.t 12))⟩,
    ⟨(some 13), none, (.extract (.t 6) 0)⟩,
    ⟨(some 14), none, (.extract (.t 6) 1)⟩,
    ⟨(some 4), none, (.mov (.t 13))⟩,
    ⟨(some 5), none, (.mov (.t 14))⟩]) (.reg [⟨(some 15), none, (.mov (.t 0))⟩,
    ⟨(some 16), none, (.mov (.t 0))⟩,
    ⟨(some 17), none, (.nilCheck (.t 16))⟩,
    ⟨(some 18), none, (.fieldAddr 2 (.t 17))⟩,
    ⟨(some 19), none, (.load none (.t 18))⟩,
    ⟨(some 20), none, (.mov (.t 4))⟩,
    ⟨(some 21), none, (.mov (.t 1))⟩,
    ⟨(some 22), none, (.buildSlice 1 [(.int .i64 0)] [(0, 1, (.t 21))])⟩,
    ⟨(some 23), none, (.call (.f 347) [(.t 19), (.t 20), (.t 22)])⟩,
    ⟨(some 24), none, (.nilCheck (.t 15))⟩,
    ⟨(some 25), none, (.fieldAddr 2 (.t 24))⟩,
    ⟨none, none, (.store 1 (.t 25) (.t 23))⟩]))⟩
/- (*moiety/moietyref06.Dims).Right -/
def s276_l0 : S := (.seq (.seq (.reg [⟨(some 21), none, (.mov (.t 5))⟩,
    ⟨(some 22), none, (.bin .lss (.t 21) (.c (.int .i64 4)))⟩]) (.cond (.t 22) .skip (.exit 0))) (.seq (.block 1 (.seq (.reg [⟨(some 6), none, (.mov (.c (.int .i64 1)))⟩]) (.seq (.seq (.reg [⟨(some 25), none, (.mov (.t 5))⟩,
    ⟨(some 26), none, (.mov (.t 0))⟩,
    ⟨(some 27), none, (.nilCheck (.t 26))⟩,
    ⟨(some 28), none, (.fieldAddr 4 (.t 27))⟩,
    ⟨(some 29), none, (.load none (.t 28))⟩,
    ⟨(some 30), none, (.len false (.t 29))⟩,
    ⟨(some 31), none, (.bin .lss (.t 25) (.t 30))⟩]) (.cond (.t 31) (.reg [⟨(some 32), none, (.mov (.t 0))⟩,
    ⟨(some 33), none, (.nilCheck (.t 32))⟩,
    ⟨(some 34), none, (.fieldAddr 4 (.t 33))⟩,
    ⟨(some 35), none, (.load none (.t 34))⟩,
    ⟨(some 36), none, (.mov (.t 5))⟩,
    ⟨(some 37), none, (.indexAddr none 1 (.t 35) (.t 36))⟩,
    ⟨(some 38), none, (.load none (.t 37))⟩,
    ⟨(some 39), none, (.nilCheck (.t 38))⟩,
    ⟨(some 40), none, (.fieldAddr 0 (.t 39))⟩,
    ⟨(some 41), none, (.load none (.t 40))⟩,
    ⟨(some 42), none, (.len false (.t 41))⟩,
    ⟨(some 6), none, (.mov (.t 42))⟩]) .skip)) (.seq (.reg [⟨(some 43), none, (.mov (.t 5))⟩,
    ⟨(some 44), none, (.fieldAddr 1 (.t 3))⟩,
    ⟨(some 45), none, (.indexAddr (some 4) 1 (.t 44) (.t 43))⟩,
    ⟨(some 46), none, (.load none (.t 45))⟩,
    ⟨(some 47), none, (.bin .lss (.t 46) (.c (.int .i64 0)))⟩,
    ⟨(some 48), none, (.mov (.t 47))⟩,
    ⟨(some 49), (some (48, false)), (.mov (.t 5))⟩,
    ⟨(some 50), (some (48, false)), (.fieldAddr 1 (.t 3))⟩,
    ⟨(some 51), (some (48, false)), (.indexAddr (some 4) 1 (.t 50) (.t 49))⟩,
    ⟨(some 52), (some (48, false)), (.load none (.t 51))⟩,
    ⟨(some 53), (some (48, false)), (.mov (.t 6))⟩,
    ⟨(some 54), (some (48, false)), (.bin .geq (.t 52) (.t 53))⟩,
    ⟨(some 55), none, (.pick (.t 48) (.c (.bool true)) (.t 54))⟩]) (.cond (.t 55) (.seq (.reg [⟨(some 4), none, (.mov (.c (.bool false)))⟩]) .ret) .skip))))) (.reg [⟨(some 23), none, (.mov (.t 5))⟩,
    ⟨(some 24), none, (.bin .add (.t 23) (.c (.int .i64 1)))⟩,
    ⟨(some 5), none, (.mov (.t 24))⟩])))
def s276 : SFn := ⟨[.tmp 4], (.seq (.reg [⟨(some 3), none, (.box (.t 1))⟩,
    ⟨(some 4), none, (.mov (.c (.bool false)))⟩]) (.seq (.seq (.dreg false [⟨⟨(some 7), none, (.fieldAddr 0 (.t 3))⟩, 0, 0⟩,
    ⟨⟨(some 8), none, (.load none (.t 7))⟩, 0, 0⟩,
    ⟨⟨(some 9), none, (.bin .lss (.t 8) (.c (.int .i64 0)))⟩, 0, 0⟩,
    ⟨⟨(some 10), none, (.mov (.t 9))⟩, 0, 0⟩,
    ⟨⟨(some 11), (some (10, false)), (.fieldAddr 0 (.t 3))⟩, 0, 0⟩,
    ⟨⟨(some 12), (some (10, false)), (.load none (.t 11))⟩, 0, 0⟩,
    ⟨⟨(some 13), (some (10, false)), (.mov (.t 0))⟩, 0, 0⟩,
    ⟨⟨(some 14), (some (10, false)), (.nilCheck (.t 13))⟩, 0, 0⟩,
    ⟨⟨(some 15), (some (10, false)), (.fieldAddr 0 (.t 14))⟩, 0, 0⟩,
    ⟨⟨(some 16), (some (10, false)), (.fieldAddr 1 (.t 15))⟩, 0, 0⟩,
    ⟨⟨(some 17), (some (10, false)), (.load none (.t 16))⟩, 0, 0⟩,
    ⟨⟨(some 18), (some (10, false)), (.len false (.t 17))⟩, 0, 0⟩,
    ⟨⟨(some 19), (some (10, false)), (.bin .geq (.t 12) (.t 18))⟩, 0, 0⟩,
    ⟨⟨(some 20), none, (.pick (.t 10) (.c (.bool true)) (.t 19))⟩, 0, 0⟩]) (.cond (.t 20) (.seq (.reg [⟨(some 4), none, (.mov (.c (.bool false)))⟩]) .ret) .skip)) (.seq (.seq (.reg [⟨(some 5), none, (.mov (.c (.int .i64 0)))⟩]) (.block 0 (.loop s276_l0))) (.seq (.reg [⟨(some 4), none, (.mov (.c (.bool true)))⟩]) .ret))))⟩
/- (*moiety/moietyref07.Space).prepare -/
def s277_l0 : S := (.seq (.seq (.reg [⟨(some 71), none, (.mov (.t 8))⟩,
    ⟨(some 72), none, (.mov (.t 3))⟩,
    ⟨(some 73), none, (.nilCheck (.t 72))⟩,
    ⟨(some 74), none, (.fieldAddr 0 (.t 73))⟩,
    ⟨(some 75), none, (.load none (.t 74))⟩,
    ⟨(some 76), none, (.len false (.t 75))⟩,
    ⟨(some 77), none, (.bin .lss (.t 71) (.t 76))⟩]) (.cond (.t 77) .skip (.exit 4))) (.seq (.block 5 (.reg [⟨(some 80), none, (.mov (.t 7))⟩,
    ⟨(some 81), none, (.mov (.t 3))⟩,
    ⟨(some 82), none, (.mov (.t 6))⟩,
    ⟨(some 83), none, (.mov (.t 8))⟩,
    ⟨(some 84), none, (.call (.f 349) [(.t 81), (.t 82), (.t 83)])⟩,
    ⟨(some 85), none, (.buildSlice 1 [(.bool false)] [(0, 1, (.t 84))])⟩,
    ⟨(some 86), none, (.append 1 1 (.t 80) (.t 85))⟩,
    ⟨(some 7), none, (.mov (.t 86))⟩])) (.reg [⟨(some 78), none, (.mov (.t 8))⟩,
    ⟨(some 79), none, (.bin .add (.t 78) (.c (.int .i64 1)))⟩,
    ⟨(some 8), none, (.mov (.t 79))⟩])))
def s277_l1 : S := (.seq (.seq (.reg [⟨(some 56), none, (.mov (.t 6))⟩,
    ⟨(some 57), none, (.mov (.t 3))⟩,
    ⟨(some 58), none, (.nilCheck (.t 57))⟩,
    ⟨(some 59), none, (.fieldAddr 0 (.t 58))⟩,
    ⟨(some 60), none, (.load none (.t 59))⟩,
    ⟨(some 61), none, (.len false (.t 60))⟩,
    ⟨(some 62), none, (.bin .lss (.t 56) (.t 61))⟩]) (.cond (.t 62) .skip (.exit 2))) (.seq (.block 3 (.seq (.reg [⟨(some 65), none, (.mov (.t 4))⟩,
    ⟨(some 66), none, (.mov (.t 3))⟩,
    ⟨(some 67), none, (.mov (.t 6))⟩,
    ⟨(some 68), none, (.call (.f 348) [(.t 66), (.t 67)])⟩,
    ⟨(some 69), none, (.buildSlice 1 [(.int .i64 0)] [(0, 1, (.t 68))])⟩,
    ⟨(some 70), none, (.append 1 8 (.t 65) (.t 69))⟩,
    ⟨(some 4), none, (.mov (.t 70))⟩]) (.seq (.reg [⟨(some 7), none, (.mov (.c (.slice none 0 (.known 0))))⟩]) (.seq (.seq (.reg [⟨(some 8), none, (.mov (.c (.int .i64 0)))⟩]) (.block 4 (.loop s277_l0))) (.reg [⟨(some 87), none, (.mov (.t 5))⟩,
    ⟨(some 88), none, (.mov (.t 7))⟩,
    ⟨(some 89), none, (.buildSlice 1 [(.slice none 0 (.known 0))] [(0, 1, (.t 88))])⟩,
    ⟨(some 90), none, (.append 1 24 (.t 87) (.t 89))⟩,
    ⟨(some 5), none, (.mov (.t 90))⟩]))))) (.reg [⟨(some 63), none, (.mov (.t 6))⟩,
    ⟨(some 64), none, (.bin .add (.t 63) (.c (.int .i64 1)))⟩,
    ⟨(some 6), none, (.mov (.t 64))⟩])))
def s277_l2 : S := (.seq (.seq (.reg [⟨(some 23), none, (.mov (.t 2))⟩,
    ⟨(some 24), none, (.mov (.t 0))⟩,
    ⟨(some 25), none, (.nilCheck (.t 24))⟩,
    ⟨(some 26), none, (.fieldAddr 0 (.t 25))⟩,
    ⟨(some 27), none, (.load none (.t 26))⟩,
    ⟨(some 28), none, (.nilCheck (.t 27))⟩,
    ⟨(some 29), none, (.fieldAddr 4 (.t 28))⟩,
    ⟨(some 30), none, (.load none (.t 29))⟩,
    ⟨(some 31), none, (.len false (.t 30))⟩,
    ⟨(some 32), none, (.bin .lss (.t 23) (.t 31))⟩]) (.cond (.t 32) .skip (.exit 0))) (.seq (.block 1 (.seq (.reg [⟨(some 35), none, (.mov (.t 0))⟩,
    ⟨(some 36), none, (.nilCheck (.t 35))⟩,
    ⟨(some 37), none, (.fieldAddr 0 (.t 36))⟩,
    ⟨(some 38), none, (.load none (.t 37))⟩,
    ⟨(some 39), none, (.nilCheck (.t 38))⟩,
    ⟨(some 40), none, (.fieldAddr 4 (.t 39))⟩,
    ⟨(some 41), none, (.load none (.t 40))⟩,
    ⟨(some 42), none, (.mov (.t 2))⟩,
    ⟨(some 43), none, (.indexAddr none 1 (.t 41) (.t 42))⟩,
    ⟨(some 44), none, (.load none (.t 43))⟩,
    ⟨(some 3), none, (.mov (.t 44))⟩]) (.seq (.dreg false [⟨⟨(some 45), none, (.mov (.t 0))⟩, 0, 3⟩,
    ⟨⟨(some 46), none, (.mov (.t 0))⟩, 0, 2⟩,
    ⟨⟨(some 47), none, (.nilCheck (.t 46))⟩, 0, 2⟩,
    ⟨⟨(some 48), none, (.fieldAddr 1 (.t 47))⟩, 0, 2⟩,
    ⟨⟨(some 49), none, (.load none (.t 48))⟩, 0, 2⟩,
    ⟨⟨(some 50), none, (.mov (.t 3))⟩, 0, 0⟩,
    ⟨⟨(some 51), none, (.call (.f 222) [(.t 50)])⟩, 0, 1⟩,
    ⟨⟨(some 52), none, (.buildSlice 1 [(.slice none 0 (.known 0))] [(0, 1, (.t 51))])⟩, 1, 2⟩,
    ⟨⟨(some 53), none, (.append 1 24 (.t 49) (.t 52))⟩, 2, 3⟩,
    ⟨⟨(some 54), none, (.nilCheck (.t 45))⟩, 3, 3⟩,
    ⟨⟨(some 55), none, (.fieldAddr 1 (.t 54))⟩, 3, 3⟩,
    ⟨⟨none, none, (.store 1 (.t 55) (.t 53))⟩, 3, 4⟩]) (.seq (.reg [⟨(some 4), none, (.mov (.c (.slice none 0 (.known 0))))⟩]) (.seq (.reg [⟨(some 5), none, (.mov (.c (.slice none 0 (.known 0))))⟩]) (.seq (.seq (.reg [⟨(some 6), none, (.mov (.c (.int .i64 0)))⟩]) (.block 2 (.loop s277_l1))) (.seq (.reg [⟨(some 91), none, (.mov (.t 0))⟩,
    ⟨(some 92), none, (.mov (.t 0))⟩,
    ⟨(some 93), none, (.nilCheck (.t 92))⟩,
    ⟨(some 94), none, (.fieldAddr 2 (.t 93))⟩,
    ⟨(some 95), none, (.load none (.t 94))⟩,
    ⟨(some 96), none, (.mov (.t 4))⟩,
    ⟨(some 97), none, (.buildSlice 1 [(.slice none 0 (.known 0))] [(0, 1, (.t 96))])⟩,
    ⟨(some 98), none, (.append 1 24 (.t 95) (.t 97))⟩,
    ⟨(some 99), none, (.nilCheck (.t 91))⟩,
    ⟨(some 100), none, (.fieldAddr 2 (.t 99))⟩,
    ⟨none, none, (.store 1 (.t 100) (.t 98))⟩]) (.reg [⟨(some 101), none, (.mov (.t 0))⟩,
    ⟨(some 102), none, (.mov (.t 0))⟩,
    ⟨(some 103), none, (.nilCheck (.t 102))⟩,
    ⟨(some 104), none, (.fieldAddr 3 (.t 103))⟩,
    ⟨(some 105), none, (.load none (.t 104))⟩,
    ⟨(some 106), none, (.mov (.t 5))⟩,
    ⟨(some 107), none, (.buildSlice 1 [(.slice none 0 (.known 0))] [(0, 1, (.t 106))])⟩,
    ⟨(some 108), none, (.append 1 24 (.t 105) (.t 107))⟩,
    ⟨(some 109), none, (.nilCheck (.t 101))⟩,
    ⟨(some 110), none, (.fieldAddr 3 (.t 109))⟩,
    ⟨none, none, (.store 1 (.t 110) (.t 108))⟩])))))))) (.reg [⟨(some 33), none, (.mov (.t 2))⟩,
    ⟨(some 34), none, (.bin .add (.t 33) (.c (.int .i64 1)))⟩,
    ⟨(some 2), none, (.mov (.t 34))⟩])))
def s277 : SFn := ⟨[], (.seq (.seq (.dreg false [⟨⟨(some 9), none, (.mov (.t 0))⟩, 0, 0⟩,
    ⟨⟨(some 10), none, (.nilCheck (.t 9))⟩, 0, 0⟩,
    ⟨⟨(some 11), none, (.fieldAddr 1 (.t 10))⟩, 0, 0⟩,
    ⟨⟨(some 12), none, (.load none (.t 11))⟩, 0, 0⟩,
    ⟨⟨(some 13), none, (.len false (.t 12))⟩, 0, 0⟩,
    ⟨⟨(some 14), none, (.mov (.t 0))⟩, 0, 0⟩,
    ⟨⟨(some 15), none, (.nilCheck (.t 14))⟩, 0, 0⟩,
    ⟨⟨(some 16), none, (.fieldAddr 0 (.t 15))⟩, 0, 0⟩,
    ⟨⟨(some 17), none, (.load none (.t 16))⟩, 0, 0⟩,
    ⟨⟨(some 18), none, (.nilCheck (.t 17))⟩, 0, 0⟩,
    ⟨⟨(some 19), none, (.fieldAddr 4 (.t 18))⟩, 0, 0⟩,
    ⟨⟨(some 20), none, (.load none (.t 19))⟩, 0, 0⟩,
    ⟨⟨(some 21), none, (.len false (.t 20))⟩, 0, 0⟩,
    ⟨⟨(some 22), none, (.bin .eql (.t 13) (.t 21))⟩, 0, 0⟩]) (.cond (.t 22) .ret .skip)) (.seq (.reg [⟨(some 2), none, (.mov (.c (.int .i64 0)))⟩]) (.block 0 (.loop s277_l2))))⟩
/- slices.Reverse[[]moiety/state.State,moiety/state.State] -/
def s278_l0 : S := (.seq (.seq (.reg [⟨(some 7), none, (.mov (.t 2))⟩,
    ⟨(some 8), none, (.mov (.t 3))⟩,
    ⟨(some 9), none, (.bin .lss (.t 7) (.t 8))⟩]) (.cond (.t 9) .skip (.exit 0))) (.seq (.block 1 (.dreg false [⟨⟨(some 14), none, (.mov (.t 0))⟩, 0, 0⟩,
    ⟨⟨(some 15), none, (.mov (.t 2))⟩, 0, 0⟩,
    ⟨⟨(some 16), none, (.mov (.t 0))⟩, 0, 1⟩,
    ⟨⟨(some 17), none, (.mov (.t 3))⟩, 0, 1⟩,
    ⟨⟨(some 18), none, (.mov (.t 0))⟩, 0, 0⟩,
    ⟨⟨(some 19), none, (.mov (.t 3))⟩, 0, 0⟩,
    ⟨⟨(some 20), none, (.indexAddr none 3 (.t 18) (.t 19))⟩, 0, 0⟩,
    ⟨⟨(some 21), none, (.load (some 3) (.t 20))⟩, 0, 0⟩,
    ⟨⟨(some 22), none, (.mov (.t 0))⟩, 0, 0⟩,
    ⟨⟨(some 23), none, (.mov (.t 2))⟩, 0, 0⟩,
    ⟨⟨(some 24), none, (.indexAddr none 3 (.t 22) (.t 23))⟩, 0, 0⟩,
    ⟨⟨(some 25), none, (.load (some 3) (.t 24))⟩, 0, 0⟩,
    ⟨⟨(some 26), none, (.indexAddr none 3 (.t 14) (.t 15))⟩, 0, 0⟩,
    ⟨⟨none, none, (.store 3 (.t 26) (.t 21))⟩, 0, 1⟩,
    ⟨⟨(some 27), none, (.indexAddr none 3 (.t 16) (.t 17))⟩, 1, 1⟩,
    ⟨⟨none, none, (.store 3 (.t 27) (.t 25))⟩, 1, 2⟩])) (.reg [⟨(some 10), none, (.mov (.t 2))⟩,
    ⟨(some 11), none, (.bin .add (.t 10) (.c (.int .i64 1)))⟩,
    ⟨(some 12), none, (.mov (.t 3))⟩,
    ⟨(some 13), none, (.bin .sub (.t 12) (.c (.int .i64 1)))⟩,
    ⟨(some 2), none, (.mov (.t 11))⟩,
    ⟨(some 3), none, (.mov (.t 13))⟩])))
def s278 : SFn := ⟨[], (.seq (.reg [⟨(some 4), none, (.mov (.t 0))⟩,
    ⟨(some 5), none, (.len false (.t 4))⟩,
    ⟨(some 6), none, (.bin .sub (.t 5) (.c (.int .i64 1)))⟩,
    ⟨(some 2), none, (.mov (.c (.int .i64 0)))⟩,
    ⟨(some 3), none, (.mov (.t 6))⟩]) (.block 0 (.loop s278_l0)))⟩
/- slices.Clone[[]int,int] -/
def s279 : SFn := ⟨[.tmp 2], (.seq (.reg [⟨(some 2), none, (.mov (.c (.slice none 0 (.known 0))))⟩]) (.seq (.seq (.reg [⟨(some 3), none, (.mov (.t 0))⟩,
    ⟨(some 4), none, (.eq false .slice (.t 3) (.c (.slice none 0 (.known 0))))⟩]) (.cond (.t 4) (.seq (.reg [⟨(some 2), none, (.mov (.c (.slice none 0 (.known 0))))⟩]) .ret) .skip)) (.seq (.reg [⟨(some 5), none, (.buildSlice 0 [] [])⟩,
    ⟨(some 6), none, (.mov (.t 0))⟩,
    ⟨(some 7), none, (.append 1 8 (.t 5) (.t 6))⟩,
    ⟨(some 2), none, (.mov (.t 7))⟩]) .ret)))⟩
/- slices.insertionSortOrdered[string] -/
def s280_l0 : S := (.seq (.seq (.dreg false [⟨⟨(some 16), none, (.mov (.t 7))⟩, 0, 0⟩,
    ⟨⟨(some 17), none, (.mov (.t 1))⟩, 0, 0⟩,
    ⟨⟨(some 18), none, (.bin .gtr (.t 16) (.t 17))⟩, 0, 0⟩,
    ⟨⟨(some 19), none, (.mov (.t 18))⟩, 0, 0⟩,
    ⟨⟨(some 20), (some (19, true)), (.mov (.t 0))⟩, 0, 0⟩,
    ⟨⟨(some 21), (some (19, true)), (.mov (.t 7))⟩, 0, 0⟩,
    ⟨⟨(some 22), (some (19, true)), (.indexAddr none 1 (.t 20) (.t 21))⟩, 0, 0⟩,
    ⟨⟨(some 23), (some (19, true)), (.load none (.t 22))⟩, 0, 0⟩,
    ⟨⟨(some 24), (some (19, true)), (.mov (.t 0))⟩, 0, 0⟩,
    ⟨⟨(some 25), (some (19, true)), (.mov (.t 7))⟩, 0, 0⟩,
    ⟨⟨(some 26), (some (19, true)), (.bin .sub (.t 25) (.c (.int .i64 1)))⟩, 0, 0⟩,
    ⟨⟨(some 27), (some (19, true)), (.indexAddr none 1 (.t 24) (.t 26))⟩, 0, 0⟩,
    ⟨⟨(some 28), (some (19, true)), (.load none (.t 27))⟩, 0, 0⟩,
    ⟨⟨(some 29), (some (19, true)), (.call (.f 286) [(.t 23), (.t 28)])⟩, 0, 1⟩,
    ⟨⟨(some 30), none, (.pick (.t 19) (.t 29) (.c (.bool false)))⟩, 1, 1⟩]) (.cond (.t 30) .skip (.exit 2))) (.seq (.block 3 (.dreg false [⟨⟨(some 33), none, (.mov (.t 0))⟩, 0, 0⟩,
    ⟨⟨(some 34), none, (.mov (.t 7))⟩, 0, 0⟩,
    ⟨⟨(some 35), none, (.mov (.t 0))⟩, 0, 1⟩,
    ⟨⟨(some 36), none, (.mov (.t 7))⟩, 0, 1⟩,
    ⟨⟨(some 37), none, (.bin .sub (.t 36) (.c (.int .i64 1)))⟩, 0, 1⟩,
    ⟨⟨(some 38), none, (.mov (.t 0))⟩, 0, 0⟩,
    ⟨⟨(some 39), none, (.mov (.t 7))⟩, 0, 0⟩,
    ⟨⟨(some 40), none, (.bin .sub (.t 39) (.c (.int .i64 1)))⟩, 0, 0⟩,
    ⟨⟨(some 41), none, (.indexAddr none 1 (.t 38) (.t 40))⟩, 0, 0⟩,
    ⟨⟨(some 42), none, (.load none (.t 41))⟩, 0, 0⟩,
    ⟨⟨(some 43), none, (.mov (.t 0))⟩, 0, 0⟩,
    ⟨⟨(some 44), none, (.mov (.t 7))⟩, 0, 0⟩,
    ⟨⟨(some 45), none, (.indexAddr none 1 (.t 43) (.t 44))⟩, 0, 0⟩,
    ⟨⟨(some 46), none, (.load none (.t 45))⟩, 0, 0⟩,
    ⟨⟨(some 47), none, (.indexAddr none 1 (.t 33) (.t 34))⟩, 0, 0⟩,
    ⟨⟨none, none, (.store 1 (.t 47) (.t 42))⟩, 0, 1⟩,
    ⟨⟨(some 48), none, (.indexAddr none 1 (.t 35) (.t 37))⟩, 1, 1⟩,
    ⟨⟨none, none, (.store 1 (.t 48) (.t 46))⟩, 1, 2⟩])) (.reg [⟨(some 31), none, (.mov (.t 7))⟩,
    ⟨(some 32), none, (.bin .sub (.t 31) (.c (.int .i64 1)))⟩,
    ⟨(some 7), none, (.mov (.t 32))⟩])))
def s280_l1 : S := (.seq (.seq (.reg [⟨(some 10), none, (.mov (.t 6))⟩,
    ⟨(some 11), none, (.mov (.t 2))⟩,
    ⟨(some 12), none, (.bin .lss (.t 10) (.t 11))⟩]) (.cond (.t 12) .skip (.exit 0))) (.seq (.block 1 (.seq (.reg [⟨(some 15), none, (.mov (.t 6))⟩,
    ⟨(some 7), none, (.mov (.t 15))⟩]) (.block 2 (.loop s280_l0)))) (.reg [⟨(some 13), none, (.mov (.t 6))⟩,
    ⟨(some 14), none, (.bin .add (.t 13) (.c (.int .i64 1)))⟩,
    ⟨(some 6), none, (.mov (.t 14))⟩])))
def s280 : SFn := ⟨[], (.seq (.reg [⟨(some 8), none, (.mov (.t 1))⟩,
    ⟨(some 9), none, (.bin .add (.t 8) (.c (.int .i64 1)))⟩,
    ⟨(some 6), none, (.mov (.t 9))⟩]) (.block 0 (.loop s280_l1)))⟩
/- math/bits.Len64 -/
def s290 : SFn := ⟨[.tmp 2], (.seq (.reg [⟨(some 2), none, (.mov (.c (.int .i64 0)))⟩]) (.seq (.seq (.reg [⟨(some 3), none, (.mov (.t 0))⟩,
    ⟨(some 4), none, (.bin .geq (.t 3) (.c (.int .u64 4294967296)))⟩]) (.cond (.t 4) (.seq (.reg [⟨(some 5), none, (.mov (.t 0))⟩,
    ⟨(some 6), none, (.bin .shr (.t 5) (.c (.int .u64 32)))⟩,
    ⟨(some 0), none, (.mov (.t 6))⟩]) (.reg [⟨(some 2), none, (.mov (.c (.int .i64 32)))⟩])) .skip)) (.seq (.seq (.reg [⟨(some 7), none, (.mov (.t 0))⟩,
    ⟨(some 8), none, (.bin .geq (.t 7) (.c (.int .u64 65536)))⟩]) (.cond (.t 8) (.seq (.reg [⟨(some 9), none, (.mov (.t 0))⟩,
    ⟨(some 10), none, (.bin .shr (.t 9) (.c (.int .u64 16)))⟩,
    ⟨(some 0), none, (.mov (.t 10))⟩]) (.reg [⟨(some 11), none, (.mov (.t 2))⟩,
    ⟨(some 12), none, (.bin .add (.t 11) (.c (.int .i64 16)))⟩,
    ⟨(some 2), none, (.mov (.t 12))⟩])) .skip)) (.seq (.seq (.reg [⟨(some 13), none, (.mov (.t 0))⟩,
    ⟨(some 14), none, (.bin .geq (.t 13) (.c (.int .u64 256)))⟩]) (.cond (.t 14) (.seq (.reg [⟨(some 15), none, (.mov (.t 0))⟩,
    ⟨(some 16), none, (.bin .shr (.t 15) (.c (.int .u64 8)))⟩,
    ⟨(some 0), none, (.mov (.t 16))⟩]) (.reg [⟨(some 17), none, (.mov (.t 2))⟩,
    ⟨(some 18), none, (.bin .add (.t 17) (.c (.int .i64 8)))⟩,
    ⟨(some 2), none, (.mov (.t 18))⟩])) .skip)) (.seq (.reg [⟨(some 19), none, (.mov (.t 2))⟩,
    ⟨(some 20), none, (.mov (.t 0))⟩,
    ⟨(some 21), none, (.convInt .u8 (.t 20))⟩,
    ⟨(some 22), none, (.indexStr (.c (.str ⟨#[0, 1, 2, 2, 3, 3, 3, 3, 4, 4, 4, 4, 4, 4, 4, 4, 5, 5, 5, 5, 5, 5, 5, 5, 5, 5, 5, 5, 5, 5, 5, 5, 6, 6, 6, 6, 6, 6, 6, 6, 6, 6, 6, 6, 6, 6, 6, 6, 6, 6, 6, 6, 6, 6, 6, 6, 6, 6, 6, 6, 6, 6, 6, 6, 7, 7, 7, 7, 7, 7, 7, 7, 7, 7, 7, 7, 7, 7, 7, 7, 7, 7, 7, 7, 7, 7, 7, 7, 7, 7, 7, 7, 7, 7, 7, 7, 7, 7, 7, 7, 7, 7, 7, 7, 7, 7, 7, 7, 7, 7, 7, 7, 7, 7, 7, 7, 7, 7, 7, 7, 7, 7, 7, 7, 7, 7, 7, 7, 8, 8, 8, 8, 8, 8, 8, 8, 8, 8, 8, 8, 8, 8, 8, 8, 8, 8, 8, 8, 8, 8, 8, 8, 8, 8, 8, 8, 8, 8, 8, 8, 8, 8, 8, 8, 8, 8, 8, 8, 8, 8, 8, 8, 8, 8, 8, 8, 8, 8, 8, 8, 8, 8, 8, 8, 8, 8, 8, 8, 8, 8, 8, 8, 8, 8, 8, 8, 8, 8, 8, 8, 8, 8, 8, 8, 8, 8, 8, 8, 8, 8, 8, 8, 8, 8, 8, 8, 8, 8, 8, 8, 8, 8, 8, 8, 8, 8, 8, 8, 8, 8, 8, 8, 8, 8, 8, 8, 8, 8, 8, 8, 8, 8, 8, 8, 8, 8, 8, 8, 8, 8, 8, 8, 8, 8, 8, 8]⟩)) (.t 21))⟩,
    ⟨(some 23), none, (.convInt .i64 (.t 22))⟩,
    ⟨(some 24), none, (.bin .add (.t 19) (.t 23))⟩,
    ⟨(some 2), none, (.mov (.t 24))⟩]) .ret)))))⟩
/- slices.Contains[[]string,string] -/
def s291 : SFn := ⟨[.tmp 4], (.seq (.reg [⟨(some 4), none, (.mov (.c (.bool false)))⟩]) (.seq (.reg [⟨(some 5), none, (.mov (.t 0))⟩,
    ⟨(some 6), none, (.mov (.t 1))⟩,
    ⟨(some 7), none, (.call (.f 356) [(.t 5), (.t 6)])⟩,
    ⟨(some 8), none, (.bin .geq (.t 7) (.c (.int .i64 0)))⟩,
    ⟨(some 4), none, (.mov (.t 8))⟩]) .ret))⟩
/- (*moiety/tree.Tree).wrong -/
def s292 : SFn := ⟨[.tmp 6], (.seq (.reg [⟨(some 6), none, (.mov (.c (.int .i64 0)))⟩]) (.seq (.seq (.reg [⟨(some 7), none, (.mov (.t 1))⟩]) (.block 0 (.seq (.reg [⟨(some 9), none, (.bin .eql (.t 7) (.c (.int .i64 0)))⟩,
    ⟨(some 8), none, (.mov (.t 9))⟩]) (.cond (.t 8) (.seq (.reg [⟨(some 10), none, (.mov (.t 0))⟩,
    ⟨(some 11), none, (.mov (.t 2))⟩,
    ⟨(some 12), none, (.call (.f 357) [(.t 10), (.t 11)])⟩,
    ⟨(some 6), none, (.mov (.t 12))⟩]) .ret) (.seq (.reg [⟨(some 14), none, (.bin .eql (.t 7) (.c (.int .i64 1)))⟩,
    ⟨(some 13), none, (.mov (.t 14))⟩]) (.cond (.t 13) (.seq (.reg [⟨(some 15), none, (.mov (.t 0))⟩,
    ⟨(some 16), none, (.mov (.t 2))⟩,
    ⟨(some 17), none, (.call (.f 358) [(.t 15), (.t 16)])⟩,
    ⟨(some 6), none, (.mov (.t 17))⟩]) .ret) (.seq (.reg [⟨(some 19), none, (.bin .eql (.t 7) (.c (.int .i64 2)))⟩,
    ⟨(some 18), none, (.mov (.t 19))⟩]) (.cond (.t 18) (.seq (.reg [⟨(some 20), none, (.mov (.t 0))⟩,
    ⟨(some 21), none, (.mov (.t 2))⟩,
    ⟨(some 22), none, (.call (.f 359) [(.t 20), (.t 21)])⟩,
    ⟨(some 6), none, (.mov (.t 22))⟩]) .ret) (.seq (.reg [⟨(some 24), none, (.bin .eql (.t 7) (.c (.int .i64 3)))⟩,
    ⟨(some 23), none, (.mov (.t 24))⟩]) (.cond (.t 23) (.seq (.reg [⟨(some 25), none, (.mov (.t 0))⟩,
    ⟨(some 26), none, (.mov (.t 2))⟩,
    ⟨(some 27), none, (.call (.f 360) [(.t 25), (.t 26)])⟩,
    ⟨(some 6), none, (.mov (.t 27))⟩]) .ret) .skip)))))))))) (.seq (.reg [⟨(some 28), none, (.mov (.t 0))⟩,
    ⟨(some 29), none, (.mov (.t 2))⟩,
    ⟨(some 30), none, (.call (.f 361) [(.t 28), (.t 29)])⟩,
    ⟨(some 6), none, (.mov (.t 30))⟩]) .ret)))⟩
/- (*moiety/tree.Tree).walk -/
def s293_l0 : S := (.seq (.reg [⟨(some 12), none, (.bin .lss (.t 11) (.t 10))⟩]) (.seq (.cond (.t 12) .skip (.exit 0)) (.seq (.block 1 (.seq (.reg [⟨(some 13), none, (.mov (.t 11))⟩,
    ⟨(some 14), none, (.indexAddr none 2 (.t 9) (.t 11))⟩,
    ⟨(some 15), none, (.load (some 2) (.t 14))⟩,
    ⟨(some 4), none, (.new [(.str ⟨#[]⟩), (.int .i64 0)])⟩,
    ⟨(some 3), none, (.mov (.t 13))⟩,
    ⟨none, none, (.store 2 (.t 4) (.t 15))⟩]) (.seq (.reg [⟨(some 16), none, (.fieldAddr 1 (.t 4))⟩,
    ⟨(some 17), none, (.load none (.t 16))⟩,
    ⟨(some 18), none, (.bin .lss (.t 17) (.c (.int .i64 0)))⟩]) (.cond (.t 18) (.reg [⟨(some 19), none, (.load none (.t 2))⟩,
    ⟨(some 20), none, (.mov (.t 3))⟩,
    ⟨(some 21), none, (.call (.t 19) [(.t 20)])⟩]) .skip)))) (.reg [⟨(some 22), none, (.bin .add (.t 11) (.c (.int .i64 1)))⟩,
    ⟨(some 11), none, (.mov (.t 22))⟩]))))
def s293 : SFn := ⟨[], (.seq (.reg [⟨(some 1), none, (.box (.t 0))⟩]) (.seq (.reg [⟨(some 2), none, (.new [.nilFunc])⟩]) (.seq (.reg [⟨(some 5), none, (.makeFunc 362 [] [(.t 1), (.t 2)])⟩,
    ⟨none, none, (.store 1 (.t 2) (.t 5))⟩]) (.seq (.reg [⟨(some 6), none, (.load none (.t 1))⟩,
    ⟨(some 7), none, (.nilCheck (.t 6))⟩,
    ⟨(some 8), none, (.fieldAddr 0 (.t 7))⟩,
    ⟨(some 9), none, (.load none (.t 8))⟩,
    ⟨(some 10), none, (.len false (.t 9))⟩,
    ⟨(some 11), none, (.mov (.c (.int .i64 0)))⟩]) (.block 0 (.loop s293_l0))))))⟩
/- moiety/moietyref03.Name -/
def s294_l0 : S := (.seq (.seq (.reg [⟨(some 18), none, (.mov (.t 3))⟩,
    ⟨(some 19), none, (.mov (.t 0))⟩,
    ⟨(some 20), none, (.len true (.t 19))⟩,
    ⟨(some 21), none, (.bin .lss (.t 18) (.t 20))⟩]) (.cond (.t 21) .skip (.exit 0))) (.seq (.block 1 (.seq (.reg [⟨(some 24), none, (.mov (.t 0))⟩,
    ⟨(some 25), none, (.mov (.t 3))⟩,
    ⟨(some 26), none, (.indexStr (.t 24) (.t 25))⟩,
    ⟨(some 27), none, (.call (.f 363) [(.t 26)])⟩,
    ⟨(some 28), none, (.un .not (.t 27))⟩,
    ⟨(some 29), none, (.mov (.t 28))⟩,
    ⟨(some 30), (some (29, true)), (.mov (.t 0))⟩,
    ⟨(some 31), (some (29, true)), (.mov (.t 3))⟩,
    ⟨(some 32), (some (29, true)), (.indexStr (.t 30) (.t 31))⟩,
    ⟨(some 33), (some (29, true)), (.call (.f 364) [(.t 32)])⟩,
    ⟨(some 34), (some (29, true)), (.un .not (.t 33))⟩,
    ⟨(some 35), none, (.pick (.t 29) (.t 34) (.c (.bool false)))⟩,
    ⟨(some 36), none, (.mov (.t 35))⟩,
    ⟨(some 37), (some (36, true)), (.mov (.t 0))⟩,
    ⟨(some 38), (some (36, true)), (.mov (.t 3))⟩,
    ⟨(some 39), (some (36, true)), (.indexStr (.t 37) (.t 38))⟩,
    ⟨(some 40), (some (36, true)), (.bin .neq (.t 39) (.c (.int .u8 95)))⟩,
    ⟨(some 41), none, (.pick (.t 36) (.t 40) (.c (.bool false)))⟩]) (.cond (.t 41) (.seq (.reg [⟨(some 2), none, (.mov (.c (.bool false)))⟩]) .ret) .skip))) (.reg [⟨(some 22), none, (.mov (.t 3))⟩,
    ⟨(some 23), none, (.bin .add (.t 22) (.c (.int .i64 1)))⟩,
    ⟨(some 3), none, (.mov (.t 23))⟩])))
def s294 : SFn := ⟨[.tmp 2], (.seq (.reg [⟨(some 2), none, (.mov (.c (.bool false)))⟩]) (.seq (.seq (.reg [⟨(some 4), none, (.mov (.t 0))⟩,
    ⟨(some 5), none, (.len true (.t 4))⟩,
    ⟨(some 6), none, (.bin .lss (.t 5) (.c (.int .i64 1)))⟩,
    ⟨(some 7), none, (.mov (.t 6))⟩,
    ⟨(some 8), (some (7, false)), (.mov (.t 0))⟩,
    ⟨(some 9), (some (7, false)), (.len true (.t 8))⟩,
    ⟨(some 10), (some (7, false)), (.bin .gtr (.t 9) (.c (.int .i64 12)))⟩,
    ⟨(some 11), none, (.pick (.t 7) (.c (.bool true)) (.t 10))⟩,
    ⟨(some 12), none, (.mov (.t 11))⟩,
    ⟨(some 13), (some (12, false)), (.mov (.t 0))⟩,
    ⟨(some 14), (some (12, false)), (.indexStr (.t 13) (.c (.int .i64 0)))⟩,
    ⟨(some 15), (some (12, false)), (.call (.f 363) [(.t 14)])⟩,
    ⟨(some 16), (some (12, false)), (.un .not (.t 15))⟩,
    ⟨(some 17), none, (.pick (.t 12) (.c (.bool true)) (.t 16))⟩]) (.cond (.t 17) (.seq (.reg [⟨(some 2), none, (.mov (.c (.bool false)))⟩]) .ret) .skip)) (.seq (.seq (.reg [⟨(some 3), none, (.mov (.c (.int .i64 1)))⟩]) (.block 0 (.loop s294_l0))) (.seq (.reg [⟨(some 2), none, (.mov (.c (.bool true)))⟩]) .ret))))⟩
/- (*moiety/moietyref05.Tree).Find -/
def s295_l0 : S := (.seq (.seq (.reg [⟨(some 6), none, (.mov (.t 5))⟩,
    ⟨(some 7), none, (.mov (.t 0))⟩,
    ⟨(some 8), none, (.nilCheck (.t 7))⟩,
    ⟨(some 9), none, (.fieldAddr 0 (.t 8))⟩,
    ⟨(some 10), none, (.load none (.t 9))⟩,
    ⟨(some 11), none, (.len false (.t 10))⟩,
    ⟨(some 12), none, (.bin .lss (.t 6) (.t 11))⟩]) (.cond (.t 12) .skip (.exit 0))) (.seq (.block 1 (.seq (.reg [⟨(some 15), none, (.mov (.t 0))⟩,
    ⟨(some 16), none, (.nilCheck (.t 15))⟩,
    ⟨(some 17), none, (.fieldAddr 0 (.t 16))⟩,
    ⟨(some 18), none, (.load none (.t 17))⟩,
    ⟨(some 19), none, (.mov (.t 5))⟩,
    ⟨(some 20), none, (.indexAddr none 2 (.t 18) (.t 19))⟩,
    ⟨(some 21), none, (.fieldAddr 0 (.t 20))⟩,
    ⟨(some 22), none, (.load none (.t 21))⟩,
    ⟨(some 23), none, (.mov (.t 1))⟩,
    ⟨(some 24), none, (.bin .eql (.t 22) (.t 23))⟩]) (.cond (.t 24) (.seq (.reg [⟨(some 25), none, (.mov (.t 5))⟩,
    ⟨(some 4), none, (.mov (.t 25))⟩]) .ret) .skip))) (.reg [⟨(some 13), none, (.mov (.t 5))⟩,
    ⟨(some 14), none, (.bin .add (.t 13) (.c (.int .i64 1)))⟩,
    ⟨(some 5), none, (.mov (.t 14))⟩])))
def s295 : SFn := ⟨[.tmp 4], (.seq (.reg [⟨(some 4), none, (.mov (.c (.int .i64 0)))⟩]) (.seq (.seq (.reg [⟨(some 5), none, (.mov (.c (.int .i64 0)))⟩]) (.block 0 (.loop s295_l0))) (.seq (.reg [⟨(some 4), none, (.mov (.c (.int .i64 (-1))))⟩]) .ret)))⟩
/- (*moiety/moietyref05.Tree).Depth -/
def s296 : SFn := ⟨[.tmp 4], (.seq (.reg [⟨(some 4), none, (.mov (.c (.int .i64 0)))⟩]) (.seq (.reg [⟨(some 6), none, (.mov (.t 0))⟩,
    ⟨(some 7), none, (.mov (.t 1))⟩,
    ⟨(some 8), none, (.call (.f 365) [(.t 6), (.t 7)])⟩,
    ⟨(some 5), none, (.mov (.t 8))⟩]) (.seq (.seq (.reg [⟨(some 9), none, (.mov (.t 5))⟩,
    ⟨(some 10), none, (.len false (.t 9))⟩,
    ⟨(some 11), none, (.bin .eql (.t 10) (.c (.int .i64 0)))⟩]) (.cond (.t 11) (.seq (.reg [⟨(some 4), none, (.mov (.c (.int .i64 0)))⟩]) .ret) .skip)) (.seq (.reg [⟨(some 12), none, (.mov (.t 5))⟩,
    ⟨(some 13), none, (.len false (.t 12))⟩,
    ⟨(some 14), none, (.bin .sub (.t 13) (.c (.int .i64 1)))⟩,
    ⟨(some 4), none, (.mov (.t 14))⟩]) .ret))))⟩
theorem low209 : lowerFn Tryz.prog Tryz.f209 = some s209 := by kernel_rfl
theorem low210 : lowerFn Tryz.prog Tryz.f210 = some s210 := by kernel_rfl
theorem low211 : lowerFn Tryz.prog Tryz.f211 = some s211 := by kernel_rfl
theorem low212 : lowerFn Tryz.prog Tryz.f212 = some s212 := by kernel_rfl
theorem low213 : lowerFn Tryz.prog Tryz.f213 = some s213 := by kernel_rfl
theorem low214 : lowerFn Tryz.prog Tryz.f214 = some s214 := by kernel_rfl
theorem low215 : lowerFn Tryz.prog Tryz.f215 = some s215 := by kernel_rfl
theorem low216 : lowerFn Tryz.prog Tryz.f216 = some s216 := by kernel_rfl
theorem low217 : lowerFn Tryz.prog Tryz.f217 = some s217 := by kernel_rfl
theorem low218 : lowerFn Tryz.prog Tryz.f218 = some s218 := by kernel_rfl
theorem low219 : lowerFn Tryz.prog Tryz.f219 = some s219 := by kernel_rfl
theorem low220 : lowerFn Tryz.prog Tryz.f220 = some s220 := by kernel_rfl
theorem low221 : lowerFn Tryz.prog Tryz.f221 = some s221 := by kernel_rfl
theorem low222 : lowerFn Tryz.prog Tryz.f222 = some s222 := by kernel_rfl
theorem low223 : lowerFn Tryz.prog Tryz.f223 = some s223 := by kernel_rfl
theorem low224 : lowerFn Tryz.prog Tryz.f224 = some s224 := by kernel_rfl
theorem low225 : lowerFn Tryz.prog Tryz.f225 = some s225 := by kernel_rfl
theorem low226 : lowerFn Tryz.prog Tryz.f226 = some s226 := by kernel_rfl
theorem low227 : lowerFn Tryz.prog Tryz.f227 = some s227 := by kernel_rfl
theorem low229 : lowerFn Tryz.prog Tryz.f229 = some s229 := by kernel_rfl
theorem low231 : lowerFn Tryz.prog Tryz.f231 = some s231 := by kernel_rfl
theorem low232 : lowerFn Tryz.prog Tryz.f232 = some s232 := by kernel_rfl
theorem low233 : lowerFn Tryz.prog Tryz.f233 = some s233 := by kernel_rfl
theorem low234 : lowerFn Tryz.prog Tryz.f234 = some s234 := by kernel_rfl
theorem low235 : lowerFn Tryz.prog Tryz.f235 = some s235 := by kernel_rfl
theorem low236 : lowerFn Tryz.prog Tryz.f236 = some s236 := by kernel_rfl
theorem low237 : lowerFn Tryz.prog Tryz.f237 = some s237 := by kernel_rfl
theorem low239 : lowerFn Tryz.prog Tryz.f239 = some s239 := by kernel_rfl
theorem low240 : lowerFn Tryz.prog Tryz.f240 = some s240 := by kernel_rfl
theorem low241 : lowerFn Tryz.prog Tryz.f241 = some s241 := by kernel_rfl
theorem low242 : lowerFn Tryz.prog Tryz.f242 = some s242 := by kernel_rfl
theorem low246 : lowerFn Tryz.prog Tryz.f246 = some s246 := by kernel_rfl
theorem low254 : lowerFn Tryz.prog Tryz.f254 = some s254 := by kernel_rfl
theorem low255 : lowerFn Tryz.prog Tryz.f255 = some s255 := by kernel_rfl
theorem low262 : lowerFn Tryz.prog Tryz.f262 = some s262 := by kernel_rfl
theorem low263 : lowerFn Tryz.prog Tryz.f263 = some s263 := by kernel_rfl
theorem low264 : lowerFn Tryz.prog Tryz.f264 = some s264 := by kernel_rfl
theorem low265 : lowerFn Tryz.prog Tryz.f265 = some s265 := by kernel_rfl
theorem low266 : lowerFn Tryz.prog Tryz.f266 = some s266 := by kernel_rfl
theorem low267 : lowerFn Tryz.prog Tryz.f267 = some s267 := by kernel_rfl
theorem low268 : lowerFn Tryz.prog Tryz.f268 = some s268 := by kernel_rfl
theorem low269 : lowerFn Tryz.prog Tryz.f269 = some s269 := by kernel_rfl
theorem low270 : lowerFn Tryz.prog Tryz.f270 = some s270 := by kernel_rfl
theorem low271 : lowerFn Tryz.prog Tryz.f271 = some s271 := by kernel_rfl
theorem low272 : lowerFn Tryz.prog Tryz.f272 = some s272 := by kernel_rfl
theorem low273 : lowerFn Tryz.prog Tryz.f273 = some s273 := by kernel_rfl
theorem low274 : lowerFn Tryz.prog Tryz.f274 = some s274 := by kernel_rfl
theorem low275 : lowerFn Tryz.prog Tryz.f275 = some s275 := by kernel_rfl
theorem low276 : lowerFn Tryz.prog Tryz.f276 = some s276 := by kernel_rfl
theorem low277 : lowerFn Tryz.prog Tryz.f277 = some s277 := by kernel_rfl
theorem low278 : lowerFn Tryz.prog Tryz.f278 = some s278 := by kernel_rfl
theorem low279 : lowerFn Tryz.prog Tryz.f279 = some s279 := by kernel_rfl
theorem low280 : lowerFn Tryz.prog Tryz.f280 = some s280 := by kernel_rfl
theorem low290 : lowerFn Tryz.prog Tryz.f290 = some s290 := by kernel_rfl
theorem low291 : lowerFn Tryz.prog Tryz.f291 = some s291 := by kernel_rfl
theorem low292 : lowerFn Tryz.prog Tryz.f292 = some s292 := by kernel_rfl
theorem low293 : lowerFn Tryz.prog Tryz.f293 = some s293 := by kernel_rfl
theorem low294 : lowerFn Tryz.prog Tryz.f294 = some s294 := by kernel_rfl
theorem low295 : lowerFn Tryz.prog Tryz.f295 = some s295 := by kernel_rfl
theorem low296 : lowerFn Tryz.prog Tryz.f296 = some s296 := by kernel_rfl
theorem ok209 : DefOk Tryz.prog 209 (.text s209) := ⟨Tryz.call209, _, Tryz.func209, low209⟩
theorem ok210 : DefOk Tryz.prog 210 (.text s210) := ⟨Tryz.call210, _, Tryz.func210, low210⟩
theorem ok211 : DefOk Tryz.prog 211 (.text s211) := ⟨Tryz.call211, _, Tryz.func211, low211⟩
theorem ok212 : DefOk Tryz.prog 212 (.text s212) := ⟨Tryz.call212, _, Tryz.func212, low212⟩
theorem ok213 : DefOk Tryz.prog 213 (.text s213) := ⟨Tryz.call213, _, Tryz.func213, low213⟩
theorem ok214 : DefOk Tryz.prog 214 (.text s214) := ⟨Tryz.call214, _, Tryz.func214, low214⟩
theorem ok215 : DefOk Tryz.prog 215 (.text s215) := ⟨Tryz.call215, _, Tryz.func215, low215⟩
theorem ok216 : DefOk Tryz.prog 216 (.text s216) := ⟨Tryz.call216, _, Tryz.func216, low216⟩
theorem ok217 : DefOk Tryz.prog 217 (.text s217) := ⟨Tryz.call217, _, Tryz.func217, low217⟩
theorem ok218 : DefOk Tryz.prog 218 (.text s218) := ⟨Tryz.call218, _, Tryz.func218, low218⟩
theorem ok219 : DefOk Tryz.prog 219 (.text s219) := ⟨Tryz.call219, _, Tryz.func219, low219⟩
theorem ok220 : DefOk Tryz.prog 220 (.text s220) := ⟨Tryz.call220, _, Tryz.func220, low220⟩
theorem ok221 : DefOk Tryz.prog 221 (.text s221) := ⟨Tryz.call221, _, Tryz.func221, low221⟩
theorem ok222 : DefOk Tryz.prog 222 (.text s222) := ⟨Tryz.call222, _, Tryz.func222, low222⟩
theorem ok223 : DefOk Tryz.prog 223 (.text s223) := ⟨Tryz.call223, _, Tryz.func223, low223⟩
theorem ok224 : DefOk Tryz.prog 224 (.text s224) := ⟨Tryz.call224, _, Tryz.func224, low224⟩
theorem ok225 : DefOk Tryz.prog 225 (.text s225) := ⟨Tryz.call225, _, Tryz.func225, low225⟩
theorem ok226 : DefOk Tryz.prog 226 (.text s226) := ⟨Tryz.call226, _, Tryz.func226, low226⟩
theorem ok227 : DefOk Tryz.prog 227 (.text s227) := ⟨Tryz.call227, _, Tryz.func227, low227⟩
theorem ok229 : DefOk Tryz.prog 229 (.text s229) := ⟨Tryz.call229, _, Tryz.func229, low229⟩
theorem ok231 : DefOk Tryz.prog 231 (.text s231) := ⟨Tryz.call231, _, Tryz.func231, low231⟩
theorem ok232 : DefOk Tryz.prog 232 (.text s232) := ⟨Tryz.call232, _, Tryz.func232, low232⟩
theorem ok233 : DefOk Tryz.prog 233 (.text s233) := ⟨Tryz.call233, _, Tryz.func233, low233⟩
theorem ok234 : DefOk Tryz.prog 234 (.text s234) := ⟨Tryz.call234, _, Tryz.func234, low234⟩
theorem ok235 : DefOk Tryz.prog 235 (.text s235) := ⟨Tryz.call235, _, Tryz.func235, low235⟩
theorem ok236 : DefOk Tryz.prog 236 (.text s236) := ⟨Tryz.call236, _, Tryz.func236, low236⟩
theorem ok237 : DefOk Tryz.prog 237 (.text s237) := ⟨Tryz.call237, _, Tryz.func237, low237⟩
theorem ok239 : DefOk Tryz.prog 239 (.text s239) := ⟨Tryz.call239, _, Tryz.func239, low239⟩
theorem ok240 : DefOk Tryz.prog 240 (.text s240) := ⟨Tryz.call240, _, Tryz.func240, low240⟩
theorem ok241 : DefOk Tryz.prog 241 (.text s241) := ⟨Tryz.call241, _, Tryz.func241, low241⟩
theorem ok242 : DefOk Tryz.prog 242 (.text s242) := ⟨Tryz.call242, _, Tryz.func242, low242⟩
theorem ok246 : DefOk Tryz.prog 246 (.text s246) := ⟨Tryz.call246, _, Tryz.func246, low246⟩
theorem ok254 : DefOk Tryz.prog 254 (.text s254) := ⟨Tryz.call254, _, Tryz.func254, low254⟩
theorem ok255 : DefOk Tryz.prog 255 (.text s255) := ⟨Tryz.call255, _, Tryz.func255, low255⟩
theorem ok262 : DefOk Tryz.prog 262 (.text s262) := ⟨Tryz.call262, _, Tryz.func262, low262⟩
theorem ok263 : DefOk Tryz.prog 263 (.text s263) := ⟨Tryz.call263, _, Tryz.func263, low263⟩
theorem ok264 : DefOk Tryz.prog 264 (.text s264) := ⟨Tryz.call264, _, Tryz.func264, low264⟩
theorem ok265 : DefOk Tryz.prog 265 (.text s265) := ⟨Tryz.call265, _, Tryz.func265, low265⟩
theorem ok266 : DefOk Tryz.prog 266 (.text s266) := ⟨Tryz.call266, _, Tryz.func266, low266⟩
theorem ok267 : DefOk Tryz.prog 267 (.text s267) := ⟨Tryz.call267, _, Tryz.func267, low267⟩
theorem ok268 : DefOk Tryz.prog 268 (.text s268) := ⟨Tryz.call268, _, Tryz.func268, low268⟩
theorem ok269 : DefOk Tryz.prog 269 (.text s269) := ⟨Tryz.call269, _, Tryz.func269, low269⟩
theorem ok270 : DefOk Tryz.prog 270 (.text s270) := ⟨Tryz.call270, _, Tryz.func270, low270⟩
theorem ok271 : DefOk Tryz.prog 271 (.text s271) := ⟨Tryz.call271, _, Tryz.func271, low271⟩
theorem ok272 : DefOk Tryz.prog 272 (.text s272) := ⟨Tryz.call272, _, Tryz.func272, low272⟩
theorem ok273 : DefOk Tryz.prog 273 (.text s273) := ⟨Tryz.call273, _, Tryz.func273, low273⟩
theorem ok274 : DefOk Tryz.prog 274 (.text s274) := ⟨Tryz.call274, _, Tryz.func274, low274⟩
theorem ok275 : DefOk Tryz.prog 275 (.text s275) := ⟨Tryz.call275, _, Tryz.func275, low275⟩
theorem ok276 : DefOk Tryz.prog 276 (.text s276) := ⟨Tryz.call276, _, Tryz.func276, low276⟩
theorem ok277 : DefOk Tryz.prog 277 (.text s277) := ⟨Tryz.call277, _, Tryz.func277, low277⟩
theorem ok278 : DefOk Tryz.prog 278 (.text s278) := ⟨Tryz.call278, _, Tryz.func278, low278⟩
theorem ok279 : DefOk Tryz.prog 279 (.text s279) := ⟨Tryz.call279, _, Tryz.func279, low279⟩
theorem ok280 : DefOk Tryz.prog 280 (.text s280) := ⟨Tryz.call280, _, Tryz.func280, low280⟩
theorem ok290 : DefOk Tryz.prog 290 (.text s290) := ⟨Tryz.call290, _, Tryz.func290, low290⟩
theorem ok291 : DefOk Tryz.prog 291 (.text s291) := ⟨Tryz.call291, _, Tryz.func291, low291⟩
theorem ok292 : DefOk Tryz.prog 292 (.text s292) := ⟨Tryz.call292, _, Tryz.func292, low292⟩
theorem ok293 : DefOk Tryz.prog 293 (.text s293) := ⟨Tryz.call293, _, Tryz.func293, low293⟩
theorem ok294 : DefOk Tryz.prog 294 (.text s294) := ⟨Tryz.call294, _, Tryz.func294, low294⟩
theorem ok295 : DefOk Tryz.prog 295 (.text s295) := ⟨Tryz.call295, _, Tryz.func295, low295⟩
theorem ok296 : DefOk Tryz.prog 296 (.text s296) := ⟨Tryz.call296, _, Tryz.func296, low296⟩
def TFd0 : FuncId → Option Def
  | 209 => some (.text s209)
  | 210 => some (.text s210)
  | 211 => some (.text s211)
  | 212 => some (.text s212)
  | 213 => some (.text s213)
  | 214 => some (.text s214)
  | 215 => some (.text s215)
  | 216 => some (.text s216)
  | 217 => some (.text s217)
  | 218 => some (.text s218)
  | 219 => some (.text s219)
  | 220 => some (.text s220)
  | _ => none
theorem TFd0_ok : ∀ f d, TFd0 f = some d → DefOk Tryz.prog f d := by
  intro f d h
  unfold TFd0 at h
  split at h
  · cases h; exact ok209
  · cases h; exact ok210
  · cases h; exact ok211
  · cases h; exact ok212
  · cases h; exact ok213
  · cases h; exact ok214
  · cases h; exact ok215
  · cases h; exact ok216
  · cases h; exact ok217
  · cases h; exact ok218
  · cases h; exact ok219
  · cases h; exact ok220
  · cases h
def TFd1 : FuncId → Option Def
  | 221 => some (.text s221)
  | 222 => some (.text s222)
  | 223 => some (.text s223)
  | 224 => some (.text s224)
  | 225 => some (.text s225)
  | 226 => some (.text s226)
  | 227 => some (.text s227)
  | 229 => some (.text s229)
  | 231 => some (.text s231)
  | 232 => some (.text s232)
  | 233 => some (.text s233)
  | 234 => some (.text s234)
  | _ => none
theorem TFd1_ok : ∀ f d, TFd1 f = some d → DefOk Tryz.prog f d := by
  intro f d h
  unfold TFd1 at h
  split at h
  · cases h; exact ok221
  · cases h; exact ok222
  · cases h; exact ok223
  · cases h; exact ok224
  · cases h; exact ok225
  · cases h; exact ok226
  · cases h; exact ok227
  · cases h; exact ok229
  · cases h; exact ok231
  · cases h; exact ok232
  · cases h; exact ok233
  · cases h; exact ok234
  · cases h
def TFd2 : FuncId → Option Def
  | 235 => some (.text s235)
  | 236 => some (.text s236)
  | 237 => some (.text s237)
  | 239 => some (.text s239)
  | 240 => some (.text s240)
  | 241 => some (.text s241)
  | 242 => some (.text s242)
  | 246 => some (.text s246)
  | 254 => some (.text s254)
  | 255 => some (.text s255)
  | 262 => some (.text s262)
  | 263 => some (.text s263)
  | _ => none
theorem TFd2_ok : ∀ f d, TFd2 f = some d → DefOk Tryz.prog f d := by
  intro f d h
  unfold TFd2 at h
  split at h
  · cases h; exact ok235
  · cases h; exact ok236
  · cases h; exact ok237
  · cases h; exact ok239
  · cases h; exact ok240
  · cases h; exact ok241
  · cases h; exact ok242
  · cases h; exact ok246
  · cases h; exact ok254
  · cases h; exact ok255
  · cases h; exact ok262
  · cases h; exact ok263
  · cases h
def TFd3 : FuncId → Option Def
  | 264 => some (.text s264)
  | 265 => some (.text s265)
  | 266 => some (.text s266)
  | 267 => some (.text s267)
  | 268 => some (.text s268)
  | 269 => some (.text s269)
  | 270 => some (.text s270)
  | 271 => some (.text s271)
  | 272 => some (.text s272)
  | 273 => some (.text s273)
  | 274 => some (.text s274)
  | 275 => some (.text s275)
  | _ => none
theorem TFd3_ok : ∀ f d, TFd3 f = some d → DefOk Tryz.prog f d := by
  intro f d h
  unfold TFd3 at h
  split at h
  · cases h; exact ok264
  · cases h; exact ok265
  · cases h; exact ok266
  · cases h; exact ok267
  · cases h; exact ok268
  · cases h; exact ok269
  · cases h; exact ok270
  · cases h; exact ok271
  · cases h; exact ok272
  · cases h; exact ok273
  · cases h; exact ok274
  · cases h; exact ok275
  · cases h
def TFd4 : FuncId → Option Def
  | 276 => some (.text s276)
  | 277 => some (.text s277)
  | 278 => some (.text s278)
  | 279 => some (.text s279)
  | 280 => some (.text s280)
  | 290 => some (.text s290)
  | 291 => some (.text s291)
  | 292 => some (.text s292)
  | 293 => some (.text s293)
  | 294 => some (.text s294)
  | 295 => some (.text s295)
  | 296 => some (.text s296)
  | _ => none
theorem TFd4_ok : ∀ f d, TFd4 f = some d → DefOk Tryz.prog f d := by
  intro f d h
  unfold TFd4 at h
  split at h
  · cases h; exact ok276
  · cases h; exact ok277
  · cases h; exact ok278
  · cases h; exact ok279
  · cases h; exact ok280
  · cases h; exact ok290
  · cases h; exact ok291
  · cases h; exact ok292
  · cases h; exact ok293
  · cases h; exact ok294
  · cases h; exact ok295
  · cases h; exact ok296
  · cases h
def TFd (f : FuncId) : Option Def := cond (Nat.ble f 234) (cond (Nat.ble f 220) (TFd0 f) (TFd1 f)) (cond (Nat.ble f 263) (TFd2 f) (cond (Nat.ble f 275) (TFd3 f) (TFd4 f)))
theorem TFd_ok : ∀ f d, TFd f = some d → DefOk Tryz.prog f d := by
  intro f d h
  unfold TFd at h
  cases hb234 : Nat.ble f 234 with
  | true =>
    rw [hb234, cond_true] at h
    cases hb220 : Nat.ble f 220 with
    | true =>
      rw [hb220, cond_true] at h
      exact TFd0_ok f d h
    | false =>
      rw [hb220, cond_false] at h
      exact TFd1_ok f d h
  | false =>
    rw [hb234, cond_false] at h
    cases hb263 : Nat.ble f 263 with
    | true =>
      rw [hb263, cond_true] at h
      exact TFd2_ok f d h
    | false =>
      rw [hb263, cond_false] at h
      cases hb275 : Nat.ble f 275 with
      | true =>
        rw [hb275, cond_true] at h
        exact TFd3_ok f d h
      | false =>
        rw [hb275, cond_false] at h
        exact TFd4_ok f d h
end Go.Proofs.YtbdigabjcjdfcaaGreat
