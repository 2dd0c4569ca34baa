/-
  A part of the machine, and of what is walked.
-/
import Derived.Test.YtdfjedkpclebgaaDoorP12
section
set_option linter.unusedVariables false
namespace Go.Nx
open Go.RowKit Go.Proofs

def m111 : MFn := ⟨4, 84, [.tmp 8], (.seq (.reg [⟨(some 8), .mv (.k (.int .i64 0)), none⟩] none)
 (.seq (.reg [⟨(some 11), .mv (.t 0), none⟩, ⟨(some 12), .mv (.t 1), none⟩, ⟨(some 13), .mv (.t 0), none⟩, ⟨(some 14), .mv (.t 3), none⟩, ⟨(some 15), .mv (.t 0), none⟩, ⟨(some 16), .mv (.t 3), none⟩, ⟨(some 17), .ixs 1 (.t 15) (.t 16), none⟩, ⟨(some 18), .ld none (.t 17), none⟩, ⟨(some 19), .mv (.t 0), none⟩, ⟨(some 20), .mv (.t 1), none⟩, ⟨(some 21), .ixs 1 (.t 19) (.t 20), none⟩, ⟨(some 22), .ld none (.t 21), none⟩, ⟨(some 23), .ixs 1 (.t 11) (.t 12), none⟩, ⟨none, .st 1 (.t 23) (.t 18), none⟩, ⟨(some 24), .ixs 1 (.t 13) (.t 14), none⟩, ⟨none, .st 1 (.t 24) (.t 22), none⟩] (some [(6, 10), (7, 10), (6, 11), (7, 11)]))
 (.seq (.reg [⟨(some 25), .mv (.t 1), none⟩, ⟨(some 26), .bin .add (.t 25) (.k (.int .i64 1)), none⟩, ⟨(some 27), .mv (.t 2), none⟩, ⟨(some 28), .bin .sub (.t 27) (.k (.int .i64 1)), none⟩, ⟨(some 9), .mv (.t 26), none⟩, ⟨(some 10), .mv (.t 28), none⟩] none)
 (.seq (.block 0 (.loop (.block 1 (.seq (.block 2 (.loop (.seq (.seq (.reg [⟨(some 29), .mv (.t 9), none⟩, ⟨(some 30), .mv (.t 10), none⟩, ⟨(some 31), .bin .leq (.t 29) (.t 30), none⟩, ⟨(some 32), .mv (.t 31), none⟩, ⟨(some 33), .mv (.t 0), (some (32, true))⟩, ⟨(some 34), .mv (.t 1), (some (32, true))⟩, ⟨(some 35), .ixs 1 (.t 33) (.t 34), (some (32, true))⟩, ⟨(some 36), .ld none (.t 35), (some (32, true))⟩, ⟨(some 37), .mv (.t 0), (some (32, true))⟩, ⟨(some 38), .mv (.t 9), (some (32, true))⟩, ⟨(some 39), .ixs 1 (.t 37) (.t 38), (some (32, true))⟩, ⟨(some 40), .ld none (.t 39), (some (32, true))⟩, ⟨(some 41), .call 105 (.k (.fn (.func 110) [] [])) [(.t 36), (.t 40)], (some (32, true))⟩, ⟨(some 42), .un .not (.t 41), (some (32, true))⟩, ⟨(some 43), .pick (.t 32) (.t 42) (.k (.bool false)), none⟩] (some [(6, 10), (7, 10), (6, 11), (7, 11)]))
 (.cond (.t 43) .skip (.exit 2)))
 (.block 3 (.reg [⟨(some 44), .mv (.t 9), none⟩, ⟨(some 45), .bin .add (.t 44) (.k (.int .i64 1)), none⟩, ⟨(some 9), .mv (.t 45), none⟩] none)))))
 (.seq (.block 4 (.loop (.seq (.seq (.reg [⟨(some 46), .mv (.t 9), none⟩, ⟨(some 47), .mv (.t 10), none⟩, ⟨(some 48), .bin .leq (.t 46) (.t 47), none⟩, ⟨(some 49), .mv (.t 48), none⟩, ⟨(some 50), .mv (.t 0), (some (49, true))⟩, ⟨(some 51), .mv (.t 1), (some (49, true))⟩, ⟨(some 52), .ixs 1 (.t 50) (.t 51), (some (49, true))⟩, ⟨(some 53), .ld none (.t 52), (some (49, true))⟩, ⟨(some 54), .mv (.t 0), (some (49, true))⟩, ⟨(some 55), .mv (.t 10), (some (49, true))⟩, ⟨(some 56), .ixs 1 (.t 54) (.t 55), (some (49, true))⟩, ⟨(some 57), .ld none (.t 56), (some (49, true))⟩, ⟨(some 58), .call 122 (.k (.fn (.func 110) [] [])) [(.t 53), (.t 57)], (some (49, true))⟩, ⟨(some 59), .pick (.t 49) (.t 58) (.k (.bool false)), none⟩] (some [(6, 10), (7, 10), (6, 11), (7, 11)]))
 (.cond (.t 59) .skip (.exit 4)))
 (.block 5 (.reg [⟨(some 60), .mv (.t 10), none⟩, ⟨(some 61), .bin .sub (.t 60) (.k (.int .i64 1)), none⟩, ⟨(some 10), .mv (.t 61), none⟩] none)))))
 (.seq (.seq (.reg [⟨(some 62), .mv (.t 9), none⟩, ⟨(some 63), .mv (.t 10), none⟩, ⟨(some 64), .bin .gtr (.t 62) (.t 63), none⟩] none)
 (.cond (.t 64) (.exit 0) .skip))
 (.seq (.reg [⟨(some 65), .mv (.t 0), none⟩, ⟨(some 66), .mv (.t 9), none⟩, ⟨(some 67), .mv (.t 0), none⟩, ⟨(some 68), .mv (.t 10), none⟩, ⟨(some 69), .mv (.t 0), none⟩, ⟨(some 70), .mv (.t 10), none⟩, ⟨(some 71), .ixs 1 (.t 69) (.t 70), none⟩, ⟨(some 72), .ld none (.t 71), none⟩, ⟨(some 73), .mv (.t 0), none⟩, ⟨(some 74), .mv (.t 9), none⟩, ⟨(some 75), .ixs 1 (.t 73) (.t 74), none⟩, ⟨(some 76), .ld none (.t 75), none⟩, ⟨(some 77), .ixs 1 (.t 65) (.t 66), none⟩, ⟨none, .st 1 (.t 77) (.t 72), none⟩, ⟨(some 78), .ixs 1 (.t 67) (.t 68), none⟩, ⟨none, .st 1 (.t 78) (.t 76), none⟩] (some [(6, 10), (7, 10), (6, 11), (7, 11)]))
 (.seq (.reg [⟨(some 79), .mv (.t 9), none⟩, ⟨(some 80), .bin .add (.t 79) (.k (.int .i64 1)), none⟩, ⟨(some 9), .mv (.t 80), none⟩] none)
 (.reg [⟨(some 81), .mv (.t 10), none⟩, ⟨(some 82), .bin .sub (.t 81) (.k (.int .i64 1)), none⟩, ⟨(some 10), .mv (.t 82), none⟩] none)))))))))
 (.seq (.reg [⟨(some 83), .mv (.t 9), none⟩, ⟨(some 8), .mv (.t 83), none⟩] none)
 .ret)))))⟩
def m112 : MFn := ⟨4, 168, [.tmp 8, .tmp 9], (.seq (.reg [⟨(some 8), .mv (.k (.int .i64 0)), none⟩, ⟨(some 9), .mv (.k (.bool false)), none⟩] none)
 (.seq (.reg [⟨(some 12), .mv (.t 0), none⟩, ⟨(some 13), .mv (.t 1), none⟩, ⟨(some 14), .mv (.t 0), none⟩, ⟨(some 15), .mv (.t 3), none⟩, ⟨(some 16), .mv (.t 0), none⟩, ⟨(some 17), .mv (.t 3), none⟩, ⟨(some 18), .ixs 1 (.t 16) (.t 17), none⟩, ⟨(some 19), .ld none (.t 18), none⟩, ⟨(some 20), .mv (.t 0), none⟩, ⟨(some 21), .mv (.t 1), none⟩, ⟨(some 22), .ixs 1 (.t 20) (.t 21), none⟩, ⟨(some 23), .ld none (.t 22), none⟩, ⟨(some 24), .ixs 1 (.t 12) (.t 13), none⟩, ⟨none, .st 1 (.t 24) (.t 19), none⟩, ⟨(some 25), .ixs 1 (.t 14) (.t 15), none⟩, ⟨none, .st 1 (.t 25) (.t 23), none⟩] (some [(6, 10), (7, 10), (6, 11), (7, 11)]))
 (.seq (.reg [⟨(some 26), .mv (.t 1), none⟩, ⟨(some 27), .bin .add (.t 26) (.k (.int .i64 1)), none⟩, ⟨(some 28), .mv (.t 2), none⟩, ⟨(some 29), .bin .sub (.t 28) (.k (.int .i64 1)), none⟩, ⟨(some 10), .mv (.t 27), none⟩, ⟨(some 11), .mv (.t 29), none⟩] none)
 (.seq (.block 0 (.loop (.seq (.seq (.reg [⟨(some 30), .mv (.t 10), none⟩, ⟨(some 31), .mv (.t 11), none⟩, ⟨(some 32), .bin .leq (.t 30) (.t 31), none⟩, ⟨(some 33), .mv (.t 32), none⟩, ⟨(some 34), .mv (.t 0), (some (33, true))⟩, ⟨(some 35), .mv (.t 10), (some (33, true))⟩, ⟨(some 36), .ixs 1 (.t 34) (.t 35), (some (33, true))⟩, ⟨(some 37), .ld none (.t 36), (some (33, true))⟩, ⟨(some 38), .mv (.t 0), (some (33, true))⟩, ⟨(some 39), .mv (.t 1), (some (33, true))⟩, ⟨(some 40), .ixs 1 (.t 38) (.t 39), (some (33, true))⟩, ⟨(some 41), .ld none (.t 40), (some (33, true))⟩, ⟨(some 42), .call 106 (.k (.fn (.func 110) [] [])) [(.t 37), (.t 41)], (some (33, true))⟩, ⟨(some 43), .pick (.t 33) (.t 42) (.k (.bool false)), none⟩] (some [(6, 10), (7, 10), (6, 11), (7, 11)]))
 (.cond (.t 43) .skip (.exit 0)))
 (.block 1 (.reg [⟨(some 44), .mv (.t 10), none⟩, ⟨(some 45), .bin .add (.t 44) (.k (.int .i64 1)), none⟩, ⟨(some 10), .mv (.t 45), none⟩] none)))))
 (.seq (.block 2 (.loop (.seq (.seq (.reg [⟨(some 46), .mv (.t 10), none⟩, ⟨(some 47), .mv (.t 11), none⟩, ⟨(some 48), .bin .leq (.t 46) (.t 47), none⟩, ⟨(some 49), .mv (.t 48), none⟩, ⟨(some 50), .mv (.t 0), (some (49, true))⟩, ⟨(some 51), .mv (.t 11), (some (49, true))⟩, ⟨(some 52), .ixs 1 (.t 50) (.t 51), (some (49, true))⟩, ⟨(some 53), .ld none (.t 52), (some (49, true))⟩, ⟨(some 54), .mv (.t 0), (some (49, true))⟩, ⟨(some 55), .mv (.t 1), (some (49, true))⟩, ⟨(some 56), .ixs 1 (.t 54) (.t 55), (some (49, true))⟩, ⟨(some 57), .ld none (.t 56), (some (49, true))⟩, ⟨(some 58), .call 122 (.k (.fn (.func 110) [] [])) [(.t 53), (.t 57)], (some (49, true))⟩, ⟨(some 59), .un .not (.t 58), (some (49, true))⟩, ⟨(some 60), .pick (.t 49) (.t 59) (.k (.bool false)), none⟩] (some [(6, 10), (7, 10), (6, 11), (7, 11)]))
 (.cond (.t 60) .skip (.exit 2)))
 (.block 3 (.reg [⟨(some 61), .mv (.t 11), none⟩, ⟨(some 62), .bin .sub (.t 61) (.k (.int .i64 1)), none⟩, ⟨(some 11), .mv (.t 62), none⟩] none)))))
 (.seq (.seq (.reg [⟨(some 63), .mv (.t 10), none⟩, ⟨(some 64), .mv (.t 11), none⟩, ⟨(some 65), .bin .gtr (.t 63) (.t 64), none⟩] none)
 (.cond (.t 65) (.seq (.reg [⟨(some 66), .mv (.t 0), none⟩, ⟨(some 67), .mv (.t 11), none⟩, ⟨(some 68), .mv (.t 0), none⟩, ⟨(some 69), .mv (.t 1), none⟩, ⟨(some 70), .mv (.t 0), none⟩, ⟨(some 71), .mv (.t 1), none⟩, ⟨(some 72), .ixs 1 (.t 70) (.t 71), none⟩, ⟨(some 73), .ld none (.t 72), none⟩, ⟨(some 74), .mv (.t 0), none⟩, ⟨(some 75), .mv (.t 11), none⟩, ⟨(some 76), .ixs 1 (.t 74) (.t 75), none⟩, ⟨(some 77), .ld none (.t 76), none⟩, ⟨(some 78), .ixs 1 (.t 66) (.t 67), none⟩, ⟨none, .st 1 (.t 78) (.t 73), none⟩, ⟨(some 79), .ixs 1 (.t 68) (.t 69), none⟩, ⟨none, .st 1 (.t 79) (.t 77), none⟩] (some [(6, 10), (7, 10), (6, 11), (7, 11)]))
 (.seq (.reg [⟨(some 80), .mv (.t 11), none⟩, ⟨(some 8), .mv (.t 80), none⟩, ⟨(some 9), .mv (.k (.bool true)), none⟩] none)
 .ret)) .skip))
 (.seq (.reg [⟨(some 81), .mv (.t 0), none⟩, ⟨(some 82), .mv (.t 10), none⟩, ⟨(some 83), .mv (.t 0), none⟩, ⟨(some 84), .mv (.t 11), none⟩, ⟨(some 85), .mv (.t 0), none⟩, ⟨(some 86), .mv (.t 11), none⟩, ⟨(some 87), .ixs 1 (.t 85) (.t 86), none⟩, ⟨(some 88), .ld none (.t 87), none⟩, ⟨(some 89), .mv (.t 0), none⟩, ⟨(some 90), .mv (.t 10), none⟩, ⟨(some 91), .ixs 1 (.t 89) (.t 90), none⟩, ⟨(some 92), .ld none (.t 91), none⟩, ⟨(some 93), .ixs 1 (.t 81) (.t 82), none⟩, ⟨none, .st 1 (.t 93) (.t 88), none⟩, ⟨(some 94), .ixs 1 (.t 83) (.t 84), none⟩, ⟨none, .st 1 (.t 94) (.t 92), none⟩] (some [(6, 10), (7, 10), (6, 11), (7, 11)]))
 (.seq (.reg [⟨(some 95), .mv (.t 10), none⟩, ⟨(some 96), .bin .add (.t 95) (.k (.int .i64 1)), none⟩, ⟨(some 10), .mv (.t 96), none⟩] none)
 (.seq (.reg [⟨(some 97), .mv (.t 11), none⟩, ⟨(some 98), .bin .sub (.t 97) (.k (.int .i64 1)), none⟩, ⟨(some 11), .mv (.t 98), none⟩] none)
 (.seq (.block 4 (.loop (.block 5 (.seq (.block 6 (.loop (.seq (.seq (.reg [⟨(some 99), .mv (.t 10), none⟩, ⟨(some 100), .mv (.t 11), none⟩, ⟨(some 101), .bin .leq (.t 99) (.t 100), none⟩, ⟨(some 102), .mv (.t 101), none⟩, ⟨(some 103), .mv (.t 0), (some (102, true))⟩, ⟨(some 104), .mv (.t 10), (some (102, true))⟩, ⟨(some 105), .ixs 1 (.t 103) (.t 104), (some (102, true))⟩, ⟨(some 106), .ld none (.t 105), (some (102, true))⟩, ⟨(some 107), .mv (.t 0), (some (102, true))⟩, ⟨(some 108), .mv (.t 1), (some (102, true))⟩, ⟨(some 109), .ixs 1 (.t 107) (.t 108), (some (102, true))⟩, ⟨(some 110), .ld none (.t 109), (some (102, true))⟩, ⟨(some 111), .call 175 (.k (.fn (.func 110) [] [])) [(.t 106), (.t 110)], (some (102, true))⟩, ⟨(some 112), .pick (.t 102) (.t 111) (.k (.bool false)), none⟩] (some [(6, 10), (7, 10), (6, 11), (7, 11)]))
 (.cond (.t 112) .skip (.exit 6)))
 (.block 7 (.reg [⟨(some 113), .mv (.t 10), none⟩, ⟨(some 114), .bin .add (.t 113) (.k (.int .i64 1)), none⟩, ⟨(some 10), .mv (.t 114), none⟩] none)))))
 (.seq (.block 8 (.loop (.seq (.seq (.reg [⟨(some 115), .mv (.t 10), none⟩, ⟨(some 116), .mv (.t 11), none⟩, ⟨(some 117), .bin .leq (.t 115) (.t 116), none⟩, ⟨(some 118), .mv (.t 117), none⟩, ⟨(some 119), .mv (.t 0), (some (118, true))⟩, ⟨(some 120), .mv (.t 11), (some (118, true))⟩, ⟨(some 121), .ixs 1 (.t 119) (.t 120), (some (118, true))⟩, ⟨(some 122), .ld none (.t 121), (some (118, true))⟩, ⟨(some 123), .mv (.t 0), (some (118, true))⟩, ⟨(some 124), .mv (.t 1), (some (118, true))⟩, ⟨(some 125), .ixs 1 (.t 123) (.t 124), (some (118, true))⟩, ⟨(some 126), .ld none (.t 125), (some (118, true))⟩, ⟨(some 127), .call 191 (.k (.fn (.func 110) [] [])) [(.t 122), (.t 126)], (some (118, true))⟩, ⟨(some 128), .un .not (.t 127), (some (118, true))⟩, ⟨(some 129), .pick (.t 118) (.t 128) (.k (.bool false)), none⟩] (some [(6, 10), (7, 10), (6, 11), (7, 11)]))
 (.cond (.t 129) .skip (.exit 8)))
 (.block 9 (.reg [⟨(some 130), .mv (.t 11), none⟩, ⟨(some 131), .bin .sub (.t 130) (.k (.int .i64 1)), none⟩, ⟨(some 11), .mv (.t 131), none⟩] none)))))
 (.seq (.seq (.reg [⟨(some 132), .mv (.t 10), none⟩, ⟨(some 133), .mv (.t 11), none⟩, ⟨(some 134), .bin .gtr (.t 132) (.t 133), none⟩] none)
 (.cond (.t 134) (.exit 4) .skip))
 (.seq (.reg [⟨(some 135), .mv (.t 0), none⟩, ⟨(some 136), .mv (.t 10), none⟩, ⟨(some 137), .mv (.t 0), none⟩, ⟨(some 138), .mv (.t 11), none⟩, ⟨(some 139), .mv (.t 0), none⟩, ⟨(some 140), .mv (.t 11), none⟩, ⟨(some 141), .ixs 1 (.t 139) (.t 140), none⟩, ⟨(some 142), .ld none (.t 141), none⟩, ⟨(some 143), .mv (.t 0), none⟩, ⟨(some 144), .mv (.t 10), none⟩, ⟨(some 145), .ixs 1 (.t 143) (.t 144), none⟩, ⟨(some 146), .ld none (.t 145), none⟩, ⟨(some 147), .ixs 1 (.t 135) (.t 136), none⟩, ⟨none, .st 1 (.t 147) (.t 142), none⟩, ⟨(some 148), .ixs 1 (.t 137) (.t 138), none⟩, ⟨none, .st 1 (.t 148) (.t 146), none⟩] (some [(6, 10), (7, 10), (6, 11), (7, 11)]))
 (.seq (.reg [⟨(some 149), .mv (.t 10), none⟩, ⟨(some 150), .bin .add (.t 149) (.k (.int .i64 1)), none⟩, ⟨(some 10), .mv (.t 150), none⟩] none)
 (.reg [⟨(some 151), .mv (.t 11), none⟩, ⟨(some 152), .bin .sub (.t 151) (.k (.int .i64 1)), none⟩, ⟨(some 11), .mv (.t 152), none⟩] none)))))))))
 (.seq (.reg [⟨(some 153), .mv (.t 0), none⟩, ⟨(some 154), .mv (.t 11), none⟩, ⟨(some 155), .mv (.t 0), none⟩, ⟨(some 156), .mv (.t 1), none⟩, ⟨(some 157), .mv (.t 0), none⟩, ⟨(some 158), .mv (.t 1), none⟩, ⟨(some 159), .ixs 1 (.t 157) (.t 158), none⟩, ⟨(some 160), .ld none (.t 159), none⟩, ⟨(some 161), .mv (.t 0), none⟩, ⟨(some 162), .mv (.t 11), none⟩, ⟨(some 163), .ixs 1 (.t 161) (.t 162), none⟩, ⟨(some 164), .ld none (.t 163), none⟩, ⟨(some 165), .ixs 1 (.t 153) (.t 154), none⟩, ⟨none, .st 1 (.t 165) (.t 160), none⟩, ⟨(some 166), .ixs 1 (.t 155) (.t 156), none⟩, ⟨none, .st 1 (.t 166) (.t 164), none⟩] (some [(6, 10), (7, 10), (6, 11), (7, 11)]))
 (.seq (.reg [⟨(some 167), .mv (.t 11), none⟩, ⟨(some 8), .mv (.t 167), none⟩, ⟨(some 9), .mv (.k (.bool false)), none⟩] none)
 .ret))))))))))))⟩
def m113 : MFn := ⟨1, 19, [.tmp 2], (.seq (.reg [⟨(some 2), .mv (.k (.int .i64 0)), none⟩] none)
 (.seq (.seq (.reg [⟨(some 3), .mv (.t 0), none⟩, ⟨(some 4), .bin .geq (.t 3) (.k (.int .u32 65536)), none⟩] none)
 (.cond (.t 4) (.seq (.reg [⟨(some 5), .mv (.t 0), none⟩, ⟨(some 6), .bin .shr (.t 5) (.k (.int .u64 16)), none⟩, ⟨(some 0), .mv (.t 6), none⟩] none)
 (.reg [⟨(some 2), .mv (.k (.int .i64 16)), none⟩] none)) .skip))
 (.seq (.seq (.reg [⟨(some 7), .mv (.t 0), none⟩, ⟨(some 8), .bin .geq (.t 7) (.k (.int .u32 256)), none⟩] none)
 (.cond (.t 8) (.seq (.reg [⟨(some 9), .mv (.t 0), none⟩, ⟨(some 10), .bin .shr (.t 9) (.k (.int .u64 8)), none⟩, ⟨(some 0), .mv (.t 10), none⟩] none)
 (.reg [⟨(some 11), .mv (.t 2), none⟩, ⟨(some 12), .bin .add (.t 11) (.k (.int .i64 8)), none⟩, ⟨(some 2), .mv (.t 12), none⟩] none)) .skip))
 (.seq (.reg [⟨(some 13), .mv (.t 2), none⟩, ⟨(some 14), .mv (.t 0), none⟩, ⟨(some 15), .conv .u8 (.t 14), none⟩, ⟨(some 16), .ixstr (.k (.str ⟨#[0, 1, 2, 2, 3, 3, 3, 3, 4, 4, 4, 4, 4, 4, 4, 4, 5, 5, 5, 5, 5, 5, 5, 5, 5, 5, 5, 5, 5, 5, 5, 5, 6, 6, 6, 6, 6, 6, 6, 6, 6, 6, 6, 6, 6, 6, 6, 6, 6, 6, 6, 6, 6, 6, 6, 6, 6, 6, 6, 6, 6, 6, 6, 6, 7, 7, 7, 7, 7, 7, 7, 7, 7, 7, 7, 7, 7, 7, 7, 7, 7, 7, 7, 7, 7, 7, 7, 7, 7, 7, 7, 7, 7, 7, 7, 7, 7, 7, 7, 7, 7, 7, 7, 7, 7, 7, 7, 7, 7, 7, 7, 7, 7, 7, 7, 7, 7, 7, 7, 7, 7, 7, 7, 7, 7, 7, 7, 7, 8, 8, 8, 8, 8, 8, 8, 8, 8, 8, 8, 8, 8, 8, 8, 8, 8, 8, 8, 8, 8, 8, 8, 8, 8, 8, 8, 8, 8, 8, 8, 8, 8, 8, 8, 8, 8, 8, 8, 8, 8, 8, 8, 8, 8, 8, 8, 8, 8, 8, 8, 8, 8, 8, 8, 8, 8, 8, 8, 8, 8, 8, 8, 8, 8, 8, 8, 8, 8, 8, 8, 8, 8, 8, 8, 8, 8, 8, 8, 8, 8, 8, 8, 8, 8, 8, 8, 8, 8, 8, 8, 8, 8, 8, 8, 8, 8, 8, 8, 8, 8, 8, 8, 8, 8, 8, 8, 8, 8, 8, 8, 8, 8, 8, 8, 8, 8, 8, 8, 8, 8, 8, 8, 8, 8, 8, 8, 8]⟩)) (.t 15), none⟩, ⟨(some 17), .conv .i64 (.t 16), none⟩, ⟨(some 18), .bin .add (.t 13) (.t 17), none⟩, ⟨(some 2), .mv (.t 18), none⟩] none)
 .ret))))⟩
def m114 : MFn := ⟨1, 25, [.tmp 2], (.seq (.reg [⟨(some 2), .mv (.k (.int .i64 0)), none⟩] none)
 (.seq (.seq (.reg [⟨(some 3), .mv (.t 0), none⟩, ⟨(some 4), .bin .geq (.t 3) (.k (.int .u64 4294967296)), none⟩] none)
 (.cond (.t 4) (.seq (.reg [⟨(some 5), .mv (.t 0), none⟩, ⟨(some 6), .bin .shr (.t 5) (.k (.int .u64 32)), none⟩, ⟨(some 0), .mv (.t 6), none⟩] none)
 (.reg [⟨(some 2), .mv (.k (.int .i64 32)), none⟩] none)) .skip))
 (.seq (.seq (.reg [⟨(some 7), .mv (.t 0), none⟩, ⟨(some 8), .bin .geq (.t 7) (.k (.int .u64 65536)), none⟩] none)
 (.cond (.t 8) (.seq (.reg [⟨(some 9), .mv (.t 0), none⟩, ⟨(some 10), .bin .shr (.t 9) (.k (.int .u64 16)), none⟩, ⟨(some 0), .mv (.t 10), none⟩] none)
 (.reg [⟨(some 11), .mv (.t 2), none⟩, ⟨(some 12), .bin .add (.t 11) (.k (.int .i64 16)), none⟩, ⟨(some 2), .mv (.t 12), none⟩] none)) .skip))
 (.seq (.seq (.reg [⟨(some 13), .mv (.t 0), none⟩, ⟨(some 14), .bin .geq (.t 13) (.k (.int .u64 256)), none⟩] none)
 (.cond (.t 14) (.seq (.reg [⟨(some 15), .mv (.t 0), none⟩, ⟨(some 16), .bin .shr (.t 15) (.k (.int .u64 8)), none⟩, ⟨(some 0), .mv (.t 16), none⟩] none)
 (.reg [⟨(some 17), .mv (.t 2), none⟩, ⟨(some 18), .bin .add (.t 17) (.k (.int .i64 8)), none⟩, ⟨(some 2), .mv (.t 18), none⟩] none)) .skip))
 (.seq (.reg [⟨(some 19), .mv (.t 2), none⟩, ⟨(some 20), .mv (.t 0), none⟩, ⟨(some 21), .conv .u8 (.t 20), none⟩, ⟨(some 22), .ixstr (.k (.str ⟨#[0, 1, 2, 2, 3, 3, 3, 3, 4, 4, 4, 4, 4, 4, 4, 4, 5, 5, 5, 5, 5, 5, 5, 5, 5, 5, 5, 5, 5, 5, 5, 5, 6, 6, 6, 6, 6, 6, 6, 6, 6, 6, 6, 6, 6, 6, 6, 6, 6, 6, 6, 6, 6, 6, 6, 6, 6, 6, 6, 6, 6, 6, 6, 6, 7, 7, 7, 7, 7, 7, 7, 7, 7, 7, 7, 7, 7, 7, 7, 7, 7, 7, 7, 7, 7, 7, 7, 7, 7, 7, 7, 7, 7, 7, 7, 7, 7, 7, 7, 7, 7, 7, 7, 7, 7, 7, 7, 7, 7, 7, 7, 7, 7, 7, 7, 7, 7, 7, 7, 7, 7, 7, 7, 7, 7, 7, 7, 7, 8, 8, 8, 8, 8, 8, 8, 8, 8, 8, 8, 8, 8, 8, 8, 8, 8, 8, 8, 8, 8, 8, 8, 8, 8, 8, 8, 8, 8, 8, 8, 8, 8, 8, 8, 8, 8, 8, 8, 8, 8, 8, 8, 8, 8, 8, 8, 8, 8, 8, 8, 8, 8, 8, 8, 8, 8, 8, 8, 8, 8, 8, 8, 8, 8, 8, 8, 8, 8, 8, 8, 8, 8, 8, 8, 8, 8, 8, 8, 8, 8, 8, 8, 8, 8, 8, 8, 8, 8, 8, 8, 8, 8, 8, 8, 8, 8, 8, 8, 8, 8, 8, 8, 8, 8, 8, 8, 8, 8, 8, 8, 8, 8, 8, 8, 8, 8, 8, 8, 8, 8, 8, 8, 8, 8, 8, 8, 8]⟩)) (.t 21), none⟩, ⟨(some 23), .conv .i64 (.t 22), none⟩, ⟨(some 24), .bin .add (.t 19) (.t 23), none⟩, ⟨(some 2), .mv (.t 24), none⟩] none)
 .ret)))))⟩
def m115 : MFn := ⟨1, 10, [.tmp 2], (.seq (.reg [⟨(some 2), .mv (.k (.int .i64 0)), none⟩] none)
 (.seq (.seq (.reg [⟨(some 3), .mv (.t 0), none⟩, ⟨(some 4), .stop, none⟩] none)
 (.block 0 (.loop (.seq (.reg [⟨(some 5), .stop, none⟩, ⟨(some 6), .ext (.t 5) 0, none⟩] none)
 (.seq (.cond (.t 6) .skip (.exit 0))
 (.block 1 (.reg [⟨(some 7), .mv (.t 2), none⟩, ⟨(some 8), .bin .add (.t 7) (.k (.int .i64 1)), none⟩, ⟨(some 2), .mv (.t 8), none⟩] none)))))))
 (.seq (.reg [⟨(some 9), .mv (.t 2), none⟩, ⟨(some 2), .mv (.t 9), none⟩] none)
 .ret)))⟩
def m116 : MFn := ⟨1, 19, [.tmp 2, .tmp 3], (.seq (.reg [⟨(some 2), .mv (.k (.int .i32 0)), none⟩, ⟨(some 3), .mv (.k (.int .i64 0)), none⟩] none)
 (.seq (.seq (.reg [⟨(some 4), .mv (.t 0), none⟩, ⟨(some 5), .bin .neq (.t 4) (.k (.str ⟨#[]⟩)), none⟩, ⟨(some 6), .mv (.t 5), none⟩, ⟨(some 7), .mv (.t 0), (some (6, true))⟩, ⟨(some 8), .ixstr (.t 7) (.k (.int .i64 0)), (some (6, true))⟩, ⟨(some 9), .bin .lss (.t 8) (.k (.int .u8 128)), (some (6, true))⟩, ⟨(some 10), .pick (.t 6) (.t 9) (.k (.bool false)), none⟩] none)
 (.cond (.t 10) (.seq (.reg [⟨(some 11), .mv (.t 0), none⟩, ⟨(some 12), .ixstr (.t 11) (.k (.int .i64 0)), none⟩, ⟨(some 13), .conv .i32 (.t 12), none⟩, ⟨(some 2), .mv (.t 13), none⟩, ⟨(some 3), .mv (.k (.int .i64 1)), none⟩] none)
 .ret) (.reg [⟨(some 15), .mv (.t 0), none⟩, ⟨(some 16), .call 80 (.k (.fn (.func 136) [] [])) [(.t 15)], none⟩, ⟨(some 14), .mv (.t 16), none⟩, ⟨(some 17), .ext (.t 14) 0, none⟩, ⟨(some 18), .ext (.t 14) 1, none⟩, ⟨(some 2), .mv (.t 17), none⟩, ⟨(some 3), .mv (.t 18), none⟩] none)))
 .ret))⟩
def m118 : MFn := ⟨2, 143, [.tmp 4], (.seq (.reg [⟨(some 4), .mv (.k (.int .i64 0)), none⟩] none)
 (.seq (.reg [⟨(some 14), .mv (.t 1), none⟩, ⟨(some 15), .lens (.t 14), none⟩, ⟨(some 5), .mv (.t 15), none⟩] none)
 (.seq (.block 0 (.seq (.reg [⟨(some 17), .mv (.t 5), none⟩, ⟨(some 18), .bin .eql (.t 17) (.k (.int .i64 0)), none⟩, ⟨(some 19), .mv (.t 18), none⟩, ⟨(some 20), .mv (.t 1), (some (19, false))⟩, ⟨(some 21), .mv (.t 0), (some (19, false))⟩, ⟨(some 22), .bin .eql (.t 20) (.t 21), (some (19, false))⟩, ⟨(some 23), .pick (.t 19) (.k (.bool true)) (.t 22), none⟩, ⟨(some 16), .mv (.t 23), none⟩] none)
 (.cond (.t 16) (.seq (.reg [⟨(some 4), .mv (.k (.int .i64 0)), none⟩] none)
 .ret) (.seq (.reg [⟨(some 25), .mv (.t 5), none⟩, ⟨(some 26), .bin .eql (.t 25) (.k (.int .i64 1)), none⟩, ⟨(some 24), .mv (.t 26), none⟩] none)
 (.cond (.t 24) (.seq (.reg [⟨(some 27), .mv (.t 0), none⟩, ⟨(some 28), .mv (.t 1), none⟩, ⟨(some 29), .ixstr (.t 28) (.k (.int .i64 0)), none⟩, ⟨(some 30), .call 94 (.k (.fn (.func 137) [] [])) [(.t 27), (.t 29)], none⟩, ⟨(some 4), .mv (.t 30), none⟩] none)
 .ret) (.seq (.reg [⟨(some 32), .mv (.t 5), none⟩, ⟨(some 33), .mv (.t 0), none⟩, ⟨(some 34), .lens (.t 33), none⟩, ⟨(some 35), .bin .geq (.t 32) (.t 34), none⟩, ⟨(some 31), .mv (.t 35), none⟩] none)
 (.cond (.t 31) (.seq (.reg [⟨(some 4), .mv (.k (.int .i64 (-1))), none⟩] none)
 .ret) (.seq (.reg [⟨(some 37), .mv (.t 5), none⟩, ⟨(some 38), .ld none (.g 1), none⟩, ⟨(some 39), .bin .leq (.t 37) (.t 38), none⟩, ⟨(some 40), .mv (.t 39), none⟩, ⟨(some 41), .mv (.t 0), (some (40, true))⟩, ⟨(some 42), .lens (.t 41), (some (40, true))⟩, ⟨(some 43), .bin .leq (.t 42) (.k (.int .i64 64)), (some (40, true))⟩, ⟨(some 44), .pick (.t 40) (.t 43) (.k (.bool false)), none⟩, ⟨(some 36), .mv (.t 44), none⟩] none)
 (.cond (.t 36) (.seq (.reg [⟨(some 45), .mv (.t 0), none⟩, ⟨(some 46), .mv (.t 1), none⟩, ⟨(some 47), .call 111 (.k (.fn (.func 138) [] [])) [(.t 45), (.t 46)], none⟩, ⟨(some 4), .mv (.t 47), none⟩] none)
 .ret) .skip)))))))))
 (.seq (.reg [⟨(some 48), .mv (.t 1), none⟩, ⟨(some 49), .ixstr (.t 48) (.k (.int .i64 0)), none⟩, ⟨(some 6), .mv (.t 49), none⟩] none)
 (.seq (.reg [⟨(some 50), .mv (.t 1), none⟩, ⟨(some 51), .ixstr (.t 50) (.k (.int .i64 1)), none⟩, ⟨(some 7), .mv (.t 51), none⟩] none)
 (.seq (.reg [⟨(some 8), .mv (.k (.int .i64 0)), none⟩] none)
 (.seq (.reg [⟨(some 52), .mv (.t 0), none⟩, ⟨(some 53), .lens (.t 52), none⟩, ⟨(some 54), .mv (.t 5), none⟩, ⟨(some 55), .bin .sub (.t 53) (.t 54), none⟩, ⟨(some 56), .bin .add (.t 55) (.k (.int .i64 1)), none⟩, ⟨(some 9), .mv (.t 56), none⟩] none)
 (.seq (.reg [⟨(some 10), .mv (.k (.int .i64 0)), none⟩] none)
 (.seq (.block 1 (.loop (.seq (.seq (.reg [⟨(some 57), .mv (.t 8), none⟩, ⟨(some 58), .mv (.t 9), none⟩, ⟨(some 59), .bin .lss (.t 57) (.t 58), none⟩] none)
 (.cond (.t 59) .skip (.exit 1)))
 (.block 2 (.seq (.seq (.reg [⟨(some 60), .mv (.t 0), none⟩, ⟨(some 61), .mv (.t 8), none⟩, ⟨(some 62), .ixstr (.t 60) (.t 61), none⟩, ⟨(some 63), .mv (.t 6), none⟩, ⟨(some 64), .bin .neq (.t 62) (.t 63), none⟩] none)
 (.cond (.t 64) (.seq (.reg [⟨(some 65), .mv (.t 0), none⟩, ⟨(some 66), .mv (.t 8), none⟩, ⟨(some 67), .bin .add (.t 66) (.k (.int .i64 1)), none⟩, ⟨(some 68), .mv (.t 9), none⟩, ⟨(some 69), .slstr (.t 65) (some (.t 67)) (some (.t 68)), none⟩, ⟨(some 70), .mv (.t 6), none⟩, ⟨(some 71), .call 135 (.k (.fn (.func 137) [] [])) [(.t 69), (.t 70)], none⟩, ⟨(some 11), .mv (.t 71), none⟩] none)
 (.seq (.seq (.reg [⟨(some 72), .mv (.t 11), none⟩, ⟨(some 73), .bin .lss (.t 72) (.k (.int .i64 0)), none⟩] none)
 (.cond (.t 73) (.seq (.reg [⟨(some 4), .mv (.k (.int .i64 (-1))), none⟩] none)
 .ret) .skip))
 (.reg [⟨(some 74), .mv (.t 8), none⟩, ⟨(some 75), .mv (.t 11), none⟩, ⟨(some 76), .bin .add (.t 75) (.k (.int .i64 1)), none⟩, ⟨(some 77), .bin .add (.t 74) (.t 76), none⟩, ⟨(some 8), .mv (.t 77), none⟩] none))) .skip))
 (.seq (.seq (.reg [⟨(some 78), .mv (.t 0), none⟩, ⟨(some 79), .mv (.t 8), none⟩, ⟨(some 80), .bin .add (.t 79) (.k (.int .i64 1)), none⟩, ⟨(some 81), .ixstr (.t 78) (.t 80), none⟩, ⟨(some 82), .mv (.t 7), none⟩, ⟨(some 83), .bin .eql (.t 81) (.t 82), none⟩, ⟨(some 84), .mv (.t 83), none⟩, ⟨(some 85), .mv (.t 0), (some (84, true))⟩, ⟨(some 86), .mv (.t 8), (some (84, true))⟩, ⟨(some 87), .mv (.t 8), (some (84, true))⟩, ⟨(some 88), .mv (.t 5), (some (84, true))⟩, ⟨(some 89), .bin .add (.t 87) (.t 88), (some (84, true))⟩, ⟨(some 90), .slstr (.t 85) (some (.t 86)) (some (.t 89)), (some (84, true))⟩, ⟨(some 91), .mv (.t 1), (some (84, true))⟩, ⟨(some 92), .bin .eql (.t 90) (.t 91), (some (84, true))⟩, ⟨(some 93), .pick (.t 84) (.t 92) (.k (.bool false)), none⟩] none)
 (.cond (.t 93) (.seq (.reg [⟨(some 94), .mv (.t 8), none⟩, ⟨(some 4), .mv (.t 94), none⟩] none)
 .ret) .skip))
 (.seq (.reg [⟨(some 95), .mv (.t 8), none⟩, ⟨(some 96), .bin .add (.t 95) (.k (.int .i64 1)), none⟩, ⟨(some 8), .mv (.t 96), none⟩] none)
 (.seq (.reg [⟨(some 97), .mv (.t 10), none⟩, ⟨(some 98), .bin .add (.t 97) (.k (.int .i64 1)), none⟩, ⟨(some 10), .mv (.t 98), none⟩] none)
 (.seq (.reg [⟨(some 99), .mv (.t 5), none⟩, ⟨(some 100), .ld none (.g 1), none⟩, ⟨(some 101), .bin .leq (.t 99) (.t 100), none⟩, ⟨(some 102), .mv (.t 101), none⟩, ⟨(some 103), .mv (.t 10), (some (102, true))⟩, ⟨(some 104), .mv (.t 8), (some (102, true))⟩, ⟨(some 105), .call 169 (.k (.fn (.func 139) [] [])) [(.t 104)], (some (102, true))⟩, ⟨(some 106), .bin .gtr (.t 103) (.t 105), (some (102, true))⟩, ⟨(some 107), .pick (.t 102) (.t 106) (.k (.bool false)), none⟩] none)
 (.cond (.t 107) (.seq (.reg [⟨(some 108), .mv (.t 0), none⟩, ⟨(some 109), .mv (.t 8), none⟩, ⟨(some 110), .slstr (.t 108) (some (.t 109)) none, none⟩, ⟨(some 111), .mv (.t 1), none⟩, ⟨(some 112), .call 176 (.k (.fn (.func 138) [] [])) [(.t 110), (.t 111)], none⟩, ⟨(some 12), .mv (.t 112), none⟩] none)
 (.seq (.seq (.reg [⟨(some 113), .mv (.t 12), none⟩, ⟨(some 114), .bin .geq (.t 113) (.k (.int .i64 0)), none⟩] none)
 (.cond (.t 114) (.seq (.reg [⟨(some 115), .mv (.t 12), none⟩, ⟨(some 116), .mv (.t 8), none⟩, ⟨(some 117), .bin .add (.t 115) (.t 116), none⟩, ⟨(some 4), .mv (.t 117), none⟩] none)
 .ret) .skip))
 (.seq (.reg [⟨(some 4), .mv (.k (.int .i64 (-1))), none⟩] none)
 .ret))) (.seq (.reg [⟨(some 118), .mv (.t 5), none⟩, ⟨(some 119), .ld none (.g 1), none⟩, ⟨(some 120), .bin .gtr (.t 118) (.t 119), none⟩, ⟨(some 121), .mv (.t 120), none⟩, ⟨(some 122), .mv (.t 10), (some (121, true))⟩, ⟨(some 123), .mv (.t 8), (some (121, true))⟩, ⟨(some 124), .bin .shr (.t 123) (.k (.int .u64 4)), (some (121, true))⟩, ⟨(some 125), .bin .add (.k (.int .i64 4)) (.t 124), (some (121, true))⟩, ⟨(some 126), .bin .geq (.t 122) (.t 125), (some (121, true))⟩, ⟨(some 127), .pick (.t 121) (.t 126) (.k (.bool false)), none⟩, ⟨(some 128), .mv (.t 127), none⟩, ⟨(some 129), .mv (.t 8), (some (128, true))⟩, ⟨(some 130), .mv (.t 9), (some (128, true))⟩, ⟨(some 131), .bin .lss (.t 129) (.t 130), (some (128, true))⟩, ⟨(some 132), .pick (.t 128) (.t 131) (.k (.bool false)), none⟩] none)
 (.cond (.t 132) (.seq (.reg [⟨(some 133), .mv (.t 0), none⟩, ⟨(some 134), .mv (.t 8), none⟩, ⟨(some 135), .slstr (.t 133) (some (.t 134)) none, none⟩, ⟨(some 136), .mv (.t 1), none⟩, ⟨(some 137), .call 201 (.k (.fn (.func 140) [] [])) [(.t 135), (.t 136)], none⟩, ⟨(some 13), .mv (.t 137), none⟩] none)
 (.seq (.seq (.reg [⟨(some 138), .mv (.t 13), none⟩, ⟨(some 139), .bin .lss (.t 138) (.k (.int .i64 0)), none⟩] none)
 (.cond (.t 139) (.seq (.reg [⟨(some 4), .mv (.k (.int .i64 (-1))), none⟩] none)
 .ret) .skip))
 (.seq (.reg [⟨(some 140), .mv (.t 8), none⟩, ⟨(some 141), .mv (.t 13), none⟩, ⟨(some 142), .bin .add (.t 140) (.t 141), none⟩, ⟨(some 4), .mv (.t 142), none⟩] none)
 .ret))) .skip))))))))))))
 (.seq (.reg [⟨(some 4), .mv (.k (.int .i64 (-1))), none⟩] none)
 .ret))))))))))⟩
def m119 : MFn := ⟨3, 73, [.tmp 6, .tmp 7], (.seq (.reg [⟨(some 6), .mv (.k (.int .i64 0)), none⟩, ⟨(some 7), .mv (.k .nilif), none⟩] none)
 (.seq (.seq (.reg [⟨(some 12), .mv (.t 0), none⟩, ⟨(some 13), .bin .eql (.t 12) (.k (.str ⟨#[]⟩)), none⟩] none)
 (.cond (.t 13) (.seq (.reg [⟨(some 14), .mki 152 (.k (.int .i64 2)), none⟩, ⟨(some 6), .mv (.k (.int .i64 0)), none⟩, ⟨(some 7), .mv (.t 14), none⟩] none)
 .ret) .skip))
 (.seq (.reg [⟨(some 8), .mv (.k (.bool false)), none⟩] none)
 (.seq (.seq (.reg [⟨(some 15), .mv (.t 0), none⟩, ⟨(some 16), .ixstr (.t 15) (.k (.int .i64 0)), none⟩] none)
 (.block 0 (.seq (.reg [⟨(some 18), .bin .eql (.t 16) (.k (.int .u8 43)), none⟩, ⟨(some 17), .mv (.t 18), none⟩] none)
 (.cond (.t 17) (.reg [⟨(some 19), .mv (.t 0), none⟩, ⟨(some 20), .slstr (.t 19) (some (.k (.int .i64 1))) none, none⟩, ⟨(some 0), .mv (.t 20), none⟩] none) (.seq (.reg [⟨(some 22), .bin .eql (.t 16) (.k (.int .u8 45)), none⟩, ⟨(some 21), .mv (.t 22), none⟩] none)
 (.cond (.t 21) (.seq (.reg [⟨(some 23), .mv (.t 0), none⟩, ⟨(some 24), .slstr (.t 23) (some (.k (.int .i64 1))) none, none⟩, ⟨(some 0), .mv (.t 24), none⟩] none)
 (.reg [⟨(some 8), .mv (.k (.bool true)), none⟩] none)) .skip))))))
 (.seq (.reg [⟨(some 9), .mv (.k (.int .u64 0)), none⟩] none)
 (.seq (.reg [⟨(some 26), .mv (.t 0), none⟩, ⟨(some 27), .mv (.t 1), none⟩, ⟨(some 28), .mv (.t 2), none⟩, ⟨(some 29), .call 93 (.k (.fn (.func 141) [] [])) [(.t 26), (.t 27), (.t 28)], none⟩, ⟨(some 25), .mv (.t 29), none⟩, ⟨(some 30), .ext (.t 25) 0, none⟩, ⟨(some 31), .ext (.t 25) 1, none⟩, ⟨(some 9), .mv (.t 30), none⟩, ⟨(some 7), .mv (.t 31), none⟩] none)
 (.seq (.seq (.reg [⟨(some 32), .mv (.t 7), none⟩, ⟨(some 33), .isi true (.t 32), none⟩, ⟨(some 34), .mv (.t 33), none⟩, ⟨(some 35), .mv (.t 7), (some (34, true))⟩, ⟨(some 36), .mki 152 (.k (.int .i64 1)), (some (34, true))⟩, ⟨(some 37), .stop, (some (34, true))⟩, ⟨(some 38), .pick (.t 34) (.t 37) (.k (.bool false)), none⟩] none)
 (.cond (.t 38) (.seq (.reg [⟨(some 39), .mv (.t 7), none⟩, ⟨(some 6), .mv (.k (.int .i64 0)), none⟩, ⟨(some 7), .mv (.t 39), none⟩] none)
 .ret) .skip))
 (.seq (.seq (.reg [⟨(some 40), .mv (.t 2), none⟩, ⟨(some 41), .bin .eql (.t 40) (.k (.int .i64 0)), none⟩] none)
 (.cond (.t 41) (.reg [⟨(some 2), .mv (.k (.int .i64 64)), none⟩] none) .skip))
 (.seq (.reg [⟨(some 42), .mv (.t 2), none⟩, ⟨(some 43), .bin .sub (.t 42) (.k (.int .i64 1)), none⟩, ⟨(some 44), .conv .u64 (.t 43), none⟩, ⟨(some 45), .bin .shl (.k (.int .u64 1)) (.t 44), none⟩, ⟨(some 10), .mv (.t 45), none⟩] none)
 (.seq (.seq (.reg [⟨(some 46), .mv (.t 8), none⟩, ⟨(some 47), .un .not (.t 46), none⟩, ⟨(some 48), .mv (.t 47), none⟩, ⟨(some 49), .mv (.t 9), (some (48, true))⟩, ⟨(some 50), .mv (.t 10), (some (48, true))⟩, ⟨(some 51), .bin .geq (.t 49) (.t 50), (some (48, true))⟩, ⟨(some 52), .pick (.t 48) (.t 51) (.k (.bool false)), none⟩] none)
 (.cond (.t 52) (.seq (.reg [⟨(some 53), .mv (.t 10), none⟩, ⟨(some 54), .bin .sub (.t 53) (.k (.int .u64 1)), none⟩, ⟨(some 55), .conv .i64 (.t 54), none⟩, ⟨(some 56), .mki 152 (.k (.int .i64 1)), none⟩, ⟨(some 6), .mv (.t 55), none⟩, ⟨(some 7), .mv (.t 56), none⟩] none)
 .ret) .skip))
 (.seq (.seq (.reg [⟨(some 57), .mv (.t 8), none⟩, ⟨(some 58), .mv (.t 57), none⟩, ⟨(some 59), .mv (.t 9), (some (58, true))⟩, ⟨(some 60), .mv (.t 10), (some (58, true))⟩, ⟨(some 61), .bin .gtr (.t 59) (.t 60), (some (58, true))⟩, ⟨(some 62), .pick (.t 58) (.t 61) (.k (.bool false)), none⟩] none)
 (.cond (.t 62) (.seq (.reg [⟨(some 63), .mv (.t 10), none⟩, ⟨(some 64), .conv .i64 (.t 63), none⟩, ⟨(some 65), .un .neg (.t 64), none⟩, ⟨(some 66), .mki 152 (.k (.int .i64 1)), none⟩, ⟨(some 6), .mv (.t 65), none⟩, ⟨(some 7), .mv (.t 66), none⟩] none)
 .ret) .skip))
 (.seq (.reg [⟨(some 67), .mv (.t 9), none⟩, ⟨(some 68), .conv .i64 (.t 67), none⟩, ⟨(some 11), .mv (.t 68), none⟩] none)
 (.seq (.seq (.reg [⟨(some 69), .mv (.t 8), none⟩] none)
 (.cond (.t 69) (.reg [⟨(some 70), .mv (.t 11), none⟩, ⟨(some 71), .un .neg (.t 70), none⟩, ⟨(some 11), .mv (.t 71), none⟩] none) .skip))
 (.seq (.reg [⟨(some 72), .mv (.t 11), none⟩, ⟨(some 6), .mv (.t 72), none⟩, ⟨(some 7), .mv (.k .nilif), none⟩] none)
 .ret))))))))))))))⟩
def m120 : MFn := ⟨2, 11, [.tmp 4], (.seq (.reg [⟨(some 4), .mv (.k .nilptr), none⟩] none)
 (.seq (.reg [⟨(some 5), .mv (.t 0), none⟩, ⟨(some 6), .mv (.t 1), none⟩, ⟨(some 7), .call 71 (.k (.fn (.func 142) [] [])) [(.t 6)], none⟩, ⟨(some 8), .ld none (.g 2), none⟩, ⟨(some 9), .bld [(.str ⟨#[]⟩), (.str ⟨#[]⟩), .nilif] [(0, 1, (.t 5)), (1, 1, (.t 7)), (2, 1, (.t 8))], none⟩, ⟨(some 10), .box 74 (.t 9), none⟩, ⟨(some 4), .mv (.t 10), none⟩] (some [(2, 3)]))
 .ret))⟩
def m121 : MFn := ⟨2, 11, [.tmp 4], (.seq (.reg [⟨(some 4), .mv (.k .nilptr), none⟩] none)
 (.seq (.reg [⟨(some 5), .mv (.t 0), none⟩, ⟨(some 6), .mv (.t 1), none⟩, ⟨(some 7), .call 71 (.k (.fn (.func 142) [] [])) [(.t 6)], none⟩, ⟨(some 8), .ld none (.g 3), none⟩, ⟨(some 9), .bld [(.str ⟨#[]⟩), (.str ⟨#[]⟩), .nilif] [(0, 1, (.t 5)), (1, 1, (.t 7)), (2, 1, (.t 8))], none⟩, ⟨(some 10), .box 74 (.t 9), none⟩, ⟨(some 4), .mv (.t 10), none⟩] (some [(2, 3)]))
 .ret))⟩
def m122 : MFn := ⟨3, 16, [.tmp 6], (.seq (.reg [⟨(some 6), .mv (.k .nilptr), none⟩] none)
 (.seq (.reg [⟨(some 7), .mv (.t 0), none⟩, ⟨(some 8), .mv (.t 1), none⟩, ⟨(some 9), .call 73 (.k (.fn (.func 142) [] [])) [(.t 8)], none⟩, ⟨(some 10), .mv (.t 2), none⟩, ⟨(some 11), .call 75 (.k (.fn (.func 64) [] [])) [(.t 10)], none⟩, ⟨(some 12), .bin .add (.k (.str ⟨#[105, 110, 118, 97, 108, 105, 100, 32, 98, 97, 115, 101, 32]⟩)) (.t 11), none⟩, ⟨(some 13), .call 77 (.k (.fn (.func 143) [] [])) [(.t 12)], none⟩, ⟨(some 14), .bld [(.str ⟨#[]⟩), (.str ⟨#[]⟩), .nilif] [(0, 1, (.t 7)), (1, 1, (.t 9)), (2, 1, (.t 13))], none⟩, ⟨(some 15), .box 79 (.t 14), none⟩, ⟨(some 6), .mv (.t 15), none⟩] none)
 .ret))⟩
def m123 : MFn := ⟨3, 16, [.tmp 6], (.seq (.reg [⟨(some 6), .mv (.k .nilptr), none⟩] none)
 (.seq (.reg [⟨(some 7), .mv (.t 0), none⟩, ⟨(some 8), .mv (.t 1), none⟩, ⟨(some 9), .call 73 (.k (.fn (.func 142) [] [])) [(.t 8)], none⟩, ⟨(some 10), .mv (.t 2), none⟩, ⟨(some 11), .call 75 (.k (.fn (.func 64) [] [])) [(.t 10)], none⟩, ⟨(some 12), .bin .add (.k (.str ⟨#[105, 110, 118, 97, 108, 105, 100, 32, 98, 105, 116, 32, 115, 105, 122, 101, 32]⟩)) (.t 11), none⟩, ⟨(some 13), .call 77 (.k (.fn (.func 143) [] [])) [(.t 12)], none⟩, ⟨(some 14), .bld [(.str ⟨#[]⟩), (.str ⟨#[]⟩), .nilif] [(0, 1, (.t 7)), (1, 1, (.t 9)), (2, 1, (.t 13))], none⟩, ⟨(some 15), .box 79 (.t 14), none⟩, ⟨(some 6), .mv (.t 15), none⟩] none)
 .ret))⟩
def m124 : MFn := ⟨1, 15, [.tmp 2], (.seq (.reg [⟨(some 2), .mv (.k (.str ⟨#[]⟩)), none⟩] none)
 (.seq (.seq (.reg [⟨(some 3), .mv (.t 0), none⟩, ⟨(some 4), .bin .lss (.t 3) (.k (.int .i64 10)), none⟩] none)
 (.cond (.t 4) (.seq (.reg [⟨(some 5), .mv (.t 0), none⟩, ⟨(some 6), .mv (.t 0), none⟩, ⟨(some 7), .bin .add (.t 6) (.k (.int .i64 1)), none⟩, ⟨(some 8), .slstr (.k (.str ⟨#[48, 49, 50, 51, 52, 53, 54, 55, 56, 57, 97, 98, 99, 100, 101, 102, 103, 104, 105, 106, 107, 108, 109, 110, 111, 112, 113, 114, 115, 116, 117, 118, 119, 120, 121, 122]⟩)) (some (.t 5)) (some (.t 7)), none⟩, ⟨(some 2), .mv (.t 8), none⟩] none)
 .ret) .skip))
 (.seq (.reg [⟨(some 9), .mv (.t 0), none⟩, ⟨(some 10), .bin .mul (.t 9) (.k (.int .i64 2)), none⟩, ⟨(some 11), .mv (.t 0), none⟩, ⟨(some 12), .bin .mul (.t 11) (.k (.int .i64 2)), none⟩, ⟨(some 13), .bin .add (.t 12) (.k (.int .i64 2)), none⟩, ⟨(some 14), .slstr (.k (.str ⟨#[48, 48, 48, 49, 48, 50, 48, 51, 48, 52, 48, 53, 48, 54, 48, 55, 48, 56, 48, 57, 49, 48, 49, 49, 49, 50, 49, 51, 49, 52, 49, 53, 49, 54, 49, 55, 49, 56, 49, 57, 50, 48, 50, 49, 50, 50, 50, 51, 50, 52, 50, 53, 50, 54, 50, 55, 50, 56, 50, 57, 51, 48, 51, 49, 51, 50, 51, 51, 51, 52, 51, 53, 51, 54, 51, 55, 51, 56, 51, 57, 52, 48, 52, 49, 52, 50, 52, 51, 52, 52, 52, 53, 52, 54, 52, 55, 52, 56, 52, 57, 53, 48, 53, 49, 53, 50, 53, 51, 53, 52, 53, 53, 53, 54, 53, 55, 53, 56, 53, 57, 54, 48, 54, 49, 54, 50, 54, 51, 54, 52, 54, 53, 54, 54, 54, 55, 54, 56, 54, 57, 55, 48, 55, 49, 55, 50, 55, 51, 55, 52, 55, 53, 55, 54, 55, 55, 55, 56, 55, 57, 56, 48, 56, 49, 56, 50, 56, 51, 56, 52, 56, 53, 56, 54, 56, 55, 56, 56, 56, 57, 57, 48, 57, 49, 57, 50, 57, 51, 57, 52, 57, 53, 57, 54, 57, 55, 57, 56, 57, 57]⟩)) (some (.t 10)) (some (.t 13)), none⟩, ⟨(some 2), .mv (.t 14), none⟩] none)
 .ret)))⟩
def m125 : MFn := ⟨1, 15, [.tmp 2], (.seq (.reg [⟨(some 2), .mv (.k (.int .i64 0)), none⟩] none)
 (.seq (.reg [⟨(some 4), .mv (.t 0), none⟩, ⟨(some 5), .call 69 (.k (.fn (.func 114) [] [])) [(.t 4)], none⟩, ⟨(some 6), .call 70 (.k (.fn (.func 144) [] [])) [(.t 5)], none⟩, ⟨(some 3), .mv (.t 6), none⟩] none)
 (.seq (.reg [⟨(some 7), .mv (.t 3), none⟩, ⟨(some 8), .mv (.t 0), none⟩, ⟨(some 9), .mv (.t 3), none⟩, ⟨(some 10), .ixa 20 1 (.g 4) (.t 9), none⟩, ⟨(some 11), .ld none (.t 10), none⟩, ⟨(some 12), .bin .geq (.t 8) (.t 11), none⟩, ⟨(some 13), .call 77 (.k (.fn (.func 145) [] [])) [(.t 12)], none⟩, ⟨(some 14), .bin .add (.t 7) (.t 13), none⟩, ⟨(some 2), .mv (.t 14), none⟩] none)
 .ret)))⟩
def m126 : MFn := ⟨2, 167, [], (.seq (.reg [⟨(some 17), .mv (.t 0), none⟩, ⟨(some 18), .len (.t 17), none⟩, ⟨(some 4), .mv (.t 18), none⟩] none)
 (.seq (.block 0 (.loop (.seq (.seq (.reg [⟨(some 19), .mv (.t 4), none⟩, ⟨(some 20), .bin .geq (.t 19) (.k (.int .i64 8)), none⟩] none)
 (.cond (.t 20) .skip (.exit 0)))
 (.block 1 (.seq (.reg [⟨(some 21), .mv (.t 1), none⟩, ⟨(some 22), .bin .rem (.t 21) (.k (.int .u64 100000000)), none⟩, ⟨(some 23), .conv .u32 (.t 22), none⟩, ⟨(some 5), .mv (.t 23), none⟩] none)
 (.seq (.reg [⟨(some 24), .mv (.t 1), none⟩, ⟨(some 25), .bin .quo (.t 24) (.k (.int .u64 100000000)), none⟩, ⟨(some 1), .mv (.t 25), none⟩] none)
 (.seq (.reg [⟨(some 26), .mv (.t 5), none⟩, ⟨(some 27), .bin .quo (.t 26) (.k (.int .u32 10000)), none⟩, ⟨(some 28), .mv (.t 5), none⟩, ⟨(some 29), .bin .rem (.t 28) (.k (.int .u32 10000)), none⟩, ⟨(some 6), .mv (.t 27), none⟩, ⟨(some 7), .mv (.t 29), none⟩] none)
 (.seq (.reg [⟨(some 30), .mv (.t 7), none⟩, ⟨(some 31), .bin .quo (.t 30) (.k (.int .u32 100)), none⟩, ⟨(some 32), .bin .mul (.t 31) (.k (.int .u32 2)), none⟩, ⟨(some 33), .mv (.t 7), none⟩, ⟨(some 34), .bin .rem (.t 33) (.k (.int .u32 100)), none⟩, ⟨(some 35), .bin .mul (.t 34) (.k (.int .u32 2)), none⟩, ⟨(some 8), .mv (.t 32), none⟩, ⟨(some 9), .mv (.t 35), none⟩] none)
 (.seq (.reg [⟨(some 36), .mv (.t 6), none⟩, ⟨(some 37), .bin .quo (.t 36) (.k (.int .u32 100)), none⟩, ⟨(some 38), .bin .mul (.t 37) (.k (.int .u32 2)), none⟩, ⟨(some 39), .mv (.t 6), none⟩, ⟨(some 40), .bin .rem (.t 39) (.k (.int .u32 100)), none⟩, ⟨(some 41), .bin .mul (.t 40) (.k (.int .u32 2)), none⟩, ⟨(some 10), .mv (.t 38), none⟩, ⟨(some 11), .mv (.t 41), none⟩] none)
 (.seq (.reg [⟨(some 42), .mv (.t 0), none⟩, ⟨(some 43), .mv (.t 4), none⟩, ⟨(some 44), .bin .sub (.t 43) (.k (.int .i64 1)), none⟩, ⟨(some 45), .mv (.t 0), none⟩, ⟨(some 46), .mv (.t 4), none⟩, ⟨(some 47), .bin .sub (.t 46) (.k (.int .i64 2)), none⟩, ⟨(some 48), .mv (.t 9), none⟩, ⟨(some 49), .bin .add (.t 48) (.k (.int .u32 1)), none⟩, ⟨(some 50), .ixstr (.k (.str ⟨#[48, 48, 48, 49, 48, 50, 48, 51, 48, 52, 48, 53, 48, 54, 48, 55, 48, 56, 48, 57, 49, 48, 49, 49, 49, 50, 49, 51, 49, 52, 49, 53, 49, 54, 49, 55, 49, 56, 49, 57, 50, 48, 50, 49, 50, 50, 50, 51, 50, 52, 50, 53, 50, 54, 50, 55, 50, 56, 50, 57, 51, 48, 51, 49, 51, 50, 51, 51, 51, 52, 51, 53, 51, 54, 51, 55, 51, 56, 51, 57, 52, 48, 52, 49, 52, 50, 52, 51, 52, 52, 52, 53, 52, 54, 52, 55, 52, 56, 52, 57, 53, 48, 53, 49, 53, 50, 53, 51, 53, 52, 53, 53, 53, 54, 53, 55, 53, 56, 53, 57, 54, 48, 54, 49, 54, 50, 54, 51, 54, 52, 54, 53, 54, 54, 54, 55, 54, 56, 54, 57, 55, 48, 55, 49, 55, 50, 55, 51, 55, 52, 55, 53, 55, 54, 55, 55, 55, 56, 55, 57, 56, 48, 56, 49, 56, 50, 56, 51, 56, 52, 56, 53, 56, 54, 56, 55, 56, 56, 56, 57, 57, 48, 57, 49, 57, 50, 57, 51, 57, 52, 57, 53, 57, 54, 57, 55, 57, 56, 57, 57]⟩)) (.t 49), none⟩, ⟨(some 51), .mv (.t 9), none⟩, ⟨(some 52), .ixstr (.k (.str ⟨#[48, 48, 48, 49, 48, 50, 48, 51, 48, 52, 48, 53, 48, 54, 48, 55, 48, 56, 48, 57, 49, 48, 49, 49, 49, 50, 49, 51, 49, 52, 49, 53, 49, 54, 49, 55, 49, 56, 49, 57, 50, 48, 50, 49, 50, 50, 50, 51, 50, 52, 50, 53, 50, 54, 50, 55, 50, 56, 50, 57, 51, 48, 51, 49, 51, 50, 51, 51, 51, 52, 51, 53, 51, 54, 51, 55, 51, 56, 51, 57, 52, 48, 52, 49, 52, 50, 52, 51, 52, 52, 52, 53, 52, 54, 52, 55, 52, 56, 52, 57, 53, 48, 53, 49, 53, 50, 53, 51, 53, 52, 53, 53, 53, 54, 53, 55, 53, 56, 53, 57, 54, 48, 54, 49, 54, 50, 54, 51, 54, 52, 54, 53, 54, 54, 54, 55, 54, 56, 54, 57, 55, 48, 55, 49, 55, 50, 55, 51, 55, 52, 55, 53, 55, 54, 55, 55, 55, 56, 55, 57, 56, 48, 56, 49, 56, 50, 56, 51, 56, 52, 56, 53, 56, 54, 56, 55, 56, 56, 56, 57, 57, 48, 57, 49, 57, 50, 57, 51, 57, 52, 57, 53, 57, 54, 57, 55, 57, 56, 57, 57]⟩)) (.t 51), none⟩, ⟨(some 53), .ixs 1 (.t 42) (.t 44), none⟩, ⟨none, .st 1 (.t 53) (.t 50), none⟩, ⟨(some 54), .ixs 1 (.t 45) (.t 47), none⟩, ⟨none, .st 1 (.t 54) (.t 52), none⟩] (some []))
 (.seq (.reg [⟨(some 55), .mv (.t 0), none⟩, ⟨(some 56), .mv (.t 4), none⟩, ⟨(some 57), .bin .sub (.t 56) (.k (.int .i64 3)), none⟩, ⟨(some 58), .mv (.t 0), none⟩, ⟨(some 59), .mv (.t 4), none⟩, ⟨(some 60), .bin .sub (.t 59) (.k (.int .i64 4)), none⟩, ⟨(some 61), .mv (.t 8), none⟩, ⟨(some 62), .bin .add (.t 61) (.k (.int .u32 1)), none⟩, ⟨(some 63), .ixstr (.k (.str ⟨#[48, 48, 48, 49, 48, 50, 48, 51, 48, 52, 48, 53, 48, 54, 48, 55, 48, 56, 48, 57, 49, 48, 49, 49, 49, 50, 49, 51, 49, 52, 49, 53, 49, 54, 49, 55, 49, 56, 49, 57, 50, 48, 50, 49, 50, 50, 50, 51, 50, 52, 50, 53, 50, 54, 50, 55, 50, 56, 50, 57, 51, 48, 51, 49, 51, 50, 51, 51, 51, 52, 51, 53, 51, 54, 51, 55, 51, 56, 51, 57, 52, 48, 52, 49, 52, 50, 52, 51, 52, 52, 52, 53, 52, 54, 52, 55, 52, 56, 52, 57, 53, 48, 53, 49, 53, 50, 53, 51, 53, 52, 53, 53, 53, 54, 53, 55, 53, 56, 53, 57, 54, 48, 54, 49, 54, 50, 54, 51, 54, 52, 54, 53, 54, 54, 54, 55, 54, 56, 54, 57, 55, 48, 55, 49, 55, 50, 55, 51, 55, 52, 55, 53, 55, 54, 55, 55, 55, 56, 55, 57, 56, 48, 56, 49, 56, 50, 56, 51, 56, 52, 56, 53, 56, 54, 56, 55, 56, 56, 56, 57, 57, 48, 57, 49, 57, 50, 57, 51, 57, 52, 57, 53, 57, 54, 57, 55, 57, 56, 57, 57]⟩)) (.t 62), none⟩, ⟨(some 64), .mv (.t 8), none⟩, ⟨(some 65), .ixstr (.k (.str ⟨#[48, 48, 48, 49, 48, 50, 48, 51, 48, 52, 48, 53, 48, 54, 48, 55, 48, 56, 48, 57, 49, 48, 49, 49, 49, 50, 49, 51, 49, 52, 49, 53, 49, 54, 49, 55, 49, 56, 49, 57, 50, 48, 50, 49, 50, 50, 50, 51, 50, 52, 50, 53, 50, 54, 50, 55, 50, 56, 50, 57, 51, 48, 51, 49, 51, 50, 51, 51, 51, 52, 51, 53, 51, 54, 51, 55, 51, 56, 51, 57, 52, 48, 52, 49, 52, 50, 52, 51, 52, 52, 52, 53, 52, 54, 52, 55, 52, 56, 52, 57, 53, 48, 53, 49, 53, 50, 53, 51, 53, 52, 53, 53, 53, 54, 53, 55, 53, 56, 53, 57, 54, 48, 54, 49, 54, 50, 54, 51, 54, 52, 54, 53, 54, 54, 54, 55, 54, 56, 54, 57, 55, 48, 55, 49, 55, 50, 55, 51, 55, 52, 55, 53, 55, 54, 55, 55, 55, 56, 55, 57, 56, 48, 56, 49, 56, 50, 56, 51, 56, 52, 56, 53, 56, 54, 56, 55, 56, 56, 56, 57, 57, 48, 57, 49, 57, 50, 57, 51, 57, 52, 57, 53, 57, 54, 57, 55, 57, 56, 57, 57]⟩)) (.t 64), none⟩, ⟨(some 66), .ixs 1 (.t 55) (.t 57), none⟩, ⟨none, .st 1 (.t 66) (.t 63), none⟩, ⟨(some 67), .ixs 1 (.t 58) (.t 60), none⟩, ⟨none, .st 1 (.t 67) (.t 65), none⟩] (some []))
 (.seq (.reg [⟨(some 68), .mv (.t 0), none⟩, ⟨(some 69), .mv (.t 4), none⟩, ⟨(some 70), .bin .sub (.t 69) (.k (.int .i64 5)), none⟩, ⟨(some 71), .mv (.t 0), none⟩, ⟨(some 72), .mv (.t 4), none⟩, ⟨(some 73), .bin .sub (.t 72) (.k (.int .i64 6)), none⟩, ⟨(some 74), .mv (.t 11), none⟩, ⟨(some 75), .bin .add (.t 74) (.k (.int .u32 1)), none⟩, ⟨(some 76), .ixstr (.k (.str ⟨#[48, 48, 48, 49, 48, 50, 48, 51, 48, 52, 48, 53, 48, 54, 48, 55, 48, 56, 48, 57, 49, 48, 49, 49, 49, 50, 49, 51, 49, 52, 49, 53, 49, 54, 49, 55, 49, 56, 49, 57, 50, 48, 50, 49, 50, 50, 50, 51, 50, 52, 50, 53, 50, 54, 50, 55, 50, 56, 50, 57, 51, 48, 51, 49, 51, 50, 51, 51, 51, 52, 51, 53, 51, 54, 51, 55, 51, 56, 51, 57, 52, 48, 52, 49, 52, 50, 52, 51, 52, 52, 52, 53, 52, 54, 52, 55, 52, 56, 52, 57, 53, 48, 53, 49, 53, 50, 53, 51, 53, 52, 53, 53, 53, 54, 53, 55, 53, 56, 53, 57, 54, 48, 54, 49, 54, 50, 54, 51, 54, 52, 54, 53, 54, 54, 54, 55, 54, 56, 54, 57, 55, 48, 55, 49, 55, 50, 55, 51, 55, 52, 55, 53, 55, 54, 55, 55, 55, 56, 55, 57, 56, 48, 56, 49, 56, 50, 56, 51, 56, 52, 56, 53, 56, 54, 56, 55, 56, 56, 56, 57, 57, 48, 57, 49, 57, 50, 57, 51, 57, 52, 57, 53, 57, 54, 57, 55, 57, 56, 57, 57]⟩)) (.t 75), none⟩, ⟨(some 77), .mv (.t 11), none⟩, ⟨(some 78), .ixstr (.k (.str ⟨#[48, 48, 48, 49, 48, 50, 48, 51, 48, 52, 48, 53, 48, 54, 48, 55, 48, 56, 48, 57, 49, 48, 49, 49, 49, 50, 49, 51, 49, 52, 49, 53, 49, 54, 49, 55, 49, 56, 49, 57, 50, 48, 50, 49, 50, 50, 50, 51, 50, 52, 50, 53, 50, 54, 50, 55, 50, 56, 50, 57, 51, 48, 51, 49, 51, 50, 51, 51, 51, 52, 51, 53, 51, 54, 51, 55, 51, 56, 51, 57, 52, 48, 52, 49, 52, 50, 52, 51, 52, 52, 52, 53, 52, 54, 52, 55, 52, 56, 52, 57, 53, 48, 53, 49, 53, 50, 53, 51, 53, 52, 53, 53, 53, 54, 53, 55, 53, 56, 53, 57, 54, 48, 54, 49, 54, 50, 54, 51, 54, 52, 54, 53, 54, 54, 54, 55, 54, 56, 54, 57, 55, 48, 55, 49, 55, 50, 55, 51, 55, 52, 55, 53, 55, 54, 55, 55, 55, 56, 55, 57, 56, 48, 56, 49, 56, 50, 56, 51, 56, 52, 56, 53, 56, 54, 56, 55, 56, 56, 56, 57, 57, 48, 57, 49, 57, 50, 57, 51, 57, 52, 57, 53, 57, 54, 57, 55, 57, 56, 57, 57]⟩)) (.t 77), none⟩, ⟨(some 79), .ixs 1 (.t 68) (.t 70), none⟩, ⟨none, .st 1 (.t 79) (.t 76), none⟩, ⟨(some 80), .ixs 1 (.t 71) (.t 73), none⟩, ⟨none, .st 1 (.t 80) (.t 78), none⟩] (some []))
 (.seq (.reg [⟨(some 81), .mv (.t 0), none⟩, ⟨(some 82), .mv (.t 4), none⟩, ⟨(some 83), .bin .sub (.t 82) (.k (.int .i64 7)), none⟩, ⟨(some 84), .mv (.t 0), none⟩, ⟨(some 85), .mv (.t 4), none⟩, ⟨(some 86), .bin .sub (.t 85) (.k (.int .i64 8)), none⟩, ⟨(some 87), .mv (.t 10), none⟩, ⟨(some 88), .bin .add (.t 87) (.k (.int .u32 1)), none⟩, ⟨(some 89), .ixstr (.k (.str ⟨#[48, 48, 48, 49, 48, 50, 48, 51, 48, 52, 48, 53, 48, 54, 48, 55, 48, 56, 48, 57, 49, 48, 49, 49, 49, 50, 49, 51, 49, 52, 49, 53, 49, 54, 49, 55, 49, 56, 49, 57, 50, 48, 50, 49, 50, 50, 50, 51, 50, 52, 50, 53, 50, 54, 50, 55, 50, 56, 50, 57, 51, 48, 51, 49, 51, 50, 51, 51, 51, 52, 51, 53, 51, 54, 51, 55, 51, 56, 51, 57, 52, 48, 52, 49, 52, 50, 52, 51, 52, 52, 52, 53, 52, 54, 52, 55, 52, 56, 52, 57, 53, 48, 53, 49, 53, 50, 53, 51, 53, 52, 53, 53, 53, 54, 53, 55, 53, 56, 53, 57, 54, 48, 54, 49, 54, 50, 54, 51, 54, 52, 54, 53, 54, 54, 54, 55, 54, 56, 54, 57, 55, 48, 55, 49, 55, 50, 55, 51, 55, 52, 55, 53, 55, 54, 55, 55, 55, 56, 55, 57, 56, 48, 56, 49, 56, 50, 56, 51, 56, 52, 56, 53, 56, 54, 56, 55, 56, 56, 56, 57, 57, 48, 57, 49, 57, 50, 57, 51, 57, 52, 57, 53, 57, 54, 57, 55, 57, 56, 57, 57]⟩)) (.t 88), none⟩, ⟨(some 90), .mv (.t 10), none⟩, ⟨(some 91), .ixstr (.k (.str ⟨#[48, 48, 48, 49, 48, 50, 48, 51, 48, 52, 48, 53, 48, 54, 48, 55, 48, 56, 48, 57, 49, 48, 49, 49, 49, 50, 49, 51, 49, 52, 49, 53, 49, 54, 49, 55, 49, 56, 49, 57, 50, 48, 50, 49, 50, 50, 50, 51, 50, 52, 50, 53, 50, 54, 50, 55, 50, 56, 50, 57, 51, 48, 51, 49, 51, 50, 51, 51, 51, 52, 51, 53, 51, 54, 51, 55, 51, 56, 51, 57, 52, 48, 52, 49, 52, 50, 52, 51, 52, 52, 52, 53, 52, 54, 52, 55, 52, 56, 52, 57, 53, 48, 53, 49, 53, 50, 53, 51, 53, 52, 53, 53, 53, 54, 53, 55, 53, 56, 53, 57, 54, 48, 54, 49, 54, 50, 54, 51, 54, 52, 54, 53, 54, 54, 54, 55, 54, 56, 54, 57, 55, 48, 55, 49, 55, 50, 55, 51, 55, 52, 55, 53, 55, 54, 55, 55, 55, 56, 55, 57, 56, 48, 56, 49, 56, 50, 56, 51, 56, 52, 56, 53, 56, 54, 56, 55, 56, 56, 56, 57, 57, 48, 57, 49, 57, 50, 57, 51, 57, 52, 57, 53, 57, 54, 57, 55, 57, 56, 57, 57]⟩)) (.t 90), none⟩, ⟨(some 92), .ixs 1 (.t 81) (.t 83), none⟩, ⟨none, .st 1 (.t 92) (.t 89), none⟩, ⟨(some 93), .ixs 1 (.t 84) (.t 86), none⟩, ⟨none, .st 1 (.t 93) (.t 91), none⟩] (some []))
 (.reg [⟨(some 94), .mv (.t 4), none⟩, ⟨(some 95), .bin .sub (.t 94) (.k (.int .i64 8)), none⟩, ⟨(some 4), .mv (.t 95), none⟩] none))))))))))))))
 (.seq (.reg [⟨(some 96), .mv (.t 1), none⟩, ⟨(some 97), .conv .u32 (.t 96), none⟩, ⟨(some 12), .mv (.t 97), none⟩] none)
 (.seq (.seq (.reg [⟨(some 98), .mv (.t 4), none⟩, ⟨(some 99), .bin .geq (.t 98) (.k (.int .i64 4)), none⟩] none)
 (.cond (.t 99) (.seq (.reg [⟨(some 100), .mv (.t 12), none⟩, ⟨(some 101), .bin .rem (.t 100) (.k (.int .u32 10000)), none⟩, ⟨(some 13), .mv (.t 101), none⟩] none)
 (.seq (.reg [⟨(some 102), .mv (.t 12), none⟩, ⟨(some 103), .bin .quo (.t 102) (.k (.int .u32 10000)), none⟩, ⟨(some 12), .mv (.t 103), none⟩] none)
 (.seq (.reg [⟨(some 104), .mv (.t 13), none⟩, ⟨(some 105), .bin .quo (.t 104) (.k (.int .u32 100)), none⟩, ⟨(some 106), .bin .mul (.t 105) (.k (.int .u32 2)), none⟩, ⟨(some 107), .mv (.t 13), none⟩, ⟨(some 108), .bin .rem (.t 107) (.k (.int .u32 100)), none⟩, ⟨(some 109), .bin .mul (.t 108) (.k (.int .u32 2)), none⟩, ⟨(some 14), .mv (.t 106), none⟩, ⟨(some 15), .mv (.t 109), none⟩] none)
 (.seq (.reg [⟨(some 110), .mv (.t 0), none⟩, ⟨(some 111), .mv (.t 4), none⟩, ⟨(some 112), .bin .sub (.t 111) (.k (.int .i64 1)), none⟩, ⟨(some 113), .mv (.t 0), none⟩, ⟨(some 114), .mv (.t 4), none⟩, ⟨(some 115), .bin .sub (.t 114) (.k (.int .i64 2)), none⟩, ⟨(some 116), .mv (.t 15), none⟩, ⟨(some 117), .bin .add (.t 116) (.k (.int .u32 1)), none⟩, ⟨(some 118), .ixstr (.k (.str ⟨#[48, 48, 48, 49, 48, 50, 48, 51, 48, 52, 48, 53, 48, 54, 48, 55, 48, 56, 48, 57, 49, 48, 49, 49, 49, 50, 49, 51, 49, 52, 49, 53, 49, 54, 49, 55, 49, 56, 49, 57, 50, 48, 50, 49, 50, 50, 50, 51, 50, 52, 50, 53, 50, 54, 50, 55, 50, 56, 50, 57, 51, 48, 51, 49, 51, 50, 51, 51, 51, 52, 51, 53, 51, 54, 51, 55, 51, 56, 51, 57, 52, 48, 52, 49, 52, 50, 52, 51, 52, 52, 52, 53, 52, 54, 52, 55, 52, 56, 52, 57, 53, 48, 53, 49, 53, 50, 53, 51, 53, 52, 53, 53, 53, 54, 53, 55, 53, 56, 53, 57, 54, 48, 54, 49, 54, 50, 54, 51, 54, 52, 54, 53, 54, 54, 54, 55, 54, 56, 54, 57, 55, 48, 55, 49, 55, 50, 55, 51, 55, 52, 55, 53, 55, 54, 55, 55, 55, 56, 55, 57, 56, 48, 56, 49, 56, 50, 56, 51, 56, 52, 56, 53, 56, 54, 56, 55, 56, 56, 56, 57, 57, 48, 57, 49, 57, 50, 57, 51, 57, 52, 57, 53, 57, 54, 57, 55, 57, 56, 57, 57]⟩)) (.t 117), none⟩, ⟨(some 119), .mv (.t 15), none⟩, ⟨(some 120), .ixstr (.k (.str ⟨#[48, 48, 48, 49, 48, 50, 48, 51, 48, 52, 48, 53, 48, 54, 48, 55, 48, 56, 48, 57, 49, 48, 49, 49, 49, 50, 49, 51, 49, 52, 49, 53, 49, 54, 49, 55, 49, 56, 49, 57, 50, 48, 50, 49, 50, 50, 50, 51, 50, 52, 50, 53, 50, 54, 50, 55, 50, 56, 50, 57, 51, 48, 51, 49, 51, 50, 51, 51, 51, 52, 51, 53, 51, 54, 51, 55, 51, 56, 51, 57, 52, 48, 52, 49, 52, 50, 52, 51, 52, 52, 52, 53, 52, 54, 52, 55, 52, 56, 52, 57, 53, 48, 53, 49, 53, 50, 53, 51, 53, 52, 53, 53, 53, 54, 53, 55, 53, 56, 53, 57, 54, 48, 54, 49, 54, 50, 54, 51, 54, 52, 54, 53, 54, 54, 54, 55, 54, 56, 54, 57, 55, 48, 55, 49, 55, 50, 55, 51, 55, 52, 55, 53, 55, 54, 55, 55, 55, 56, 55, 57, 56, 48, 56, 49, 56, 50, 56, 51, 56, 52, 56, 53, 56, 54, 56, 55, 56, 56, 56, 57, 57, 48, 57, 49, 57, 50, 57, 51, 57, 52, 57, 53, 57, 54, 57, 55, 57, 56, 57, 57]⟩)) (.t 119), none⟩, ⟨(some 121), .ixs 1 (.t 110) (.t 112), none⟩, ⟨none, .st 1 (.t 121) (.t 118), none⟩, ⟨(some 122), .ixs 1 (.t 113) (.t 115), none⟩, ⟨none, .st 1 (.t 122) (.t 120), none⟩] (some []))
 (.seq (.reg [⟨(some 123), .mv (.t 0), none⟩, ⟨(some 124), .mv (.t 4), none⟩, ⟨(some 125), .bin .sub (.t 124) (.k (.int .i64 3)), none⟩, ⟨(some 126), .mv (.t 0), none⟩, ⟨(some 127), .mv (.t 4), none⟩, ⟨(some 128), .bin .sub (.t 127) (.k (.int .i64 4)), none⟩, ⟨(some 129), .mv (.t 14), none⟩, ⟨(some 130), .bin .add (.t 129) (.k (.int .u32 1)), none⟩, ⟨(some 131), .ixstr (.k (.str ⟨#[48, 48, 48, 49, 48, 50, 48, 51, 48, 52, 48, 53, 48, 54, 48, 55, 48, 56, 48, 57, 49, 48, 49, 49, 49, 50, 49, 51, 49, 52, 49, 53, 49, 54, 49, 55, 49, 56, 49, 57, 50, 48, 50, 49, 50, 50, 50, 51, 50, 52, 50, 53, 50, 54, 50, 55, 50, 56, 50, 57, 51, 48, 51, 49, 51, 50, 51, 51, 51, 52, 51, 53, 51, 54, 51, 55, 51, 56, 51, 57, 52, 48, 52, 49, 52, 50, 52, 51, 52, 52, 52, 53, 52, 54, 52, 55, 52, 56, 52, 57, 53, 48, 53, 49, 53, 50, 53, 51, 53, 52, 53, 53, 53, 54, 53, 55, 53, 56, 53, 57, 54, 48, 54, 49, 54, 50, 54, 51, 54, 52, 54, 53, 54, 54, 54, 55, 54, 56, 54, 57, 55, 48, 55, 49, 55, 50, 55, 51, 55, 52, 55, 53, 55, 54, 55, 55, 55, 56, 55, 57, 56, 48, 56, 49, 56, 50, 56, 51, 56, 52, 56, 53, 56, 54, 56, 55, 56, 56, 56, 57, 57, 48, 57, 49, 57, 50, 57, 51, 57, 52, 57, 53, 57, 54, 57, 55, 57, 56, 57, 57]⟩)) (.t 130), none⟩, ⟨(some 132), .mv (.t 14), none⟩, ⟨(some 133), .ixstr (.k (.str ⟨#[48, 48, 48, 49, 48, 50, 48, 51, 48, 52, 48, 53, 48, 54, 48, 55, 48, 56, 48, 57, 49, 48, 49, 49, 49, 50, 49, 51, 49, 52, 49, 53, 49, 54, 49, 55, 49, 56, 49, 57, 50, 48, 50, 49, 50, 50, 50, 51, 50, 52, 50, 53, 50, 54, 50, 55, 50, 56, 50, 57, 51, 48, 51, 49, 51, 50, 51, 51, 51, 52, 51, 53, 51, 54, 51, 55, 51, 56, 51, 57, 52, 48, 52, 49, 52, 50, 52, 51, 52, 52, 52, 53, 52, 54, 52, 55, 52, 56, 52, 57, 53, 48, 53, 49, 53, 50, 53, 51, 53, 52, 53, 53, 53, 54, 53, 55, 53, 56, 53, 57, 54, 48, 54, 49, 54, 50, 54, 51, 54, 52, 54, 53, 54, 54, 54, 55, 54, 56, 54, 57, 55, 48, 55, 49, 55, 50, 55, 51, 55, 52, 55, 53, 55, 54, 55, 55, 55, 56, 55, 57, 56, 48, 56, 49, 56, 50, 56, 51, 56, 52, 56, 53, 56, 54, 56, 55, 56, 56, 56, 57, 57, 48, 57, 49, 57, 50, 57, 51, 57, 52, 57, 53, 57, 54, 57, 55, 57, 56, 57, 57]⟩)) (.t 132), none⟩, ⟨(some 134), .ixs 1 (.t 123) (.t 125), none⟩, ⟨none, .st 1 (.t 134) (.t 131), none⟩, ⟨(some 135), .ixs 1 (.t 126) (.t 128), none⟩, ⟨none, .st 1 (.t 135) (.t 133), none⟩] (some []))
 (.reg [⟨(some 136), .mv (.t 4), none⟩, ⟨(some 137), .bin .sub (.t 136) (.k (.int .i64 4)), none⟩, ⟨(some 4), .mv (.t 137), none⟩] none)))))) .skip))
 (.seq (.seq (.reg [⟨(some 138), .mv (.t 4), none⟩, ⟨(some 139), .bin .geq (.t 138) (.k (.int .i64 2)), none⟩] none)
 (.cond (.t 139) (.seq (.reg [⟨(some 140), .mv (.t 12), none⟩, ⟨(some 141), .bin .rem (.t 140) (.k (.int .u32 100)), none⟩, ⟨(some 142), .bin .mul (.t 141) (.k (.int .u32 2)), none⟩, ⟨(some 16), .mv (.t 142), none⟩] none)
 (.seq (.reg [⟨(some 143), .mv (.t 12), none⟩, ⟨(some 144), .bin .quo (.t 143) (.k (.int .u32 100)), none⟩, ⟨(some 12), .mv (.t 144), none⟩] none)
 (.seq (.reg [⟨(some 145), .mv (.t 0), none⟩, ⟨(some 146), .mv (.t 4), none⟩, ⟨(some 147), .bin .sub (.t 146) (.k (.int .i64 1)), none⟩, ⟨(some 148), .mv (.t 0), none⟩, ⟨(some 149), .mv (.t 4), none⟩, ⟨(some 150), .bin .sub (.t 149) (.k (.int .i64 2)), none⟩, ⟨(some 151), .mv (.t 16), none⟩, ⟨(some 152), .bin .add (.t 151) (.k (.int .u32 1)), none⟩, ⟨(some 153), .ixstr (.k (.str ⟨#[48, 48, 48, 49, 48, 50, 48, 51, 48, 52, 48, 53, 48, 54, 48, 55, 48, 56, 48, 57, 49, 48, 49, 49, 49, 50, 49, 51, 49, 52, 49, 53, 49, 54, 49, 55, 49, 56, 49, 57, 50, 48, 50, 49, 50, 50, 50, 51, 50, 52, 50, 53, 50, 54, 50, 55, 50, 56, 50, 57, 51, 48, 51, 49, 51, 50, 51, 51, 51, 52, 51, 53, 51, 54, 51, 55, 51, 56, 51, 57, 52, 48, 52, 49, 52, 50, 52, 51, 52, 52, 52, 53, 52, 54, 52, 55, 52, 56, 52, 57, 53, 48, 53, 49, 53, 50, 53, 51, 53, 52, 53, 53, 53, 54, 53, 55, 53, 56, 53, 57, 54, 48, 54, 49, 54, 50, 54, 51, 54, 52, 54, 53, 54, 54, 54, 55, 54, 56, 54, 57, 55, 48, 55, 49, 55, 50, 55, 51, 55, 52, 55, 53, 55, 54, 55, 55, 55, 56, 55, 57, 56, 48, 56, 49, 56, 50, 56, 51, 56, 52, 56, 53, 56, 54, 56, 55, 56, 56, 56, 57, 57, 48, 57, 49, 57, 50, 57, 51, 57, 52, 57, 53, 57, 54, 57, 55, 57, 56, 57, 57]⟩)) (.t 152), none⟩, ⟨(some 154), .mv (.t 16), none⟩, ⟨(some 155), .ixstr (.k (.str ⟨#[48, 48, 48, 49, 48, 50, 48, 51, 48, 52, 48, 53, 48, 54, 48, 55, 48, 56, 48, 57, 49, 48, 49, 49, 49, 50, 49, 51, 49, 52, 49, 53, 49, 54, 49, 55, 49, 56, 49, 57, 50, 48, 50, 49, 50, 50, 50, 51, 50, 52, 50, 53, 50, 54, 50, 55, 50, 56, 50, 57, 51, 48, 51, 49, 51, 50, 51, 51, 51, 52, 51, 53, 51, 54, 51, 55, 51, 56, 51, 57, 52, 48, 52, 49, 52, 50, 52, 51, 52, 52, 52, 53, 52, 54, 52, 55, 52, 56, 52, 57, 53, 48, 53, 49, 53, 50, 53, 51, 53, 52, 53, 53, 53, 54, 53, 55, 53, 56, 53, 57, 54, 48, 54, 49, 54, 50, 54, 51, 54, 52, 54, 53, 54, 54, 54, 55, 54, 56, 54, 57, 55, 48, 55, 49, 55, 50, 55, 51, 55, 52, 55, 53, 55, 54, 55, 55, 55, 56, 55, 57, 56, 48, 56, 49, 56, 50, 56, 51, 56, 52, 56, 53, 56, 54, 56, 55, 56, 56, 56, 57, 57, 48, 57, 49, 57, 50, 57, 51, 57, 52, 57, 53, 57, 54, 57, 55, 57, 56, 57, 57]⟩)) (.t 154), none⟩, ⟨(some 156), .ixs 1 (.t 145) (.t 147), none⟩, ⟨none, .st 1 (.t 156) (.t 153), none⟩, ⟨(some 157), .ixs 1 (.t 148) (.t 150), none⟩, ⟨none, .st 1 (.t 157) (.t 155), none⟩] (some []))
 (.reg [⟨(some 158), .mv (.t 4), none⟩, ⟨(some 159), .bin .sub (.t 158) (.k (.int .i64 2)), none⟩, ⟨(some 4), .mv (.t 159), none⟩] none)))) .skip))
 (.seq (.reg [⟨(some 160), .mv (.t 4), none⟩, ⟨(some 161), .bin .gtr (.t 160) (.k (.int .i64 0)), none⟩] none)
 (.cond (.t 161) (.reg [⟨(some 162), .mv (.t 0), none⟩, ⟨(some 163), .mv (.t 12), none⟩, ⟨(some 164), .bin .add (.k (.int .u32 48)) (.t 163), none⟩, ⟨(some 165), .conv .u8 (.t 164), none⟩, ⟨(some 166), .ixs 1 (.t 162) (.k (.int .i64 0)), none⟩, ⟨none, .st 1 (.t 166) (.t 165), none⟩] none) .skip)))))))⟩
def m127 : MFn := ⟨5, 102, [.tmp 10, .tmp 11], (.seq (.reg [⟨(some 10), .mv (.k .nils), none⟩, ⟨(some 11), .mv (.k (.str ⟨#[]⟩)), none⟩] none)
 (.seq (.seq (.reg [⟨(some 19), .mv (.t 2), none⟩, ⟨(some 20), .bin .lss (.t 19) (.k (.int .i64 2)), none⟩, ⟨(some 21), .mv (.t 20), none⟩, ⟨(some 22), .mv (.t 2), (some (21, false))⟩, ⟨(some 23), .bin .eql (.t 22) (.k (.int .i64 10)), (some (21, false))⟩, ⟨(some 24), .pick (.t 21) (.k (.bool true)) (.t 23), none⟩, ⟨(some 25), .mv (.t 24), none⟩, ⟨(some 26), .mv (.t 2), (some (25, false))⟩, ⟨(some 27), .bin .gtr (.t 26) (.k (.int .i64 36)), (some (25, false))⟩, ⟨(some 28), .pick (.t 25) (.k (.bool true)) (.t 27), none⟩] none)
 (.cond (.t 28) (.reg [⟨(some 29), .mki 9 (.k (.str ⟨#[115, 116, 114, 99, 111, 110, 118, 58, 32, 105, 108, 108, 101, 103, 97, 108, 32, 65, 112, 112, 101, 110, 100, 73, 110, 116, 47, 70, 111, 114, 109, 97, 116, 73, 110, 116, 32, 98, 97, 115, 101]⟩)), none⟩, ⟨none, .pan (.t 29), none⟩] none) .skip))
 (.seq (.reg [⟨(some 12), .alloca 76 [(.int .u8 0), (.int .u8 0), (.int .u8 0), (.int .u8 0), (.int .u8 0), (.int .u8 0), (.int .u8 0), (.int .u8 0), (.int .u8 0), (.int .u8 0), (.int .u8 0), (.int .u8 0), (.int .u8 0), (.int .u8 0), (.int .u8 0), (.int .u8 0), (.int .u8 0), (.int .u8 0), (.int .u8 0), (.int .u8 0), (.int .u8 0), (.int .u8 0), (.int .u8 0), (.int .u8 0), (.int .u8 0), (.int .u8 0), (.int .u8 0), (.int .u8 0), (.int .u8 0), (.int .u8 0), (.int .u8 0), (.int .u8 0), (.int .u8 0), (.int .u8 0), (.int .u8 0), (.int .u8 0), (.int .u8 0), (.int .u8 0), (.int .u8 0), (.int .u8 0), (.int .u8 0), (.int .u8 0), (.int .u8 0), (.int .u8 0), (.int .u8 0), (.int .u8 0), (.int .u8 0), (.int .u8 0), (.int .u8 0), (.int .u8 0), (.int .u8 0), (.int .u8 0), (.int .u8 0), (.int .u8 0), (.int .u8 0), (.int .u8 0), (.int .u8 0), (.int .u8 0), (.int .u8 0), (.int .u8 0), (.int .u8 0), (.int .u8 0), (.int .u8 0), (.int .u8 0), (.int .u8 0)], none⟩] none)
 (.seq (.reg [⟨(some 13), .mv (.k (.int .i64 65)), none⟩] none)
 (.seq (.seq (.reg [⟨(some 30), .mv (.t 3), none⟩] none)
 (.cond (.t 30) (.reg [⟨(some 31), .mv (.t 1), none⟩, ⟨(some 32), .un .neg (.t 31), none⟩, ⟨(some 1), .mv (.t 32), none⟩] none) .skip))
 (.seq (.seq (.reg [⟨(some 33), .mv (.t 2), none⟩, ⟨(some 34), .call 98 (.k (.fn (.func 146) [] [])) [(.t 33)], none⟩] none)
 (.cond (.t 34) (.seq (.reg [⟨(some 35), .mv (.t 2), none⟩, ⟨(some 36), .conv .u64 (.t 35), none⟩, ⟨(some 37), .call 101 (.k (.fn (.func 147) [] [])) [(.t 36)], none⟩, ⟨(some 38), .conv .u64 (.t 37), none⟩, ⟨(some 14), .mv (.t 38), none⟩] none)
 (.seq (.reg [⟨(some 39), .mv (.t 2), none⟩, ⟨(some 40), .conv .u64 (.t 39), none⟩, ⟨(some 15), .mv (.t 40), none⟩] none)
 (.seq (.reg [⟨(some 41), .mv (.t 2), none⟩, ⟨(some 42), .conv .u64 (.t 41), none⟩, ⟨(some 43), .bin .sub (.t 42) (.k (.int .u64 1)), none⟩, ⟨(some 16), .mv (.t 43), none⟩] none)
 (.seq (.block 0 (.loop (.seq (.seq (.reg [⟨(some 44), .mv (.t 1), none⟩, ⟨(some 45), .mv (.t 15), none⟩, ⟨(some 46), .bin .geq (.t 44) (.t 45), none⟩] none)
 (.cond (.t 46) .skip (.exit 0)))
 (.block 1 (.seq (.reg [⟨(some 47), .mv (.t 13), none⟩, ⟨(some 48), .bin .sub (.t 47) (.k (.int .i64 1)), none⟩, ⟨(some 13), .mv (.t 48), none⟩] none)
 (.seq (.reg [⟨(some 49), .mv (.t 13), none⟩, ⟨(some 50), .mv (.t 1), none⟩, ⟨(some 51), .mv (.t 16), none⟩, ⟨(some 52), .bin .and (.t 50) (.t 51), none⟩, ⟨(some 53), .ixstr (.k (.str ⟨#[48, 49, 50, 51, 52, 53, 54, 55, 56, 57, 97, 98, 99, 100, 101, 102, 103, 104, 105, 106, 107, 108, 109, 110, 111, 112, 113, 114, 115, 116, 117, 118, 119, 120, 121, 122]⟩)) (.t 52), none⟩, ⟨(some 54), .ixa 65 1 (.t 12) (.t 49), none⟩, ⟨none, .st 1 (.t 54) (.t 53), none⟩] none)
 (.reg [⟨(some 55), .mv (.t 1), none⟩, ⟨(some 56), .mv (.t 14), none⟩, ⟨(some 57), .bin .shr (.t 55) (.t 56), none⟩, ⟨(some 1), .mv (.t 57), none⟩] none)))))))
 (.seq (.reg [⟨(some 58), .mv (.t 13), none⟩, ⟨(some 59), .bin .sub (.t 58) (.k (.int .i64 1)), none⟩, ⟨(some 13), .mv (.t 59), none⟩] none)
 (.reg [⟨(some 60), .mv (.t 13), none⟩, ⟨(some 61), .mv (.t 1), none⟩, ⟨(some 62), .ixstr (.k (.str ⟨#[48, 49, 50, 51, 52, 53, 54, 55, 56, 57, 97, 98, 99, 100, 101, 102, 103, 104, 105, 106, 107, 108, 109, 110, 111, 112, 113, 114, 115, 116, 117, 118, 119, 120, 121, 122]⟩)) (.t 61), none⟩, ⟨(some 63), .ixa 65 1 (.t 12) (.t 60), none⟩, ⟨none, .st 1 (.t 63) (.t 62), none⟩] none)))))) (.seq (.reg [⟨(some 64), .mv (.t 2), none⟩, ⟨(some 65), .conv .u64 (.t 64), none⟩, ⟨(some 17), .mv (.t 65), none⟩] none)
 (.seq (.block 2 (.loop (.seq (.seq (.reg [⟨(some 66), .mv (.t 1), none⟩, ⟨(some 67), .mv (.t 17), none⟩, ⟨(some 68), .bin .geq (.t 66) (.t 67), none⟩] none)
 (.cond (.t 68) .skip (.exit 2)))
 (.block 3 (.seq (.reg [⟨(some 69), .mv (.t 13), none⟩, ⟨(some 70), .bin .sub (.t 69) (.k (.int .i64 1)), none⟩, ⟨(some 13), .mv (.t 70), none⟩] none)
 (.seq (.reg [⟨(some 71), .mv (.t 1), none⟩, ⟨(some 72), .mv (.t 17), none⟩, ⟨(some 73), .bin .quo (.t 71) (.t 72), none⟩, ⟨(some 18), .mv (.t 73), none⟩] none)
 (.seq (.reg [⟨(some 74), .mv (.t 13), none⟩, ⟨(some 75), .mv (.t 1), none⟩, ⟨(some 76), .mv (.t 18), none⟩, ⟨(some 77), .mv (.t 17), none⟩, ⟨(some 78), .bin .mul (.t 76) (.t 77), none⟩, ⟨(some 79), .bin .sub (.t 75) (.t 78), none⟩, ⟨(some 80), .ixstr (.k (.str ⟨#[48, 49, 50, 51, 52, 53, 54, 55, 56, 57, 97, 98, 99, 100, 101, 102, 103, 104, 105, 106, 107, 108, 109, 110, 111, 112, 113, 114, 115, 116, 117, 118, 119, 120, 121, 122]⟩)) (.t 79), none⟩, ⟨(some 81), .ixa 65 1 (.t 12) (.t 74), none⟩, ⟨none, .st 1 (.t 81) (.t 80), none⟩] none)
 (.reg [⟨(some 82), .mv (.t 18), none⟩, ⟨(some 1), .mv (.t 82), none⟩] none))))))))
 (.seq (.reg [⟨(some 83), .mv (.t 13), none⟩, ⟨(some 84), .bin .sub (.t 83) (.k (.int .i64 1)), none⟩, ⟨(some 13), .mv (.t 84), none⟩] none)
 (.reg [⟨(some 85), .mv (.t 13), none⟩, ⟨(some 86), .mv (.t 1), none⟩, ⟨(some 87), .ixstr (.k (.str ⟨#[48, 49, 50, 51, 52, 53, 54, 55, 56, 57, 97, 98, 99, 100, 101, 102, 103, 104, 105, 106, 107, 108, 109, 110, 111, 112, 113, 114, 115, 116, 117, 118, 119, 120, 121, 122]⟩)) (.t 86), none⟩, ⟨(some 88), .ixa 65 1 (.t 12) (.t 85), none⟩, ⟨none, .st 1 (.t 88) (.t 87), none⟩] none))))))
 (.seq (.seq (.reg [⟨(some 89), .mv (.t 3), none⟩] none)
 (.cond (.t 89) (.seq (.reg [⟨(some 90), .mv (.t 13), none⟩, ⟨(some 91), .bin .sub (.t 90) (.k (.int .i64 1)), none⟩, ⟨(some 13), .mv (.t 91), none⟩] none)
 (.reg [⟨(some 92), .mv (.t 13), none⟩, ⟨(some 93), .ixa 65 1 (.t 12) (.t 92), none⟩, ⟨none, .st 1 (.t 93) (.k (.int .u8 45)), none⟩] none)) .skip))
 (.seq (.seq (.reg [⟨(some 94), .mv (.t 4), none⟩] none)
 (.cond (.t 94) (.seq (.reg [⟨(some 95), .mv (.t 0), none⟩, ⟨(some 96), .mv (.t 13), none⟩, ⟨(some 97), .slp 1 65 (.t 12) (some (.t 96)) none, none⟩, ⟨(some 98), .app 162 1 1 (.t 95) (.t 97), none⟩, ⟨(some 10), .mv (.t 98), none⟩] none)
 .ret) .skip))
 (.seq (.reg [⟨(some 99), .mv (.t 13), none⟩, ⟨(some 100), .slp 1 65 (.t 12) (some (.t 99)) none, none⟩, ⟨(some 101), .cvb (.t 100), none⟩, ⟨(some 11), .mv (.t 101), none⟩] none)
 .ret)))))))))⟩
def m130 : MFn := ⟨4, 76, [], (.seq (.reg [⟨(some 10), .mv (.t 1), none⟩, ⟨(some 8), .mv (.t 10), none⟩] none)
 (.block 0 (.loop (.block 1 (.seq (.reg [⟨(some 11), .mv (.t 8), none⟩, ⟨(some 12), .bin .mul (.k (.int .i64 2)) (.t 11), none⟩, ⟨(some 13), .bin .add (.t 12) (.k (.int .i64 1)), none⟩, ⟨(some 9), .mv (.t 13), none⟩] none)
 (.seq (.seq (.reg [⟨(some 14), .mv (.t 9), none⟩, ⟨(some 15), .mv (.t 2), none⟩, ⟨(some 16), .bin .geq (.t 14) (.t 15), none⟩] none)
 (.cond (.t 16) (.exit 0) .skip))
 (.seq (.seq (.reg [⟨(some 17), .mv (.t 9), none⟩, ⟨(some 18), .bin .add (.t 17) (.k (.int .i64 1)), none⟩, ⟨(some 19), .mv (.t 2), none⟩, ⟨(some 20), .bin .lss (.t 18) (.t 19), none⟩, ⟨(some 21), .mv (.t 20), none⟩, ⟨(some 22), .mv (.t 0), (some (21, true))⟩, ⟨(some 23), .mv (.t 3), (some (21, true))⟩, ⟨(some 24), .mv (.t 9), (some (21, true))⟩, ⟨(some 25), .bin .add (.t 23) (.t 24), (some (21, true))⟩, ⟨(some 26), .ixs 1 (.t 22) (.t 25), (some (21, true))⟩, ⟨(some 27), .ld none (.t 26), (some (21, true))⟩, ⟨(some 28), .mv (.t 0), (some (21, true))⟩, ⟨(some 29), .mv (.t 3), (some (21, true))⟩, ⟨(some 30), .mv (.t 9), (some (21, true))⟩, ⟨(some 31), .bin .add (.t 29) (.t 30), (some (21, true))⟩, ⟨(some 32), .bin .add (.t 31) (.k (.int .i64 1)), (some (21, true))⟩, ⟨(some 33), .ixs 1 (.t 28) (.t 32), (some (21, true))⟩, ⟨(some 34), .ld none (.t 33), (some (21, true))⟩, ⟨(some 35), .call 99 (.k (.fn (.func 110) [] [])) [(.t 27), (.t 34)], (some (21, true))⟩, ⟨(some 36), .pick (.t 21) (.t 35) (.k (.bool false)), none⟩] (some [(9, 16), (10, 16), (9, 17), (10, 17)]))
 (.cond (.t 36) (.reg [⟨(some 37), .mv (.t 9), none⟩, ⟨(some 38), .bin .add (.t 37) (.k (.int .i64 1)), none⟩, ⟨(some 9), .mv (.t 38), none⟩] none) .skip))
 (.seq (.seq (.reg [⟨(some 39), .mv (.t 0), none⟩, ⟨(some 40), .mv (.t 3), none⟩, ⟨(some 41), .mv (.t 8), none⟩, ⟨(some 42), .bin .add (.t 40) (.t 41), none⟩, ⟨(some 43), .ixs 1 (.t 39) (.t 42), none⟩, ⟨(some 44), .ld none (.t 43), none⟩, ⟨(some 45), .mv (.t 0), none⟩, ⟨(some 46), .mv (.t 3), none⟩, ⟨(some 47), .mv (.t 9), none⟩, ⟨(some 48), .bin .add (.t 46) (.t 47), none⟩, ⟨(some 49), .ixs 1 (.t 45) (.t 48), none⟩, ⟨(some 50), .ld none (.t 49), none⟩, ⟨(some 51), .call 115 (.k (.fn (.func 110) [] [])) [(.t 44), (.t 50)], none⟩, ⟨(some 52), .un .not (.t 51), none⟩] (some [(4, 10), (5, 10), (4, 11), (5, 11)]))
 (.cond (.t 52) .ret .skip))
 (.seq (.reg [⟨(some 53), .mv (.t 0), none⟩, ⟨(some 54), .mv (.t 3), none⟩, ⟨(some 55), .mv (.t 8), none⟩, ⟨(some 56), .bin .add (.t 54) (.t 55), none⟩, ⟨(some 57), .mv (.t 0), none⟩, ⟨(some 58), .mv (.t 3), none⟩, ⟨(some 59), .mv (.t 9), none⟩, ⟨(some 60), .bin .add (.t 58) (.t 59), none⟩, ⟨(some 61), .mv (.t 0), none⟩, ⟨(some 62), .mv (.t 3), none⟩, ⟨(some 63), .mv (.t 9), none⟩, ⟨(some 64), .bin .add (.t 62) (.t 63), none⟩, ⟨(some 65), .ixs 1 (.t 61) (.t 64), none⟩, ⟨(some 66), .ld none (.t 65), none⟩, ⟨(some 67), .mv (.t 0), none⟩, ⟨(some 68), .mv (.t 3), none⟩, ⟨(some 69), .mv (.t 8), none⟩, ⟨(some 70), .bin .add (.t 68) (.t 69), none⟩, ⟨(some 71), .ixs 1 (.t 67) (.t 70), none⟩, ⟨(some 72), .ld none (.t 71), none⟩, ⟨(some 73), .ixs 1 (.t 53) (.t 56), none⟩, ⟨none, .st 1 (.t 73) (.t 66), none⟩, ⟨(some 74), .ixs 1 (.t 57) (.t 60), none⟩, ⟨none, .st 1 (.t 74) (.t 72), none⟩] (some [(12, 18), (13, 18), (12, 19), (13, 19)]))
 (.reg [⟨(some 75), .mv (.t 9), none⟩, ⟨(some 8), .mv (.t 75), none⟩] none))))))))))⟩
def m131 : MFn := ⟨1, 7, [.tmp 2], (.seq (.reg [⟨(some 2), .mv (.k (.int .u64 0)), none⟩] none)
 (.seq (.reg [⟨(some 3), .mv (.t 0), none⟩, ⟨(some 4), .conv .u64 (.t 3), none⟩, ⟨(some 5), .call 69 (.k (.fn (.func 93) [] [])) [(.t 4)], none⟩, ⟨(some 6), .bin .shl (.k (.int .u64 1)) (.t 5), none⟩, ⟨(some 2), .mv (.t 6), none⟩] none)
 .ret))⟩
def m132 : MFn := ⟨1, 33, [.tmp 2], (.seq (.reg [⟨(some 2), .mv (.k (.int .u64 0)), none⟩] none)
 (.seq (.reg [⟨(some 3), .mv (.t 0), none⟩, ⟨(some 4), .nilc (.t 3), none⟩, ⟨(some 5), .ld none (.t 4), none⟩, ⟨(some 6), .mv (.t 0), none⟩, ⟨(some 7), .nilc (.t 6), none⟩, ⟨(some 8), .ld none (.t 7), none⟩, ⟨(some 9), .bin .shl (.t 8) (.k (.int .u64 13)), none⟩, ⟨(some 10), .bin .xor (.t 5) (.t 9), none⟩, ⟨(some 11), .nilc (.t 3), none⟩, ⟨none, .st 1 (.t 11) (.t 10), none⟩] (some [(2, 5)]))
 (.seq (.reg [⟨(some 12), .mv (.t 0), none⟩, ⟨(some 13), .nilc (.t 12), none⟩, ⟨(some 14), .ld none (.t 13), none⟩, ⟨(some 15), .mv (.t 0), none⟩, ⟨(some 16), .nilc (.t 15), none⟩, ⟨(some 17), .ld none (.t 16), none⟩, ⟨(some 18), .bin .shr (.t 17) (.k (.int .u64 7)), none⟩, ⟨(some 19), .bin .xor (.t 14) (.t 18), none⟩, ⟨(some 20), .nilc (.t 12), none⟩, ⟨none, .st 1 (.t 20) (.t 19), none⟩] (some [(2, 5)]))
 (.seq (.reg [⟨(some 21), .mv (.t 0), none⟩, ⟨(some 22), .nilc (.t 21), none⟩, ⟨(some 23), .ld none (.t 22), none⟩, ⟨(some 24), .mv (.t 0), none⟩, ⟨(some 25), .nilc (.t 24), none⟩, ⟨(some 26), .ld none (.t 25), none⟩, ⟨(some 27), .bin .shl (.t 26) (.k (.int .u64 17)), none⟩, ⟨(some 28), .bin .xor (.t 23) (.t 27), none⟩, ⟨(some 29), .nilc (.t 21), none⟩, ⟨none, .st 1 (.t 29) (.t 28), none⟩] (some [(2, 5)]))
 (.seq (.reg [⟨(some 30), .mv (.t 0), none⟩, ⟨(some 31), .nilc (.t 30), none⟩, ⟨(some 32), .ld none (.t 31), none⟩, ⟨(some 2), .mv (.t 32), none⟩] none)
 .ret)))))⟩
def m133 : MFn := ⟨3, 15, [.tmp 6], (.seq (.reg [⟨(some 6), .mv (.k (.int .i64 0)), none⟩] none)
 (.seq (.reg [⟨(some 7), .mv (.t 0), none⟩, ⟨(some 8), .mv (.t 1), none⟩, ⟨(some 9), .bin .sub (.t 8) (.k (.int .i64 1)), none⟩, ⟨(some 10), .mv (.t 1), none⟩, ⟨(some 11), .mv (.t 1), none⟩, ⟨(some 12), .bin .add (.t 11) (.k (.int .i64 1)), none⟩, ⟨(some 13), .mv (.t 2), none⟩, ⟨(some 14), .call 78 (.k (.fn (.func 134) [] [])) [(.t 7), (.t 9), (.t 10), (.t 12), (.t 13)], none⟩, ⟨(some 6), .mv (.t 14), none⟩] none)
 .ret))⟩
def m134 : MFn := ⟨5, 36, [.tmp 10], (.seq (.reg [⟨(some 10), .mv (.k (.int .i64 0)), none⟩] none)
 (.seq (.reg [⟨(some 12), .mv (.t 0), none⟩, ⟨(some 13), .mv (.t 1), none⟩, ⟨(some 14), .mv (.t 2), none⟩, ⟨(some 15), .mv (.t 4), none⟩, ⟨(some 16), .call 80 (.k (.fn (.func 148) [] [])) [(.t 12), (.t 13), (.t 14), (.t 15)], none⟩, ⟨(some 11), .mv (.t 16), none⟩, ⟨(some 17), .ext (.t 11) 0, none⟩, ⟨(some 18), .ext (.t 11) 1, none⟩, ⟨(some 1), .mv (.t 17), none⟩, ⟨(some 2), .mv (.t 18), none⟩] none)
 (.seq (.reg [⟨(some 20), .mv (.t 0), none⟩, ⟨(some 21), .mv (.t 2), none⟩, ⟨(some 22), .mv (.t 3), none⟩, ⟨(some 23), .mv (.t 4), none⟩, ⟨(some 24), .call 88 (.k (.fn (.func 148) [] [])) [(.t 20), (.t 21), (.t 22), (.t 23)], none⟩, ⟨(some 19), .mv (.t 24), none⟩, ⟨(some 25), .ext (.t 19) 0, none⟩, ⟨(some 26), .ext (.t 19) 1, none⟩, ⟨(some 2), .mv (.t 25), none⟩, ⟨(some 3), .mv (.t 26), none⟩] none)
 (.seq (.reg [⟨(some 28), .mv (.t 0), none⟩, ⟨(some 29), .mv (.t 1), none⟩, ⟨(some 30), .mv (.t 2), none⟩, ⟨(some 31), .mv (.t 4), none⟩, ⟨(some 32), .call 96 (.k (.fn (.func 148) [] [])) [(.t 28), (.t 29), (.t 30), (.t 31)], none⟩, ⟨(some 27), .mv (.t 32), none⟩, ⟨(some 33), .ext (.t 27) 0, none⟩, ⟨(some 34), .ext (.t 27) 1, none⟩, ⟨(some 1), .mv (.t 33), none⟩, ⟨(some 2), .mv (.t 34), none⟩] none)
 (.seq (.reg [⟨(some 35), .mv (.t 2), none⟩, ⟨(some 10), .mv (.t 35), none⟩] none)
 .ret)))))⟩
def m135 : MFn := ⟨1, 6, [.tmp 2], (.seq (.reg [⟨(some 2), .mv (.k (.bool false)), none⟩] none)
 (.seq (.reg [⟨(some 3), .mv (.t 0), none⟩, ⟨(some 4), .mv (.t 0), none⟩, ⟨(some 5), .bin .neq (.t 3) (.t 4), none⟩, ⟨(some 2), .mv (.t 5), none⟩] none)
 .ret))⟩
def m136 : MFn := ⟨1, 117, [.tmp 2, .tmp 3], (.seq (.reg [⟨(some 2), .mv (.k (.int .i32 0)), none⟩, ⟨(some 3), .mv (.k (.int .i64 0)), none⟩] none)
 (.seq (.reg [⟨(some 13), .mv (.t 0), none⟩, ⟨(some 14), .lens (.t 13), none⟩, ⟨(some 4), .mv (.t 14), none⟩] none)
 (.seq (.seq (.reg [⟨(some 15), .mv (.t 4), none⟩, ⟨(some 16), .bin .lss (.t 15) (.k (.int .i64 1)), none⟩] none)
 (.cond (.t 16) (.seq (.reg [⟨(some 2), .mv (.k (.int .i32 65533)), none⟩, ⟨(some 3), .mv (.k (.int .i64 0)), none⟩] none)
 .ret) .skip))
 (.seq (.reg [⟨(some 17), .mv (.t 0), none⟩, ⟨(some 18), .ixstr (.t 17) (.k (.int .i64 0)), none⟩, ⟨(some 5), .mv (.t 18), none⟩] none)
 (.seq (.reg [⟨(some 19), .mv (.t 5), none⟩, ⟨(some 20), .ixa 256 1 (.g 5) (.t 19), none⟩, ⟨(some 21), .ld none (.t 20), none⟩, ⟨(some 6), .mv (.t 21), none⟩] none)
 (.seq (.seq (.reg [⟨(some 22), .mv (.t 6), none⟩, ⟨(some 23), .bin .geq (.t 22) (.k (.int .u8 240)), none⟩] none)
 (.cond (.t 23) (.seq (.reg [⟨(some 24), .mv (.t 6), none⟩, ⟨(some 25), .conv .i32 (.t 24), none⟩, ⟨(some 26), .bin .shl (.t 25) (.k (.int .u64 31)), none⟩, ⟨(some 27), .bin .shr (.t 26) (.k (.int .u64 31)), none⟩, ⟨(some 7), .mv (.t 27), none⟩] none)
 (.seq (.reg [⟨(some 28), .mv (.t 0), none⟩, ⟨(some 29), .ixstr (.t 28) (.k (.int .i64 0)), none⟩, ⟨(some 30), .conv .i32 (.t 29), none⟩, ⟨(some 31), .mv (.t 7), none⟩, ⟨(some 32), .bin .andNot (.t 30) (.t 31), none⟩, ⟨(some 33), .mv (.t 7), none⟩, ⟨(some 34), .bin .and (.k (.int .i32 65533)) (.t 33), none⟩, ⟨(some 35), .bin .or (.t 32) (.t 34), none⟩, ⟨(some 2), .mv (.t 35), none⟩, ⟨(some 3), .mv (.k (.int .i64 1)), none⟩] none)
 .ret)) .skip))
 (.seq (.reg [⟨(some 36), .mv (.t 6), none⟩, ⟨(some 37), .bin .and (.t 36) (.k (.int .u8 7)), none⟩, ⟨(some 38), .conv .i64 (.t 37), none⟩, ⟨(some 8), .mv (.t 38), none⟩] none)
 (.seq (.reg [⟨(some 39), .mv (.t 6), none⟩, ⟨(some 40), .bin .shr (.t 39) (.k (.int .u64 4)), none⟩, ⟨(some 41), .ixa 16 2 (.g 6) (.t 40), none⟩, ⟨(some 42), .ld (some 2) (.t 41), none⟩, ⟨(some 9), .alloc 73 [(.int .u8 0), (.int .u8 0)], none⟩, ⟨none, .st 2 (.t 9) (.t 42), none⟩] none)
 (.seq (.seq (.reg [⟨(some 43), .mv (.t 4), none⟩, ⟨(some 44), .mv (.t 8), none⟩, ⟨(some 45), .bin .lss (.t 43) (.t 44), none⟩] none)
 (.cond (.t 45) (.seq (.reg [⟨(some 2), .mv (.k (.int .i32 65533)), none⟩, ⟨(some 3), .mv (.k (.int .i64 1)), none⟩] none)
 .ret) .skip))
 (.seq (.reg [⟨(some 46), .mv (.t 0), none⟩, ⟨(some 47), .ixstr (.t 46) (.k (.int .i64 1)), none⟩, ⟨(some 10), .mv (.t 47), none⟩] none)
 (.seq (.seq (.reg [⟨(some 48), .mv (.t 10), none⟩, ⟨(some 49), .fa 0 (.t 9), none⟩, ⟨(some 50), .ld none (.t 49), none⟩, ⟨(some 51), .bin .lss (.t 48) (.t 50), none⟩, ⟨(some 52), .mv (.t 51), none⟩, ⟨(some 53), .fa 1 (.t 9), (some (52, false))⟩, ⟨(some 54), .ld none (.t 53), (some (52, false))⟩, ⟨(some 55), .mv (.t 10), (some (52, false))⟩, ⟨(some 56), .bin .lss (.t 54) (.t 55), (some (52, false))⟩, ⟨(some 57), .pick (.t 52) (.k (.bool true)) (.t 56), none⟩] none)
 (.cond (.t 57) (.seq (.reg [⟨(some 2), .mv (.k (.int .i32 65533)), none⟩, ⟨(some 3), .mv (.k (.int .i64 1)), none⟩] none)
 .ret) .skip))
 (.seq (.seq (.reg [⟨(some 58), .mv (.t 8), none⟩, ⟨(some 59), .bin .leq (.t 58) (.k (.int .i64 2)), none⟩] none)
 (.cond (.t 59) (.seq (.reg [⟨(some 60), .mv (.t 5), none⟩, ⟨(some 61), .bin .and (.t 60) (.k (.int .u8 31)), none⟩, ⟨(some 62), .conv .i32 (.t 61), none⟩, ⟨(some 63), .bin .shl (.t 62) (.k (.int .u64 6)), none⟩, ⟨(some 64), .mv (.t 10), none⟩, ⟨(some 65), .bin .and (.t 64) (.k (.int .u8 63)), none⟩, ⟨(some 66), .conv .i32 (.t 65), none⟩, ⟨(some 67), .bin .or (.t 63) (.t 66), none⟩, ⟨(some 2), .mv (.t 67), none⟩, ⟨(some 3), .mv (.k (.int .i64 2)), none⟩] none)
 .ret) .skip))
 (.seq (.reg [⟨(some 68), .mv (.t 0), none⟩, ⟨(some 69), .ixstr (.t 68) (.k (.int .i64 2)), none⟩, ⟨(some 11), .mv (.t 69), none⟩] none)
 (.seq (.seq (.reg [⟨(some 70), .mv (.t 11), none⟩, ⟨(some 71), .bin .lss (.t 70) (.k (.int .u8 128)), none⟩, ⟨(some 72), .mv (.t 71), none⟩, ⟨(some 73), .mv (.t 11), (some (72, false))⟩, ⟨(some 74), .bin .lss (.k (.int .u8 191)) (.t 73), (some (72, false))⟩, ⟨(some 75), .pick (.t 72) (.k (.bool true)) (.t 74), none⟩] none)
 (.cond (.t 75) (.seq (.reg [⟨(some 2), .mv (.k (.int .i32 65533)), none⟩, ⟨(some 3), .mv (.k (.int .i64 1)), none⟩] none)
 .ret) .skip))
 (.seq (.seq (.reg [⟨(some 76), .mv (.t 8), none⟩, ⟨(some 77), .bin .leq (.t 76) (.k (.int .i64 3)), none⟩] none)
 (.cond (.t 77) (.seq (.reg [⟨(some 78), .mv (.t 5), none⟩, ⟨(some 79), .bin .and (.t 78) (.k (.int .u8 15)), none⟩, ⟨(some 80), .conv .i32 (.t 79), none⟩, ⟨(some 81), .bin .shl (.t 80) (.k (.int .u64 12)), none⟩, ⟨(some 82), .mv (.t 10), none⟩, ⟨(some 83), .bin .and (.t 82) (.k (.int .u8 63)), none⟩, ⟨(some 84), .conv .i32 (.t 83), none⟩, ⟨(some 85), .bin .shl (.t 84) (.k (.int .u64 6)), none⟩, ⟨(some 86), .bin .or (.t 81) (.t 85), none⟩, ⟨(some 87), .mv (.t 11), none⟩, ⟨(some 88), .bin .and (.t 87) (.k (.int .u8 63)), none⟩, ⟨(some 89), .conv .i32 (.t 88), none⟩, ⟨(some 90), .bin .or (.t 86) (.t 89), none⟩, ⟨(some 2), .mv (.t 90), none⟩, ⟨(some 3), .mv (.k (.int .i64 3)), none⟩] none)
 .ret) .skip))
 (.seq (.reg [⟨(some 91), .mv (.t 0), none⟩, ⟨(some 92), .ixstr (.t 91) (.k (.int .i64 3)), none⟩, ⟨(some 12), .mv (.t 92), none⟩] none)
 (.seq (.seq (.reg [⟨(some 93), .mv (.t 12), none⟩, ⟨(some 94), .bin .lss (.t 93) (.k (.int .u8 128)), none⟩, ⟨(some 95), .mv (.t 94), none⟩, ⟨(some 96), .mv (.t 12), (some (95, false))⟩, ⟨(some 97), .bin .lss (.k (.int .u8 191)) (.t 96), (some (95, false))⟩, ⟨(some 98), .pick (.t 95) (.k (.bool true)) (.t 97), none⟩] none)
 (.cond (.t 98) (.seq (.reg [⟨(some 2), .mv (.k (.int .i32 65533)), none⟩, ⟨(some 3), .mv (.k (.int .i64 1)), none⟩] none)
 .ret) .skip))
 (.seq (.reg [⟨(some 99), .mv (.t 5), none⟩, ⟨(some 100), .bin .and (.t 99) (.k (.int .u8 7)), none⟩, ⟨(some 101), .conv .i32 (.t 100), none⟩, ⟨(some 102), .bin .shl (.t 101) (.k (.int .u64 18)), none⟩, ⟨(some 103), .mv (.t 10), none⟩, ⟨(some 104), .bin .and (.t 103) (.k (.int .u8 63)), none⟩, ⟨(some 105), .conv .i32 (.t 104), none⟩, ⟨(some 106), .bin .shl (.t 105) (.k (.int .u64 12)), none⟩, ⟨(some 107), .bin .or (.t 102) (.t 106), none⟩, ⟨(some 108), .mv (.t 11), none⟩, ⟨(some 109), .bin .and (.t 108) (.k (.int .u8 63)), none⟩, ⟨(some 110), .conv .i32 (.t 109), none⟩, ⟨(some 111), .bin .shl (.t 110) (.k (.int .u64 6)), none⟩, ⟨(some 112), .bin .or (.t 107) (.t 111), none⟩, ⟨(some 113), .mv (.t 12), none⟩, ⟨(some 114), .bin .and (.t 113) (.k (.int .u8 63)), none⟩, ⟨(some 115), .conv .i32 (.t 114), none⟩, ⟨(some 116), .bin .or (.t 112) (.t 115), none⟩, ⟨(some 2), .mv (.t 116), none⟩, ⟨(some 3), .mv (.k (.int .i64 4)), none⟩] none)
 .ret))))))))))))))))))⟩
def m137 : MFn := ⟨2, 8, [.tmp 4], (.seq (.reg [⟨(some 4), .mv (.k (.int .i64 0)), none⟩] none)
 (.seq (.reg [⟨(some 5), .mv (.t 0), none⟩, ⟨(some 6), .mv (.t 1), none⟩, ⟨(some 7), .call 71 (.k (.fn (.func 149) [] [])) [(.t 5), (.t 6)], none⟩, ⟨(some 4), .mv (.t 7), none⟩] none)
 .ret))⟩
def m139 : MFn := ⟨1, 6, [.tmp 2], (.seq (.reg [⟨(some 2), .mv (.k (.int .i64 0)), none⟩] none)
 (.seq (.reg [⟨(some 3), .mv (.t 0), none⟩, ⟨(some 4), .bin .add (.t 3) (.k (.int .i64 16)), none⟩, ⟨(some 5), .bin .quo (.t 4) (.k (.int .i64 8)), none⟩, ⟨(some 2), .mv (.t 5), none⟩] none)
 .ret))⟩
def m140 : MFn := ⟨2, 81, [.tmp 4], (.seq (.reg [⟨(some 4), .mv (.k (.int .i64 0)), none⟩] none)
 (.seq (.reg [⟨(some 12), .mv (.t 1), none⟩, ⟨(some 13), .call 77 (.k (.fn (.func 150) [] [])) [(.t 12)], none⟩, ⟨(some 11), .mv (.t 13), none⟩, ⟨(some 14), .ext (.t 11) 0, none⟩, ⟨(some 15), .ext (.t 11) 1, none⟩, ⟨(some 5), .mv (.t 14), none⟩, ⟨(some 6), .mv (.t 15), none⟩] none)
 (.seq (.reg [⟨(some 16), .mv (.t 1), none⟩, ⟨(some 17), .lens (.t 16), none⟩, ⟨(some 7), .mv (.t 17), none⟩] none)
 (.seq (.reg [⟨(some 8), .mv (.k (.int .u32 0)), none⟩] none)
 (.seq (.seq (.reg [⟨(some 9), .mv (.k (.int .i64 0)), none⟩] none)
 (.block 0 (.loop (.seq (.seq (.reg [⟨(some 18), .mv (.t 9), none⟩, ⟨(some 19), .mv (.t 7), none⟩, ⟨(some 20), .bin .lss (.t 18) (.t 19), none⟩] none)
 (.cond (.t 20) .skip (.exit 0)))
 (.seq (.block 1 (.reg [⟨(some 23), .mv (.t 8), none⟩, ⟨(some 24), .bin .mul (.t 23) (.k (.int .u32 16777619)), none⟩, ⟨(some 25), .mv (.t 0), none⟩, ⟨(some 26), .mv (.t 9), none⟩, ⟨(some 27), .ixstr (.t 25) (.t 26), none⟩, ⟨(some 28), .conv .u32 (.t 27), none⟩, ⟨(some 29), .bin .add (.t 24) (.t 28), none⟩, ⟨(some 8), .mv (.t 29), none⟩] none))
 (.reg [⟨(some 21), .mv (.t 9), none⟩, ⟨(some 22), .bin .add (.t 21) (.k (.int .i64 1)), none⟩, ⟨(some 9), .mv (.t 22), none⟩] none))))))
 (.seq (.seq (.reg [⟨(some 30), .mv (.t 8), none⟩, ⟨(some 31), .mv (.t 5), none⟩, ⟨(some 32), .bin .eql (.t 30) (.t 31), none⟩, ⟨(some 33), .mv (.t 32), none⟩, ⟨(some 34), .mv (.t 0), (some (33, true))⟩, ⟨(some 35), .mv (.t 7), (some (33, true))⟩, ⟨(some 36), .slstr (.t 34) none (some (.t 35)), (some (33, true))⟩, ⟨(some 37), .mv (.t 1), (some (33, true))⟩, ⟨(some 38), .bin .eql (.t 36) (.t 37), (some (33, true))⟩, ⟨(some 39), .pick (.t 33) (.t 38) (.k (.bool false)), none⟩] none)
 (.cond (.t 39) (.seq (.reg [⟨(some 4), .mv (.k (.int .i64 0)), none⟩] none)
 .ret) .skip))
 (.seq (.seq (.reg [⟨(some 40), .mv (.t 7), none⟩, ⟨(some 10), .mv (.t 40), none⟩] none)
 (.block 2 (.loop (.seq (.seq (.reg [⟨(some 41), .mv (.t 10), none⟩, ⟨(some 42), .mv (.t 0), none⟩, ⟨(some 43), .lens (.t 42), none⟩, ⟨(some 44), .bin .lss (.t 41) (.t 43), none⟩] none)
 (.cond (.t 44) .skip (.exit 2)))
 (.block 3 (.seq (.reg [⟨(some 45), .mv (.t 8), none⟩, ⟨(some 46), .bin .mul (.t 45) (.k (.int .u32 16777619)), none⟩, ⟨(some 8), .mv (.t 46), none⟩] none)
 (.seq (.reg [⟨(some 47), .mv (.t 8), none⟩, ⟨(some 48), .mv (.t 0), none⟩, ⟨(some 49), .mv (.t 10), none⟩, ⟨(some 50), .ixstr (.t 48) (.t 49), none⟩, ⟨(some 51), .conv .u32 (.t 50), none⟩, ⟨(some 52), .bin .add (.t 47) (.t 51), none⟩, ⟨(some 8), .mv (.t 52), none⟩] none)
 (.seq (.reg [⟨(some 53), .mv (.t 8), none⟩, ⟨(some 54), .mv (.t 6), none⟩, ⟨(some 55), .mv (.t 0), none⟩, ⟨(some 56), .mv (.t 10), none⟩, ⟨(some 57), .mv (.t 7), none⟩, ⟨(some 58), .bin .sub (.t 56) (.t 57), none⟩, ⟨(some 59), .ixstr (.t 55) (.t 58), none⟩, ⟨(some 60), .conv .u32 (.t 59), none⟩, ⟨(some 61), .bin .mul (.t 54) (.t 60), none⟩, ⟨(some 62), .bin .sub (.t 53) (.t 61), none⟩, ⟨(some 8), .mv (.t 62), none⟩] none)
 (.seq (.reg [⟨(some 63), .mv (.t 10), none⟩, ⟨(some 64), .bin .add (.t 63) (.k (.int .i64 1)), none⟩, ⟨(some 10), .mv (.t 64), none⟩] none)
 (.seq (.reg [⟨(some 65), .mv (.t 8), none⟩, ⟨(some 66), .mv (.t 5), none⟩, ⟨(some 67), .bin .eql (.t 65) (.t 66), none⟩, ⟨(some 68), .mv (.t 67), none⟩, ⟨(some 69), .mv (.t 0), (some (68, true))⟩, ⟨(some 70), .mv (.t 10), (some (68, true))⟩, ⟨(some 71), .mv (.t 7), (some (68, true))⟩, ⟨(some 72), .bin .sub (.t 70) (.t 71), (some (68, true))⟩, ⟨(some 73), .mv (.t 10), (some (68, true))⟩, ⟨(some 74), .slstr (.t 69) (some (.t 72)) (some (.t 73)), (some (68, true))⟩, ⟨(some 75), .mv (.t 1), (some (68, true))⟩, ⟨(some 76), .bin .eql (.t 74) (.t 75), (some (68, true))⟩, ⟨(some 77), .pick (.t 68) (.t 76) (.k (.bool false)), none⟩] none)
 (.cond (.t 77) (.seq (.reg [⟨(some 78), .mv (.t 10), none⟩, ⟨(some 79), .mv (.t 7), none⟩, ⟨(some 80), .bin .sub (.t 78) (.t 79), none⟩, ⟨(some 4), .mv (.t 80), none⟩] none)
 .ret) .skip)))))))))))
 (.seq (.reg [⟨(some 4), .mv (.k (.int .i64 (-1))), none⟩] none)
 .ret))))))))⟩
def m141 : MFn := ⟨3, 172, [.tmp 6, .tmp 7], (.seq (.reg [⟨(some 6), .mv (.k (.int .u64 0)), none⟩, ⟨(some 7), .mv (.k .nilif), none⟩] none)
 (.seq (.seq (.reg [⟨(some 18), .mv (.t 0), none⟩, ⟨(some 19), .bin .eql (.t 18) (.k (.str ⟨#[]⟩)), none⟩] none)
 (.cond (.t 19) (.seq (.reg [⟨(some 20), .mki 152 (.k (.int .i64 2)), none⟩, ⟨(some 6), .mv (.k (.int .u64 0)), none⟩, ⟨(some 7), .mv (.t 20), none⟩] none)
 .ret) .skip))
 (.seq (.reg [⟨(some 21), .mv (.t 1), none⟩, ⟨(some 22), .bin .eql (.t 21) (.k (.int .i64 0)), none⟩, ⟨(some 8), .mv (.t 22), none⟩] none)
 (.seq (.reg [⟨(some 23), .mv (.t 0), none⟩, ⟨(some 9), .mv (.t 23), none⟩] none)
 (.seq (.block 0 (.seq (.reg [⟨(some 26), .mv (.t 1), none⟩, ⟨(some 27), .bin .leq (.k (.int .i64 2)) (.t 26), none⟩, ⟨(some 28), .mv (.t 27), none⟩, ⟨(some 29), .mv (.t 1), (some (28, true))⟩, ⟨(some 30), .bin .leq (.t 29) (.k (.int .i64 36)), (some (28, true))⟩, ⟨(some 31), .pick (.t 28) (.t 30) (.k (.bool false)), none⟩, ⟨(some 25), .mv (.t 31), none⟩] none)
 (.cond (.t 25) .skip (.seq (.reg [⟨(some 33), .mv (.t 1), none⟩, ⟨(some 34), .bin .eql (.t 33) (.k (.int .i64 0)), none⟩, ⟨(some 32), .mv (.t 34), none⟩] none)
 (.cond (.t 32) (.seq (.reg [⟨(some 1), .mv (.k (.int .i64 10)), none⟩] none)
 (.seq (.reg [⟨(some 35), .mv (.t 0), none⟩, ⟨(some 36), .ixstr (.t 35) (.k (.int .i64 0)), none⟩, ⟨(some 37), .bin .eql (.t 36) (.k (.int .u8 48)), none⟩] none)
 (.cond (.t 37) (.block 1 (.seq (.reg [⟨(some 41), .mv (.t 0), none⟩, ⟨(some 42), .lens (.t 41), none⟩, ⟨(some 43), .bin .geq (.t 42) (.k (.int .i64 3)), none⟩, ⟨(some 44), .mv (.t 43), none⟩, ⟨(some 45), .mv (.t 0), (some (44, true))⟩, ⟨(some 46), .ixstr (.t 45) (.k (.int .i64 1)), (some (44, true))⟩, ⟨(some 47), .call 111 (.k (.fn (.func 151) [] [])) [(.t 46)], (some (44, true))⟩, ⟨(some 48), .bin .eql (.t 47) (.k (.int .u8 98)), (some (44, true))⟩, ⟨(some 49), .pick (.t 44) (.t 48) (.k (.bool false)), none⟩, ⟨(some 40), .mv (.t 49), none⟩] none)
 (.cond (.t 40) (.seq (.reg [⟨(some 1), .mv (.k (.int .i64 2)), none⟩] none)
 (.reg [⟨(some 50), .mv (.t 0), none⟩, ⟨(some 51), .slstr (.t 50) (some (.k (.int .i64 2))) none, none⟩, ⟨(some 0), .mv (.t 51), none⟩] none)) (.seq (.reg [⟨(some 53), .mv (.t 0), none⟩, ⟨(some 54), .lens (.t 53), none⟩, ⟨(some 55), .bin .geq (.t 54) (.k (.int .i64 3)), none⟩, ⟨(some 56), .mv (.t 55), none⟩, ⟨(some 57), .mv (.t 0), (some (56, true))⟩, ⟨(some 58), .ixstr (.t 57) (.k (.int .i64 1)), (some (56, true))⟩, ⟨(some 59), .call 123 (.k (.fn (.func 151) [] [])) [(.t 58)], (some (56, true))⟩, ⟨(some 60), .bin .eql (.t 59) (.k (.int .u8 111)), (some (56, true))⟩, ⟨(some 61), .pick (.t 56) (.t 60) (.k (.bool false)), none⟩, ⟨(some 52), .mv (.t 61), none⟩] none)
 (.cond (.t 52) (.seq (.reg [⟨(some 1), .mv (.k (.int .i64 8)), none⟩] none)
 (.reg [⟨(some 62), .mv (.t 0), none⟩, ⟨(some 63), .slstr (.t 62) (some (.k (.int .i64 2))) none, none⟩, ⟨(some 0), .mv (.t 63), none⟩] none)) (.seq (.reg [⟨(some 65), .mv (.t 0), none⟩, ⟨(some 66), .lens (.t 65), none⟩, ⟨(some 67), .bin .geq (.t 66) (.k (.int .i64 3)), none⟩, ⟨(some 68), .mv (.t 67), none⟩, ⟨(some 69), .mv (.t 0), (some (68, true))⟩, ⟨(some 70), .ixstr (.t 69) (.k (.int .i64 1)), (some (68, true))⟩, ⟨(some 71), .call 135 (.k (.fn (.func 151) [] [])) [(.t 70)], (some (68, true))⟩, ⟨(some 72), .bin .eql (.t 71) (.k (.int .u8 120)), (some (68, true))⟩, ⟨(some 73), .pick (.t 68) (.t 72) (.k (.bool false)), none⟩, ⟨(some 64), .mv (.t 73), none⟩] none)
 (.cond (.t 64) (.seq (.reg [⟨(some 1), .mv (.k (.int .i64 16)), none⟩] none)
 (.reg [⟨(some 74), .mv (.t 0), none⟩, ⟨(some 75), .slstr (.t 74) (some (.k (.int .i64 2))) none, none⟩, ⟨(some 0), .mv (.t 75), none⟩] none)) (.seq (.reg [⟨(some 1), .mv (.k (.int .i64 8)), none⟩] none)
 (.reg [⟨(some 38), .mv (.t 0), none⟩, ⟨(some 39), .slstr (.t 38) (some (.k (.int .i64 1))) none, none⟩, ⟨(some 0), .mv (.t 39), none⟩] none))))))))) .skip))) (.seq (.reg [⟨(some 24), .mki 152 (.k (.int .i64 3)), none⟩, ⟨(some 6), .mv (.k (.int .u64 0)), none⟩, ⟨(some 7), .mv (.t 24), none⟩] none)
 .ret))))))
 (.seq (.seq (.reg [⟨(some 76), .mv (.t 2), none⟩, ⟨(some 77), .bin .eql (.t 76) (.k (.int .i64 0)), none⟩] none)
 (.cond (.t 77) (.reg [⟨(some 2), .mv (.k (.int .i64 64)), none⟩] none) (.seq (.reg [⟨(some 78), .mv (.t 2), none⟩, ⟨(some 79), .bin .lss (.t 78) (.k (.int .i64 0)), none⟩, ⟨(some 80), .mv (.t 79), none⟩, ⟨(some 81), .mv (.t 2), (some (80, false))⟩, ⟨(some 82), .bin .gtr (.t 81) (.k (.int .i64 64)), (some (80, false))⟩, ⟨(some 83), .pick (.t 80) (.k (.bool true)) (.t 82), none⟩] none)
 (.cond (.t 83) (.seq (.reg [⟨(some 84), .mki 152 (.k (.int .i64 4)), none⟩, ⟨(some 6), .mv (.k (.int .u64 0)), none⟩, ⟨(some 7), .mv (.t 84), none⟩] none)
 .ret) .skip))))
 (.seq (.reg [⟨(some 10), .mv (.k (.int .u64 0)), none⟩] none)
 (.seq (.seq (.reg [⟨(some 85), .mv (.t 1), none⟩] none)
 (.block 2 (.seq (.reg [⟨(some 91), .bin .eql (.t 85) (.k (.int .i64 10)), none⟩, ⟨(some 90), .mv (.t 91), none⟩] none)
 (.cond (.t 90) (.reg [⟨(some 10), .mv (.k (.int .u64 1844674407370955162)), none⟩] none) (.seq (.reg [⟨(some 93), .bin .eql (.t 85) (.k (.int .i64 16)), none⟩, ⟨(some 92), .mv (.t 93), none⟩] none)
 (.cond (.t 92) (.reg [⟨(some 10), .mv (.k (.int .u64 1152921504606846976)), none⟩] none) (.reg [⟨(some 86), .mv (.t 1), none⟩, ⟨(some 87), .conv .u64 (.t 86), none⟩, ⟨(some 88), .bin .quo (.k (.int .u64 18446744073709551615)) (.t 87), none⟩, ⟨(some 89), .bin .add (.t 88) (.k (.int .u64 1)), none⟩, ⟨(some 10), .mv (.t 89), none⟩] none)))))))
 (.seq (.reg [⟨(some 94), .mv (.t 2), none⟩, ⟨(some 95), .conv .u64 (.t 94), none⟩, ⟨(some 96), .bin .shl (.k (.int .u64 1)) (.t 95), none⟩, ⟨(some 97), .bin .sub (.t 96) (.k (.int .u64 1)), none⟩, ⟨(some 11), .mv (.t 97), none⟩] none)
 (.seq (.reg [⟨(some 12), .mv (.k (.bool false)), none⟩] none)
 (.seq (.reg [⟨(some 13), .mv (.k (.int .u64 0)), none⟩] none)
 (.seq (.seq (.reg [⟨(some 98), .mv (.t 0), none⟩, ⟨(some 99), .stop, none⟩, ⟨(some 100), .len (.t 99), none⟩, ⟨(some 101), .mv (.k (.int .i64 0)), none⟩] none)
 (.block 3 (.loop (.seq (.reg [⟨(some 102), .bin .lss (.t 101) (.t 100), none⟩] none)
 (.seq (.cond (.t 102) .skip (.exit 3))
 (.seq (.block 4 (.seq (.reg [⟨(some 103), .ixs 1 (.t 99) (.t 101), none⟩, ⟨(some 104), .ld none (.t 103), none⟩, ⟨(some 15), .mv (.t 104), none⟩] none)
 (.seq (.reg [⟨(some 16), .mv (.k (.int .u8 0)), none⟩] none)
 (.seq (.block 5 (.seq (.reg [⟨(some 107), .mv (.t 15), none⟩, ⟨(some 108), .bin .eql (.t 107) (.k (.int .u8 95)), none⟩, ⟨(some 109), .mv (.t 108), none⟩, ⟨(some 110), .mv (.t 8), (some (109, true))⟩, ⟨(some 111), .pick (.t 109) (.t 110) (.k (.bool false)), none⟩, ⟨(some 106), .mv (.t 111), none⟩] none)
 (.cond (.t 106) (.seq (.reg [⟨(some 12), .mv (.k (.bool true)), none⟩] none)
 (.exit 4)) (.seq (.reg [⟨(some 113), .mv (.t 15), none⟩, ⟨(some 114), .bin .leq (.k (.int .u8 48)) (.t 113), none⟩, ⟨(some 115), .mv (.t 114), none⟩, ⟨(some 116), .mv (.t 15), (some (115, true))⟩, ⟨(some 117), .bin .leq (.t 116) (.k (.int .u8 57)), (some (115, true))⟩, ⟨(some 118), .pick (.t 115) (.t 117) (.k (.bool false)), none⟩, ⟨(some 112), .mv (.t 118), none⟩] none)
 (.cond (.t 112) (.reg [⟨(some 119), .mv (.t 15), none⟩, ⟨(some 120), .bin .sub (.t 119) (.k (.int .u8 48)), none⟩, ⟨(some 16), .mv (.t 120), none⟩] none) (.seq (.reg [⟨(some 122), .mv (.t 15), none⟩, ⟨(some 123), .call 187 (.k (.fn (.func 151) [] [])) [(.t 122)], none⟩, ⟨(some 124), .bin .leq (.k (.int .u8 97)) (.t 123), none⟩, ⟨(some 125), .mv (.t 124), none⟩, ⟨(some 126), .mv (.t 15), (some (125, true))⟩, ⟨(some 127), .call 191 (.k (.fn (.func 151) [] [])) [(.t 126)], (some (125, true))⟩, ⟨(some 128), .bin .leq (.t 127) (.k (.int .u8 122)), (some (125, true))⟩, ⟨(some 129), .pick (.t 125) (.t 128) (.k (.bool false)), none⟩, ⟨(some 121), .mv (.t 129), none⟩] none)
 (.cond (.t 121) (.reg [⟨(some 130), .mv (.t 15), none⟩, ⟨(some 131), .call 195 (.k (.fn (.func 151) [] [])) [(.t 130)], none⟩, ⟨(some 132), .bin .sub (.t 131) (.k (.int .u8 97)), none⟩, ⟨(some 133), .bin .add (.t 132) (.k (.int .u8 10)), none⟩, ⟨(some 16), .mv (.t 133), none⟩] none) (.seq (.reg [⟨(some 105), .mki 152 (.k (.int .i64 2)), none⟩, ⟨(some 6), .mv (.k (.int .u64 0)), none⟩, ⟨(some 7), .mv (.t 105), none⟩] none)
 .ret))))))))
 (.seq (.seq (.reg [⟨(some 134), .mv (.t 16), none⟩, ⟨(some 135), .mv (.t 1), none⟩, ⟨(some 136), .conv .u8 (.t 135), none⟩, ⟨(some 137), .bin .geq (.t 134) (.t 136), none⟩] none)
 (.cond (.t 137) (.seq (.reg [⟨(some 138), .mki 152 (.k (.int .i64 2)), none⟩, ⟨(some 6), .mv (.k (.int .u64 0)), none⟩, ⟨(some 7), .mv (.t 138), none⟩] none)
 .ret) .skip))
 (.seq (.seq (.reg [⟨(some 139), .mv (.t 13), none⟩, ⟨(some 140), .mv (.t 10), none⟩, ⟨(some 141), .bin .geq (.t 139) (.t 140), none⟩] none)
 (.cond (.t 141) (.seq (.reg [⟨(some 142), .mv (.t 11), none⟩, ⟨(some 143), .mki 152 (.k (.int .i64 1)), none⟩, ⟨(some 6), .mv (.t 142), none⟩, ⟨(some 7), .mv (.t 143), none⟩] none)
 .ret) .skip))
 (.seq (.reg [⟨(some 144), .mv (.t 13), none⟩, ⟨(some 145), .mv (.t 1), none⟩, ⟨(some 146), .conv .u64 (.t 145), none⟩, ⟨(some 147), .bin .mul (.t 144) (.t 146), none⟩, ⟨(some 13), .mv (.t 147), none⟩] none)
 (.seq (.reg [⟨(some 148), .mv (.t 13), none⟩, ⟨(some 149), .mv (.t 16), none⟩, ⟨(some 150), .conv .u64 (.t 149), none⟩, ⟨(some 151), .bin .add (.t 148) (.t 150), none⟩, ⟨(some 17), .mv (.t 151), none⟩] none)
 (.seq (.seq (.reg [⟨(some 152), .mv (.t 17), none⟩, ⟨(some 153), .mv (.t 13), none⟩, ⟨(some 154), .bin .lss (.t 152) (.t 153), none⟩, ⟨(some 155), .mv (.t 154), none⟩, ⟨(some 156), .mv (.t 17), (some (155, false))⟩, ⟨(some 157), .mv (.t 11), (some (155, false))⟩, ⟨(some 158), .bin .gtr (.t 156) (.t 157), (some (155, false))⟩, ⟨(some 159), .pick (.t 155) (.k (.bool true)) (.t 158), none⟩] none)
 (.cond (.t 159) (.seq (.reg [⟨(some 160), .mv (.t 11), none⟩, ⟨(some 161), .mki 152 (.k (.int .i64 1)), none⟩, ⟨(some 6), .mv (.t 160), none⟩, ⟨(some 7), .mv (.t 161), none⟩] none)
 .ret) .skip))
 (.reg [⟨(some 162), .mv (.t 17), none⟩, ⟨(some 13), .mv (.t 162), none⟩] none))))))))))
 (.reg [⟨(some 163), .bin .add (.t 101) (.k (.int .i64 1)), none⟩, ⟨(some 101), .mv (.t 163), none⟩] none)))))))
 (.seq (.seq (.reg [⟨(some 164), .mv (.t 12), none⟩, ⟨(some 165), .mv (.t 164), none⟩, ⟨(some 166), .mv (.t 9), (some (165, true))⟩, ⟨(some 167), .call 231 (.k (.fn (.func 152) [] [])) [(.t 166)], (some (165, true))⟩, ⟨(some 168), .un .not (.t 167), (some (165, true))⟩, ⟨(some 169), .pick (.t 165) (.t 168) (.k (.bool false)), none⟩] none)
 (.cond (.t 169) (.seq (.reg [⟨(some 170), .mki 152 (.k (.int .i64 2)), none⟩, ⟨(some 6), .mv (.k (.int .u64 0)), none⟩, ⟨(some 7), .mv (.t 170), none⟩] none)
 .ret) .skip))
 (.seq (.reg [⟨(some 171), .mv (.t 13), none⟩, ⟨(some 6), .mv (.t 171), none⟩, ⟨(some 7), .mv (.k .nilif), none⟩] none)
 .ret))))))))))))))⟩
def m142 : MFn := ⟨1, 18, [.tmp 2], (.seq (.reg [⟨(some 2), .mv (.k (.str ⟨#[]⟩)), none⟩] none)
 (.seq (.seq (.reg [⟨(some 4), .mv (.t 0), none⟩, ⟨(some 5), .lens (.t 4), none⟩, ⟨(some 6), .bin .eql (.t 5) (.k (.int .i64 0)), none⟩] none)
 (.cond (.t 6) (.seq (.reg [⟨(some 2), .mv (.k (.str ⟨#[]⟩)), none⟩] none)
 .ret) .skip))
 (.seq (.reg [⟨(some 7), .mv (.t 0), none⟩, ⟨(some 8), .lens (.t 7), none⟩, ⟨(some 9), .mks 73 1 1 (.int .u8 0) (.t 8), none⟩, ⟨(some 3), .mv (.t 9), none⟩] none)
 (.seq (.reg [⟨(some 10), .mv (.t 3), none⟩, ⟨(some 11), .mv (.t 0), none⟩, ⟨(some 12), .stop, none⟩] none)
 (.seq (.reg [⟨(some 13), .mv (.t 3), none⟩, ⟨(some 14), .ixs 1 (.t 13) (.k (.int .i64 0)), none⟩, ⟨(some 15), .mv (.t 3), none⟩, ⟨(some 16), .len (.t 15), none⟩, ⟨(some 17), .stop, none⟩, ⟨(some 2), .mv (.t 17), none⟩] none)
 .ret)))))⟩
def m143 : MFn := ⟨1, 7, [.tmp 2], (.seq (.reg [⟨(some 2), .mv (.k .nilif), none⟩] none)
 (.seq (.reg [⟨(some 3), .mv (.t 0), none⟩, ⟨(some 4), .bld [(.str ⟨#[]⟩)] [(0, 1, (.t 3))], none⟩, ⟨(some 5), .box 69 (.t 4), none⟩, ⟨(some 6), .mki 191 (.t 5), none⟩, ⟨(some 2), .mv (.t 6), none⟩] none)
 .ret))⟩
def m144 : MFn := ⟨1, 6, [.tmp 2], (.seq (.reg [⟨(some 2), .mv (.k (.int .i64 0)), none⟩] none)
 (.seq (.reg [⟨(some 3), .mv (.t 0), none⟩, ⟨(some 4), .bin .mul (.t 3) (.k (.int .i64 78913)), none⟩, ⟨(some 5), .bin .shr (.t 4) (.k (.int .u64 18)), none⟩, ⟨(some 2), .mv (.t 5), none⟩] none)
 .ret))⟩
def m145 : MFn := ⟨1, 4, [.tmp 2], (.seq (.reg [⟨(some 2), .mv (.k (.int .i64 0)), none⟩] none)
 (.seq (.seq (.reg [⟨(some 3), .mv (.t 0), none⟩] none)
 (.cond (.t 3) (.seq (.reg [⟨(some 2), .mv (.k (.int .i64 1)), none⟩] none)
 .ret) .skip))
 (.seq (.reg [⟨(some 2), .mv (.k (.int .i64 0)), none⟩] none)
 .ret)))⟩
def m146 : MFn := ⟨1, 8, [.tmp 2], (.seq (.reg [⟨(some 2), .mv (.k (.bool false)), none⟩] none)
 (.seq (.reg [⟨(some 3), .mv (.t 0), none⟩, ⟨(some 4), .mv (.t 0), none⟩, ⟨(some 5), .bin .sub (.t 4) (.k (.int .i64 1)), none⟩, ⟨(some 6), .bin .and (.t 3) (.t 5), none⟩, ⟨(some 7), .bin .eql (.t 6) (.k (.int .i64 0)), none⟩, ⟨(some 2), .mv (.t 7), none⟩] none)
 .ret))⟩
def m147 : MFn := ⟨1, 8, [.tmp 2], (.seq (.reg [⟨(some 2), .mv (.k (.int .i64 0)), none⟩] none)
 (.seq (.cond (.k (.bool false)) (.seq (.reg [⟨(some 3), .mv (.t 0), none⟩, ⟨(some 4), .conv .u32 (.t 3), none⟩, ⟨(some 5), .call 69 (.k (.fn (.func 153) [] [])) [(.t 4)], none⟩, ⟨(some 2), .mv (.t 5), none⟩] none)
 .ret) .skip)
 (.seq (.reg [⟨(some 6), .mv (.t 0), none⟩, ⟨(some 7), .call 71 (.k (.fn (.func 81) [] [])) [(.t 6)], none⟩, ⟨(some 2), .mv (.t 7), none⟩] none)
 .ret)))⟩
def m148 : MFn := ⟨4, 28, [.tmp 8, .tmp 9], (.seq (.reg [⟨(some 8), .mv (.k (.int .i64 0)), none⟩, ⟨(some 9), .mv (.k (.int .i64 0)), none⟩] none)
 (.seq (.seq (.reg [⟨(some 10), .mv (.t 0), none⟩, ⟨(some 11), .mv (.t 2), none⟩, ⟨(some 12), .ixs 1 (.t 10) (.t 11), none⟩, ⟨(some 13), .ld none (.t 12), none⟩, ⟨(some 14), .mv (.t 0), none⟩, ⟨(some 15), .mv (.t 1), none⟩, ⟨(some 16), .ixs 1 (.t 14) (.t 15), none⟩, ⟨(some 17), .ld none (.t 16), none⟩, ⟨(some 18), .call 82 (.k (.fn (.func 110) [] [])) [(.t 13), (.t 17)], none⟩] (some [(2, 6), (3, 6), (2, 7), (3, 7)]))
 (.cond (.t 18) (.seq (.reg [⟨(some 19), .mv (.t 3), none⟩, ⟨(some 20), .nilc (.t 19), none⟩, ⟨(some 21), .ld none (.t 20), none⟩, ⟨(some 22), .bin .add (.t 21) (.k (.int .i64 1)), none⟩, ⟨(some 23), .nilc (.t 19), none⟩, ⟨none, .st 1 (.t 23) (.t 22), none⟩] none)
 (.seq (.reg [⟨(some 24), .mv (.t 2), none⟩, ⟨(some 25), .mv (.t 1), none⟩, ⟨(some 8), .mv (.t 24), none⟩, ⟨(some 9), .mv (.t 25), none⟩] none)
 .ret)) .skip))
 (.seq (.reg [⟨(some 26), .mv (.t 1), none⟩, ⟨(some 27), .mv (.t 2), none⟩, ⟨(some 8), .mv (.t 26), none⟩, ⟨(some 9), .mv (.t 27), none⟩] none)
 .ret)))⟩
def m150 : MFn := ⟨1, 39, [.tmp 2, .tmp 3], (.seq (.reg [⟨(some 2), .mv (.k (.int .u32 0)), none⟩, ⟨(some 3), .mv (.k (.int .u32 0)), none⟩] none)
 (.seq (.reg [⟨(some 4), .mv (.k (.int .u32 0)), none⟩] none)
 (.seq (.seq (.reg [⟨(some 5), .mv (.k (.int .i64 0)), none⟩] none)
 (.block 0 (.loop (.seq (.seq (.reg [⟨(some 9), .mv (.t 5), none⟩, ⟨(some 10), .mv (.t 0), none⟩, ⟨(some 11), .lens (.t 10), none⟩, ⟨(some 12), .bin .lss (.t 9) (.t 11), none⟩] none)
 (.cond (.t 12) .skip (.exit 0)))
 (.seq (.block 1 (.reg [⟨(some 15), .mv (.t 4), none⟩, ⟨(some 16), .bin .mul (.t 15) (.k (.int .u32 16777619)), none⟩, ⟨(some 17), .mv (.t 0), none⟩, ⟨(some 18), .mv (.t 5), none⟩, ⟨(some 19), .ixstr (.t 17) (.t 18), none⟩, ⟨(some 20), .conv .u32 (.t 19), none⟩, ⟨(some 21), .bin .add (.t 16) (.t 20), none⟩, ⟨(some 4), .mv (.t 21), none⟩] none))
 (.reg [⟨(some 13), .mv (.t 5), none⟩, ⟨(some 14), .bin .add (.t 13) (.k (.int .i64 1)), none⟩, ⟨(some 5), .mv (.t 14), none⟩] none))))))
 (.seq (.reg [⟨(some 6), .mv (.k (.int .u32 1)), none⟩, ⟨(some 7), .mv (.k (.int .u32 16777619)), none⟩] none)
 (.seq (.seq (.reg [⟨(some 22), .mv (.t 0), none⟩, ⟨(some 23), .lens (.t 22), none⟩, ⟨(some 8), .mv (.t 23), none⟩] none)
 (.block 2 (.loop (.seq (.seq (.reg [⟨(some 24), .mv (.t 8), none⟩, ⟨(some 25), .bin .gtr (.t 24) (.k (.int .i64 0)), none⟩] none)
 (.cond (.t 25) .skip (.exit 2)))
 (.seq (.block 3 (.seq (.seq (.reg [⟨(some 28), .mv (.t 8), none⟩, ⟨(some 29), .bin .and (.t 28) (.k (.int .i64 1)), none⟩, ⟨(some 30), .bin .neq (.t 29) (.k (.int .i64 0)), none⟩] none)
 (.cond (.t 30) (.reg [⟨(some 31), .mv (.t 6), none⟩, ⟨(some 32), .mv (.t 7), none⟩, ⟨(some 33), .bin .mul (.t 31) (.t 32), none⟩, ⟨(some 6), .mv (.t 33), none⟩] none) .skip))
 (.reg [⟨(some 34), .mv (.t 7), none⟩, ⟨(some 35), .mv (.t 7), none⟩, ⟨(some 36), .bin .mul (.t 34) (.t 35), none⟩, ⟨(some 7), .mv (.t 36), none⟩] none)))
 (.reg [⟨(some 26), .mv (.t 8), none⟩, ⟨(some 27), .bin .shr (.t 26) (.k (.int .u64 1)), none⟩, ⟨(some 8), .mv (.t 27), none⟩] none))))))
 (.seq (.reg [⟨(some 37), .mv (.t 4), none⟩, ⟨(some 38), .mv (.t 6), none⟩, ⟨(some 2), .mv (.t 37), none⟩, ⟨(some 3), .mv (.t 38), none⟩] none)
 .ret))))))⟩
def m151 : MFn := ⟨1, 5, [.tmp 2], (.seq (.reg [⟨(some 2), .mv (.k (.int .u8 0)), none⟩] none)
 (.seq (.reg [⟨(some 3), .mv (.t 0), none⟩, ⟨(some 4), .bin .or (.t 3) (.k (.int .u8 32)), none⟩, ⟨(some 2), .mv (.t 4), none⟩] none)
 .ret))⟩
def m152 : MFn := ⟨1, 94, [.tmp 2], (.seq (.reg [⟨(some 2), .mv (.k (.bool false)), none⟩] none)
 (.seq (.reg [⟨(some 3), .mv (.k (.int .i32 94)), none⟩] none)
 (.seq (.reg [⟨(some 4), .mv (.k (.int .i64 0)), none⟩] none)
 (.seq (.seq (.reg [⟨(some 6), .mv (.t 0), none⟩, ⟨(some 7), .lens (.t 6), none⟩, ⟨(some 8), .bin .geq (.t 7) (.k (.int .i64 1)), none⟩, ⟨(some 9), .mv (.t 8), none⟩, ⟨(some 10), .mv (.t 0), (some (9, true))⟩, ⟨(some 11), .ixstr (.t 10) (.k (.int .i64 0)), (some (9, true))⟩, ⟨(some 12), .bin .eql (.t 11) (.k (.int .u8 45)), (some (9, true))⟩, ⟨(some 13), .mv (.t 12), (some (9, true))⟩, ⟨(some 14), .mv (.t 0), (some (13, false))⟩, ⟨(some 15), .ixstr (.t 14) (.k (.int .i64 0)), (some (13, false))⟩, ⟨(some 16), .bin .eql (.t 15) (.k (.int .u8 43)), (some (13, false))⟩, ⟨(some 17), .pick (.t 13) (.k (.bool true)) (.t 16), (some (9, true))⟩, ⟨(some 18), .pick (.t 9) (.t 17) (.k (.bool false)), none⟩] none)
 (.cond (.t 18) (.reg [⟨(some 19), .mv (.t 0), none⟩, ⟨(some 20), .slstr (.t 19) (some (.k (.int .i64 1))) none, none⟩, ⟨(some 0), .mv (.t 20), none⟩] none) .skip))
 (.seq (.reg [⟨(some 5), .mv (.k (.bool false)), none⟩] none)
 (.seq (.seq (.reg [⟨(some 21), .mv (.t 0), none⟩, ⟨(some 22), .lens (.t 21), none⟩, ⟨(some 23), .bin .geq (.t 22) (.k (.int .i64 2)), none⟩, ⟨(some 24), .mv (.t 23), none⟩, ⟨(some 25), .mv (.t 0), (some (24, true))⟩, ⟨(some 26), .ixstr (.t 25) (.k (.int .i64 0)), (some (24, true))⟩, ⟨(some 27), .bin .eql (.t 26) (.k (.int .u8 48)), (some (24, true))⟩, ⟨(some 28), .pick (.t 24) (.t 27) (.k (.bool false)), none⟩, ⟨(some 29), .mv (.t 28), none⟩, ⟨(some 30), .mv (.t 0), (some (29, true))⟩, ⟨(some 31), .ixstr (.t 30) (.k (.int .i64 1)), (some (29, true))⟩, ⟨(some 32), .call 96 (.k (.fn (.func 151) [] [])) [(.t 31)], (some (29, true))⟩, ⟨(some 33), .bin .eql (.t 32) (.k (.int .u8 98)), (some (29, true))⟩, ⟨(some 34), .mv (.t 33), (some (29, true))⟩, ⟨(some 35), .mv (.t 0), (some (34, false))⟩, ⟨(some 36), .ixstr (.t 35) (.k (.int .i64 1)), (some (34, false))⟩, ⟨(some 37), .call 101 (.k (.fn (.func 151) [] [])) [(.t 36)], (some (34, false))⟩, ⟨(some 38), .bin .eql (.t 37) (.k (.int .u8 111)), (some (34, false))⟩, ⟨(some 39), .pick (.t 34) (.k (.bool true)) (.t 38), (some (29, true))⟩, ⟨(some 40), .mv (.t 39), (some (29, true))⟩, ⟨(some 41), .mv (.t 0), (some (40, false))⟩, ⟨(some 42), .ixstr (.t 41) (.k (.int .i64 1)), (some (40, false))⟩, ⟨(some 43), .call 107 (.k (.fn (.func 151) [] [])) [(.t 42)], (some (40, false))⟩, ⟨(some 44), .bin .eql (.t 43) (.k (.int .u8 120)), (some (40, false))⟩, ⟨(some 45), .pick (.t 40) (.k (.bool true)) (.t 44), (some (29, true))⟩, ⟨(some 46), .pick (.t 29) (.t 45) (.k (.bool false)), none⟩] none)
 (.cond (.t 46) (.seq (.reg [⟨(some 4), .mv (.k (.int .i64 2)), none⟩] none)
 (.seq (.reg [⟨(some 3), .mv (.k (.int .i32 48)), none⟩] none)
 (.reg [⟨(some 47), .mv (.t 0), none⟩, ⟨(some 48), .ixstr (.t 47) (.k (.int .i64 1)), none⟩, ⟨(some 49), .call 113 (.k (.fn (.func 151) [] [])) [(.t 48)], none⟩, ⟨(some 50), .bin .eql (.t 49) (.k (.int .u8 120)), none⟩, ⟨(some 5), .mv (.t 50), none⟩] none))) .skip))
 (.seq (.block 0 (.loop (.seq (.seq (.reg [⟨(some 51), .mv (.t 4), none⟩, ⟨(some 52), .mv (.t 0), none⟩, ⟨(some 53), .lens (.t 52), none⟩, ⟨(some 54), .bin .lss (.t 51) (.t 53), none⟩] none)
 (.cond (.t 54) .skip (.exit 0)))
 (.seq (.block 1 (.seq (.seq (.reg [⟨(some 57), .mv (.t 0), none⟩, ⟨(some 58), .mv (.t 4), none⟩, ⟨(some 59), .ixstr (.t 57) (.t 58), none⟩, ⟨(some 60), .bin .leq (.k (.int .u8 48)) (.t 59), none⟩, ⟨(some 61), .mv (.t 60), none⟩, ⟨(some 62), .mv (.t 0), (some (61, true))⟩, ⟨(some 63), .mv (.t 4), (some (61, true))⟩, ⟨(some 64), .ixstr (.t 62) (.t 63), (some (61, true))⟩, ⟨(some 65), .bin .leq (.t 64) (.k (.int .u8 57)), (some (61, true))⟩, ⟨(some 66), .pick (.t 61) (.t 65) (.k (.bool false)), none⟩, ⟨(some 67), .mv (.t 66), none⟩, ⟨(some 68), .mv (.t 5), (some (67, false))⟩, ⟨(some 69), .mv (.t 68), (some (67, false))⟩, ⟨(some 70), .mv (.t 0), (some (69, true))⟩, ⟨(some 71), .mv (.t 4), (some (69, true))⟩, ⟨(some 72), .ixstr (.t 70) (.t 71), (some (69, true))⟩, ⟨(some 73), .call 137 (.k (.fn (.func 151) [] [])) [(.t 72)], (some (69, true))⟩, ⟨(some 74), .bin .leq (.k (.int .u8 97)) (.t 73), (some (69, true))⟩, ⟨(some 75), .pick (.t 69) (.t 74) (.k (.bool false)), (some (67, false))⟩, ⟨(some 76), .mv (.t 75), (some (67, false))⟩, ⟨(some 77), .mv (.t 0), (some (76, true))⟩, ⟨(some 78), .mv (.t 4), (some (76, true))⟩, ⟨(some 79), .ixstr (.t 77) (.t 78), (some (76, true))⟩, ⟨(some 80), .call 144 (.k (.fn (.func 151) [] [])) [(.t 79)], (some (76, true))⟩, ⟨(some 81), .bin .leq (.t 80) (.k (.int .u8 102)), (some (76, true))⟩, ⟨(some 82), .pick (.t 76) (.t 81) (.k (.bool false)), (some (67, false))⟩, ⟨(some 83), .pick (.t 67) (.k (.bool true)) (.t 82), none⟩] none)
 (.cond (.t 83) (.seq (.reg [⟨(some 3), .mv (.k (.int .i32 48)), none⟩] none)
 (.exit 1)) .skip))
 (.seq (.seq (.reg [⟨(some 84), .mv (.t 0), none⟩, ⟨(some 85), .mv (.t 4), none⟩, ⟨(some 86), .ixstr (.t 84) (.t 85), none⟩, ⟨(some 87), .bin .eql (.t 86) (.k (.int .u8 95)), none⟩] none)
 (.cond (.t 87) (.seq (.seq (.reg [⟨(some 88), .mv (.t 3), none⟩, ⟨(some 89), .bin .neq (.t 88) (.k (.int .i32 48)), none⟩] none)
 (.cond (.t 89) (.seq (.reg [⟨(some 2), .mv (.k (.bool false)), none⟩] none)
 .ret) .skip))
 (.seq (.reg [⟨(some 3), .mv (.k (.int .i32 95)), none⟩] none)
 (.exit 1))) .skip))
 (.seq (.seq (.reg [⟨(some 90), .mv (.t 3), none⟩, ⟨(some 91), .bin .eql (.t 90) (.k (.int .i32 95)), none⟩] none)
 (.cond (.t 91) (.seq (.reg [⟨(some 2), .mv (.k (.bool false)), none⟩] none)
 .ret) .skip))
 (.reg [⟨(some 3), .mv (.k (.int .i32 33)), none⟩] none)))))
 (.reg [⟨(some 55), .mv (.t 4), none⟩, ⟨(some 56), .bin .add (.t 55) (.k (.int .i64 1)), none⟩, ⟨(some 4), .mv (.t 56), none⟩] none)))))
 (.seq (.reg [⟨(some 92), .mv (.t 3), none⟩, ⟨(some 93), .bin .neq (.t 92) (.k (.int .i32 95)), none⟩, ⟨(some 2), .mv (.t 93), none⟩] none)
 .ret))))))))⟩
def m153 : MFn := ⟨1, 14, [.tmp 2], (.seq (.reg [⟨(some 2), .mv (.k (.int .i64 0)), none⟩] none)
 (.seq (.seq (.reg [⟨(some 3), .mv (.t 0), none⟩, ⟨(some 4), .bin .eql (.t 3) (.k (.int .u32 0)), none⟩] none)
 (.cond (.t 4) (.seq (.reg [⟨(some 2), .mv (.k (.int .i64 32)), none⟩] none)
 .ret) .skip))
 (.seq (.reg [⟨(some 5), .mv (.t 0), none⟩, ⟨(some 6), .mv (.t 0), none⟩, ⟨(some 7), .un .neg (.t 6), none⟩, ⟨(some 8), .bin .and (.t 5) (.t 7), none⟩, ⟨(some 9), .bin .mul (.t 8) (.k (.int .u32 125613361)), none⟩, ⟨(some 10), .bin .shr (.t 9) (.k (.int .u64 27)), none⟩, ⟨(some 11), .ixa 32 1 (.g 7) (.t 10), none⟩, ⟨(some 12), .ld none (.t 11), none⟩, ⟨(some 13), .conv .i64 (.t 12), none⟩, ⟨(some 2), .mv (.t 13), none⟩] none)
 .ret)))⟩
def m184 : MFn := ⟨0, 11, [], (.seq (.reg [⟨(some 0), .bld [(.int .u8 0), (.int .u8 0), (.int .u8 0), (.int .u8 0), (.int .u8 0), (.int .u8 0), (.int .u8 0), (.int .u8 0), (.int .u8 0), (.int .u8 0), (.int .u8 0), (.int .u8 0), (.int .u8 0), (.int .u8 0), (.int .u8 0), (.int .u8 0), (.int .u8 0), (.int .u8 0), (.int .u8 0), (.int .u8 0), (.int .u8 0), (.int .u8 0), (.int .u8 0), (.int .u8 0), (.int .u8 0), (.int .u8 0), (.int .u8 0), (.int .u8 0), (.int .u8 0), (.int .u8 0), (.int .u8 0), (.int .u8 0)] [(0, 1, (.k (.int .u8 0))), (1, 1, (.k (.int .u8 1))), (2, 1, (.k (.int .u8 28))), (3, 1, (.k (.int .u8 2))), (4, 1, (.k (.int .u8 29))), (5, 1, (.k (.int .u8 14))), (6, 1, (.k (.int .u8 24))), (7, 1, (.k (.int .u8 3))), (8, 1, (.k (.int .u8 30))), (9, 1, (.k (.int .u8 22))), (10, 1, (.k (.int .u8 20))), (11, 1, (.k (.int .u8 15))), (12, 1, (.k (.int .u8 25))), (13, 1, (.k (.int .u8 17))), (14, 1, (.k (.int .u8 4))), (15, 1, (.k (.int .u8 8))), (16, 1, (.k (.int .u8 31))), (17, 1, (.k (.int .u8 27))), (18, 1, (.k (.int .u8 13))), (19, 1, (.k (.int .u8 23))), (20, 1, (.k (.int .u8 21))), (21, 1, (.k (.int .u8 19))), (22, 1, (.k (.int .u8 16))), (23, 1, (.k (.int .u8 7))), (24, 1, (.k (.int .u8 26))), (25, 1, (.k (.int .u8 12))), (26, 1, (.k (.int .u8 18))), (27, 1, (.k (.int .u8 6))), (28, 1, (.k (.int .u8 11))), (29, 1, (.k (.int .u8 5))), (30, 1, (.k (.int .u8 10))), (31, 1, (.k (.int .u8 9)))], none⟩, ⟨none, .st 32 (.g 7) (.t 0), none⟩] none)
 (.seq (.reg [⟨(some 1), .bld [(.int .u8 0), (.int .u8 0), (.int .u8 0), (.int .u8 0), (.int .u8 0), (.int .u8 0), (.int .u8 0), (.int .u8 0), (.int .u8 0), (.int .u8 0), (.int .u8 0), (.int .u8 0), (.int .u8 0), (.int .u8 0), (.int .u8 0), (.int .u8 0), (.int .u8 0), (.int .u8 0), (.int .u8 0), (.int .u8 0), (.int .u8 0), (.int .u8 0), (.int .u8 0), (.int .u8 0), (.int .u8 0), (.int .u8 0), (.int .u8 0), (.int .u8 0), (.int .u8 0), (.int .u8 0), (.int .u8 0), (.int .u8 0), (.int .u8 0), (.int .u8 0), (.int .u8 0), (.int .u8 0), (.int .u8 0), (.int .u8 0), (.int .u8 0), (.int .u8 0), (.int .u8 0), (.int .u8 0), (.int .u8 0), (.int .u8 0), (.int .u8 0), (.int .u8 0), (.int .u8 0), (.int .u8 0), (.int .u8 0), (.int .u8 0), (.int .u8 0), (.int .u8 0), (.int .u8 0), (.int .u8 0), (.int .u8 0), (.int .u8 0), (.int .u8 0), (.int .u8 0), (.int .u8 0), (.int .u8 0), (.int .u8 0), (.int .u8 0), (.int .u8 0), (.int .u8 0)] [(0, 1, (.k (.int .u8 0))), (1, 1, (.k (.int .u8 1))), (2, 1, (.k (.int .u8 56))), (3, 1, (.k (.int .u8 2))), (4, 1, (.k (.int .u8 57))), (5, 1, (.k (.int .u8 49))), (6, 1, (.k (.int .u8 28))), (7, 1, (.k (.int .u8 3))), (8, 1, (.k (.int .u8 61))), (9, 1, (.k (.int .u8 58))), (10, 1, (.k (.int .u8 42))), (11, 1, (.k (.int .u8 50))), (12, 1, (.k (.int .u8 38))), (13, 1, (.k (.int .u8 29))), (14, 1, (.k (.int .u8 17))), (15, 1, (.k (.int .u8 4))), (16, 1, (.k (.int .u8 62))), (17, 1, (.k (.int .u8 47))), (18, 1, (.k (.int .u8 59))), (19, 1, (.k (.int .u8 36))), (20, 1, (.k (.int .u8 45))), (21, 1, (.k (.int .u8 43))), (22, 1, (.k (.int .u8 51))), (23, 1, (.k (.int .u8 22))), (24, 1, (.k (.int .u8 53))), (25, 1, (.k (.int .u8 39))), (26, 1, (.k (.int .u8 33))), (27, 1, (.k (.int .u8 30))), (28, 1, (.k (.int .u8 24))), (29, 1, (.k (.int .u8 18))), (30, 1, (.k (.int .u8 12))), (31, 1, (.k (.int .u8 5))), (32, 1, (.k (.int .u8 63))), (33, 1, (.k (.int .u8 55))), (34, 1, (.k (.int .u8 48))), (35, 1, (.k (.int .u8 27))), (36, 1, (.k (.int .u8 60))), (37, 1, (.k (.int .u8 41))), (38, 1, (.k (.int .u8 37))), (39, 1, (.k (.int .u8 16))), (40, 1, (.k (.int .u8 46))), (41, 1, (.k (.int .u8 35))), (42, 1, (.k (.int .u8 44))), (43, 1, (.k (.int .u8 21))), (44, 1, (.k (.int .u8 52))), (45, 1, (.k (.int .u8 32))), (46, 1, (.k (.int .u8 23))), (47, 1, (.k (.int .u8 11))), (48, 1, (.k (.int .u8 54))), (49, 1, (.k (.int .u8 26))), (50, 1, (.k (.int .u8 40))), (51, 1, (.k (.int .u8 15))), (52, 1, (.k (.int .u8 34))), (53, 1, (.k (.int .u8 20))), (54, 1, (.k (.int .u8 31))), (55, 1, (.k (.int .u8 10))), (56, 1, (.k (.int .u8 25))), (57, 1, (.k (.int .u8 14))), (58, 1, (.k (.int .u8 19))), (59, 1, (.k (.int .u8 9))), (60, 1, (.k (.int .u8 13))), (61, 1, (.k (.int .u8 8))), (62, 1, (.k (.int .u8 7))), (63, 1, (.k (.int .u8 6)))], none⟩, ⟨none, .st 64 (.g 0) (.t 1), none⟩] none)
 (.seq (.reg [⟨(some 2), .bld [(.int .u64 0), (.int .u64 0), (.int .u64 0), (.int .u64 0), (.int .u64 0), (.int .u64 0), (.int .u64 0), (.int .u64 0), (.int .u64 0), (.int .u64 0), (.int .u64 0), (.int .u64 0), (.int .u64 0), (.int .u64 0), (.int .u64 0), (.int .u64 0), (.int .u64 0), (.int .u64 0), (.int .u64 0), (.int .u64 0)] [(0, 1, (.k (.int .u64 1))), (1, 1, (.k (.int .u64 10))), (2, 1, (.k (.int .u64 100))), (3, 1, (.k (.int .u64 1000))), (4, 1, (.k (.int .u64 10000))), (5, 1, (.k (.int .u64 100000))), (6, 1, (.k (.int .u64 1000000))), (7, 1, (.k (.int .u64 10000000))), (8, 1, (.k (.int .u64 100000000))), (9, 1, (.k (.int .u64 1000000000))), (10, 1, (.k (.int .u64 10000000000))), (11, 1, (.k (.int .u64 100000000000))), (12, 1, (.k (.int .u64 1000000000000))), (13, 1, (.k (.int .u64 10000000000000))), (14, 1, (.k (.int .u64 100000000000000))), (15, 1, (.k (.int .u64 1000000000000000))), (16, 1, (.k (.int .u64 10000000000000000))), (17, 1, (.k (.int .u64 100000000000000000))), (18, 1, (.k (.int .u64 1000000000000000000))), (19, 1, (.k (.int .u64 10000000000000000000)))], none⟩, ⟨none, .st 20 (.g 4) (.t 2), none⟩] none)
 (.seq (.reg [⟨(some 3), .bld [(.int .u8 0), (.int .u8 0)] [(0, 1, (.k (.int .u8 128))), (1, 1, (.k (.int .u8 191)))], none⟩, ⟨(some 4), .bld [(.int .u8 0), (.int .u8 0)] [(0, 1, (.k (.int .u8 160))), (1, 1, (.k (.int .u8 191)))], none⟩, ⟨(some 5), .bld [(.int .u8 0), (.int .u8 0)] [(0, 1, (.k (.int .u8 128))), (1, 1, (.k (.int .u8 159)))], none⟩, ⟨(some 6), .bld [(.int .u8 0), (.int .u8 0)] [(0, 1, (.k (.int .u8 144))), (1, 1, (.k (.int .u8 191)))], none⟩, ⟨(some 7), .bld [(.int .u8 0), (.int .u8 0)] [(0, 1, (.k (.int .u8 128))), (1, 1, (.k (.int .u8 143)))], none⟩, ⟨(some 8), .bld [(.int .u8 0), (.int .u8 0), (.int .u8 0), (.int .u8 0), (.int .u8 0), (.int .u8 0), (.int .u8 0), (.int .u8 0), (.int .u8 0), (.int .u8 0), (.int .u8 0), (.int .u8 0), (.int .u8 0), (.int .u8 0), (.int .u8 0), (.int .u8 0), (.int .u8 0), (.int .u8 0), (.int .u8 0), (.int .u8 0), (.int .u8 0), (.int .u8 0), (.int .u8 0), (.int .u8 0), (.int .u8 0), (.int .u8 0), (.int .u8 0), (.int .u8 0), (.int .u8 0), (.int .u8 0), (.int .u8 0), (.int .u8 0)] [(0, 2, (.t 3)), (2, 2, (.t 4)), (4, 2, (.t 5)), (6, 2, (.t 6)), (8, 2, (.t 7))], none⟩, ⟨none, .st 32 (.g 6) (.t 8), none⟩] none)
 (.seq (.reg [⟨(some 9), .call 73 (.k (.fn (.func 143) [] [])) [(.k (.str ⟨#[118, 97, 108, 117, 101, 32, 111, 117, 116, 32, 111, 102, 32, 114, 97, 110, 103, 101]⟩))], none⟩, ⟨none, .st 1 (.g 3) (.t 9), none⟩] none)
 (.reg [⟨(some 10), .call 74 (.k (.fn (.func 143) [] [])) [(.k (.str ⟨#[105, 110, 118, 97, 108, 105, 100, 32, 115, 121, 110, 116, 97, 120]⟩))], none⟩, ⟨none, .st 1 (.g 2) (.t 10), none⟩] none))))))⟩

theorem low3 : lowFn Tryd.prog Tryd.f3 = some m3 := by kernel_rfl
theorem low4 : lowFn Tryd.prog Tryd.f4 = some m4 := by kernel_rfl
theorem low5 : lowFn Tryd.prog Tryd.f5 = some m5 := by kernel_rfl
theorem low6 : lowFn Tryd.prog Tryd.f6 = some m6 := by kernel_rfl
theorem low7 : lowFn Tryd.prog Tryd.f7 = some m7 := by kernel_rfl
theorem low8 : lowFn Tryd.prog Tryd.f8 = some m8 := by kernel_rfl
theorem low9 : lowFn Tryd.prog Tryd.f9 = some m9 := by kernel_rfl
theorem low10 : lowFn Tryd.prog Tryd.f10 = some m10 := by kernel_rfl
theorem low11 : lowFn Tryd.prog Tryd.f11 = some m11 := by kernel_rfl
theorem low12 : lowFn Tryd.prog Tryd.f12 = some m12 := by kernel_rfl
theorem low13 : lowFn Tryd.prog Tryd.f13 = some m13 := by kernel_rfl
theorem low14 : lowFn Tryd.prog Tryd.f14 = some m14 := by kernel_rfl
theorem low16 : lowFn Tryd.prog Tryd.f16 = some m16 := by kernel_rfl
theorem low17 : lowFn Tryd.prog Tryd.f17 = some m17 := by kernel_rfl
theorem low18 : lowFn Tryd.prog Tryd.f18 = some m18 := by kernel_rfl
theorem low19 : lowFn Tryd.prog Tryd.f19 = some m19 := by kernel_rfl
theorem low20 : lowFn Tryd.prog Tryd.f20 = some m20 := by kernel_rfl
theorem low21 : lowFn Tryd.prog Tryd.f21 = some m21 := by kernel_rfl
theorem low22 : lowFn Tryd.prog Tryd.f22 = some m22 := by kernel_rfl
theorem low23 : lowFn Tryd.prog Tryd.f23 = some m23 := by kernel_rfl
theorem low24 : lowFn Tryd.prog Tryd.f24 = some m24 := by kernel_rfl
theorem low25 : lowFn Tryd.prog Tryd.f25 = some m25 := by kernel_rfl
theorem low26 : lowFn Tryd.prog Tryd.f26 = some m26 := by kernel_rfl
theorem low27 : lowFn Tryd.prog Tryd.f27 = some m27 := by kernel_rfl
theorem low28 : lowFn Tryd.prog Tryd.f28 = some m28 := by kernel_rfl
theorem low29 : lowFn Tryd.prog Tryd.f29 = some m29 := by kernel_rfl
theorem low30 : lowFn Tryd.prog Tryd.f30 = some m30 := by kernel_rfl
theorem low31 : lowFn Tryd.prog Tryd.f31 = some m31 := by kernel_rfl
theorem low32 : lowFn Tryd.prog Tryd.f32 = some m32 := by kernel_rfl
theorem low33 : lowFn Tryd.prog Tryd.f33 = some m33 := by kernel_rfl
theorem low34 : lowFn Tryd.prog Tryd.f34 = some m34 := by kernel_rfl
theorem low35 : lowFn Tryd.prog Tryd.f35 = some m35 := by kernel_rfl
theorem low36 : lowFn Tryd.prog Tryd.f36 = some m36 := by kernel_rfl
theorem low37 : lowFn Tryd.prog Tryd.f37 = some m37 := by kernel_rfl
theorem low38 : lowFn Tryd.prog Tryd.f38 = some m38 := by kernel_rfl
theorem low39 : lowFn Tryd.prog Tryd.f39 = some m39 := by kernel_rfl
theorem low40 : lowFn Tryd.prog Tryd.f40 = some m40 := by kernel_rfl
theorem low41 : lowFn Tryd.prog Tryd.f41 = some m41 := by kernel_rfl
theorem low42 : lowFn Tryd.prog Tryd.f42 = some m42 := by kernel_rfl
theorem low43 : lowFn Tryd.prog Tryd.f43 = some m43 := by kernel_rfl
theorem low44 : lowFn Tryd.prog Tryd.f44 = some m44 := by kernel_rfl
theorem low45 : lowFn Tryd.prog Tryd.f45 = some m45 := by kernel_rfl
theorem low46 : lowFn Tryd.prog Tryd.f46 = some m46 := by kernel_rfl
theorem low47 : lowFn Tryd.prog Tryd.f47 = some m47 := by kernel_rfl
theorem low48 : lowFn Tryd.prog Tryd.f48 = some m48 := by kernel_rfl
theorem low49 : lowFn Tryd.prog Tryd.f49 = some m49 := by kernel_rfl
theorem low50 : lowFn Tryd.prog Tryd.f50 = some m50 := by kernel_rfl
theorem low51 : lowFn Tryd.prog Tryd.f51 = some m51 := by kernel_rfl
theorem low52 : lowFn Tryd.prog Tryd.f52 = some m52 := by kernel_rfl
theorem low53 : lowFn Tryd.prog Tryd.f53 = some m53 := by kernel_rfl
theorem low54 : lowFn Tryd.prog Tryd.f54 = some m54 := by kernel_rfl
theorem low55 : lowFn Tryd.prog Tryd.f55 = some m55 := by kernel_rfl
theorem low56 : lowFn Tryd.prog Tryd.f56 = some m56 := by kernel_rfl
theorem low57 : lowFn Tryd.prog Tryd.f57 = some m57 := by kernel_rfl
theorem low58 : lowFn Tryd.prog Tryd.f58 = some m58 := by kernel_rfl
theorem low59 : lowFn Tryd.prog Tryd.f59 = some m59 := by kernel_rfl
theorem low60 : lowFn Tryd.prog Tryd.f60 = some m60 := by kernel_rfl
theorem low61 : lowFn Tryd.prog Tryd.f61 = some m61 := by kernel_rfl
theorem low62 : lowFn Tryd.prog Tryd.f62 = some m62 := by kernel_rfl
theorem low63 : lowFn Tryd.prog Tryd.f63 = some m63 := by kernel_rfl
theorem low64 : lowFn Tryd.prog Tryd.f64 = some m64 := by kernel_rfl
theorem low65 : lowFn Tryd.prog Tryd.f65 = some m65 := by kernel_rfl
theorem low66 : lowFn Tryd.prog Tryd.f66 = some m66 := by kernel_rfl
theorem low67 : lowFn Tryd.prog Tryd.f67 = some m67 := by kernel_rfl
theorem low68 : lowFn Tryd.prog Tryd.f68 = some m68 := by kernel_rfl
theorem low69 : lowFn Tryd.prog Tryd.f69 = some m69 := by kernel_rfl
theorem low70 : lowFn Tryd.prog Tryd.f70 = some m70 := by kernel_rfl
theorem low71 : lowFn Tryd.prog Tryd.f71 = some m71 := by kernel_rfl
theorem low72 : lowFn Tryd.prog Tryd.f72 = some m72 := by kernel_rfl
theorem low73 : lowFn Tryd.prog Tryd.f73 = some m73 := by kernel_rfl
theorem low74 : lowFn Tryd.prog Tryd.f74 = some m74 := by kernel_rfl
theorem low75 : lowFn Tryd.prog Tryd.f75 = some m75 := by kernel_rfl
theorem low76 : lowFn Tryd.prog Tryd.f76 = some m76 := by kernel_rfl
theorem low77 : lowFn Tryd.prog Tryd.f77 = some m77 := by kernel_rfl
theorem low78 : lowFn Tryd.prog Tryd.f78 = some m78 := by kernel_rfl
theorem low79 : lowFn Tryd.prog Tryd.f79 = some m79 := by kernel_rfl
theorem low80 : lowFn Tryd.prog Tryd.f80 = some m80 := by kernel_rfl
theorem low81 : lowFn Tryd.prog Tryd.f81 = some m81 := by kernel_rfl
theorem low82 : lowFn Tryd.prog Tryd.f82 = some m82 := by kernel_rfl
theorem low83 : lowFn Tryd.prog Tryd.f83 = some m83 := by kernel_rfl
theorem low84 : lowFn Tryd.prog Tryd.f84 = some m84 := by kernel_rfl
theorem low85 : lowFn Tryd.prog Tryd.f85 = some m85 := by kernel_rfl
theorem low86 : lowFn Tryd.prog Tryd.f86 = some m86 := by kernel_rfl
theorem low87 : lowFn Tryd.prog Tryd.f87 = some m87 := by kernel_rfl
theorem low88 : lowFn Tryd.prog Tryd.f88 = some m88 := by kernel_rfl
theorem low89 : lowFn Tryd.prog Tryd.f89 = some m89 := by kernel_rfl
theorem low90 : lowFn Tryd.prog Tryd.f90 = some m90 := by kernel_rfl
theorem low91 : lowFn Tryd.prog Tryd.f91 = some m91 := by kernel_rfl
theorem low92 : lowFn Tryd.prog Tryd.f92 = some m92 := by kernel_rfl
theorem low93 : lowFn Tryd.prog Tryd.f93 = some m93 := by kernel_rfl
theorem low94 : lowFn Tryd.prog Tryd.f94 = some m94 := by kernel_rfl
theorem low95 : lowFn Tryd.prog Tryd.f95 = some m95 := by kernel_rfl
theorem low96 : lowFn Tryd.prog Tryd.f96 = some m96 := by kernel_rfl
theorem low97 : lowFn Tryd.prog Tryd.f97 = some m97 := by kernel_rfl
theorem low98 : lowFn Tryd.prog Tryd.f98 = some m98 := by kernel_rfl
theorem low99 : lowFn Tryd.prog Tryd.f99 = some m99 := by kernel_rfl
theorem low101 : lowFn Tryd.prog Tryd.f101 = some m101 := by kernel_rfl
theorem low102 : lowFn Tryd.prog Tryd.f102 = some m102 := by kernel_rfl
theorem low103 : lowFn Tryd.prog Tryd.f103 = some m103 := by kernel_rfl
theorem low104 : lowFn Tryd.prog Tryd.f104 = some m104 := by kernel_rfl
theorem low105 : lowFn Tryd.prog Tryd.f105 = some m105 := by kernel_rfl
theorem low106 : lowFn Tryd.prog Tryd.f106 = some m106 := by kernel_rfl
theorem low107 : lowFn Tryd.prog Tryd.f107 = some m107 := by kernel_rfl
theorem low108 : lowFn Tryd.prog Tryd.f108 = some m108 := by kernel_rfl
theorem low109 : lowFn Tryd.prog Tryd.f109 = some m109 := by kernel_rfl
theorem low110 : lowFn Tryd.prog Tryd.f110 = some m110 := by kernel_rfl
theorem low111 : lowFn Tryd.prog Tryd.f111 = some m111 := by kernel_rfl
theorem low112 : lowFn Tryd.prog Tryd.f112 = some m112 := by kernel_rfl
theorem low113 : lowFn Tryd.prog Tryd.f113 = some m113 := by kernel_rfl
theorem low114 : lowFn Tryd.prog Tryd.f114 = some m114 := by kernel_rfl
theorem low115 : lowFn Tryd.prog Tryd.f115 = some m115 := by kernel_rfl
theorem low116 : lowFn Tryd.prog Tryd.f116 = some m116 := by kernel_rfl
theorem low118 : lowFn Tryd.prog Tryd.f118 = some m118 := by kernel_rfl
theorem low119 : lowFn Tryd.prog Tryd.f119 = some m119 := by kernel_rfl
theorem low120 : lowFn Tryd.prog Tryd.f120 = some m120 := by kernel_rfl
theorem low121 : lowFn Tryd.prog Tryd.f121 = some m121 := by kernel_rfl
theorem low122 : lowFn Tryd.prog Tryd.f122 = some m122 := by kernel_rfl
theorem low123 : lowFn Tryd.prog Tryd.f123 = some m123 := by kernel_rfl
theorem low124 : lowFn Tryd.prog Tryd.f124 = some m124 := by kernel_rfl
theorem low125 : lowFn Tryd.prog Tryd.f125 = some m125 := by kernel_rfl
theorem low126 : lowFn Tryd.prog Tryd.f126 = some m126 := by kernel_rfl
theorem low127 : lowFn Tryd.prog Tryd.f127 = some m127 := by kernel_rfl
theorem low130 : lowFn Tryd.prog Tryd.f130 = some m130 := by kernel_rfl
theorem low131 : lowFn Tryd.prog Tryd.f131 = some m131 := by kernel_rfl
theorem low132 : lowFn Tryd.prog Tryd.f132 = some m132 := by kernel_rfl
theorem low133 : lowFn Tryd.prog Tryd.f133 = some m133 := by kernel_rfl
theorem low134 : lowFn Tryd.prog Tryd.f134 = some m134 := by kernel_rfl
theorem low135 : lowFn Tryd.prog Tryd.f135 = some m135 := by kernel_rfl
theorem low136 : lowFn Tryd.prog Tryd.f136 = some m136 := by kernel_rfl
theorem low137 : lowFn Tryd.prog Tryd.f137 = some m137 := by kernel_rfl
theorem low139 : lowFn Tryd.prog Tryd.f139 = some m139 := by kernel_rfl
theorem low140 : lowFn Tryd.prog Tryd.f140 = some m140 := by kernel_rfl
theorem low141 : lowFn Tryd.prog Tryd.f141 = some m141 := by kernel_rfl
theorem low142 : lowFn Tryd.prog Tryd.f142 = some m142 := by kernel_rfl
theorem low143 : lowFn Tryd.prog Tryd.f143 = some m143 := by kernel_rfl
theorem low144 : lowFn Tryd.prog Tryd.f144 = some m144 := by kernel_rfl
theorem low145 : lowFn Tryd.prog Tryd.f145 = some m145 := by kernel_rfl
theorem low146 : lowFn Tryd.prog Tryd.f146 = some m146 := by kernel_rfl
theorem low147 : lowFn Tryd.prog Tryd.f147 = some m147 := by kernel_rfl
theorem low148 : lowFn Tryd.prog Tryd.f148 = some m148 := by kernel_rfl
theorem low150 : lowFn Tryd.prog Tryd.f150 = some m150 := by kernel_rfl
theorem low151 : lowFn Tryd.prog Tryd.f151 = some m151 := by kernel_rfl
theorem low152 : lowFn Tryd.prog Tryd.f152 = some m152 := by kernel_rfl
theorem low153 : lowFn Tryd.prog Tryd.f153 = some m153 := by kernel_rfl
theorem low184 : lowFn Tryd.prog Tryd.f184 = some m184 := by kernel_rfl

end Go.Nx
end
section
set_option linter.unusedVariables false
namespace Go.Nx
open Go.RowKit

theorem obj_t {o : Int} (h : 1 ≤ o) (h' : o ≤ 64) : obj o = true := decide_eq_true ⟨h, h'⟩
theorem obj_f {o : Int} (h : o < 1 ∨ 64 < o) : obj o = false := decide_eq_false (by omega)
theorem obj_iff {o : Int} : obj o = true ↔ 1 ≤ o ∧ o ≤ 64 := by simp [obj]
theorem bit_out {o : Int} (h : obj o = false) : bit o = 0 := by simp [bit, h]
theorem bit_in {o : Int} (h : obj o = true) : bit o = 1#64 <<< (o - 1).toNat := by simp [bit, h]
theorem bv1 : bv 1 = 1#64 := rfl
theorem shr_bit (b : B) (k : Nat) (hk : k < 64) : eqI (Int.tmod (iv (b >>> k)) 2) 1 = b.getLsbD k := by
  rw [eqI_def]
  have h0 := (R_iv (b >>> k)).1
  rw [Int.tmod_eq_emod_of_nonneg h0]
  unfold iv
  rw [Bool.eq_iff_iff, beq_iff_eq, BitVec.toNat_ushiftRight, BitVec.getLsbD, Nat.testBit, Nat.and_comm]
  simp only [bne_iff_ne, ne_eq, Nat.and_one_is_mod]
  omega
theorem first_get (n : Int) (i : Nat) (hi : i < 64) : (first n).getLsbD i = decide ((i : Int) < n) := by
  unfold first
  split
  · rename_i h
    rw [decide_eq_false (by omega)]; exact BitVec.getLsbD_zero
  · rename_i h
    rw [BitVec.getLsbD_ushiftRight, BitVec.getLsbD_allOnes]
    rw [Bool.eq_iff_iff]; simp only [decide_eq_true_eq]
    omega
theorem first_add (o : Int) (h : 1 ≤ o) (h' : o ≤ 64) : add (first (o - 1)) o = first o := by
  apply BitVec.eq_of_getLsbD_eq
  intro i hi
  rw [add, BitVec.getLsbD_or, first_get _ _ hi, first_get _ _ hi, bit_get, obj_t h h', Bool.true_and, ← Bool.decide_or]
  apply decide_eq_decide.2
  omega
theorem first_big (n : Int) (h : 64 ≤ n) : first n = first 64 := by
  unfold first
  rw [if_neg (by omega), if_neg (by omega)]
  congr 2
  omega
theorem first_small (n : Int) (h : n < 1) : first n = 0 := by unfold first; rw [if_pos h]
theorem has_and (a b : B) (o : Int) : has (a &&& b) o = (has a o && has b o) := by
  unfold has; rw [BitVec.getLsbD_and]; cases obj o <;> cases a.getLsbD (o - 1).toNat <;> cases b.getLsbD (o - 1).toNat <;> rfl
theorem has_or (a b : B) (o : Int) : has (a ||| b) o = (has a o || has b o) := by
  unfold has; rw [BitVec.getLsbD_or]; cases obj o <;> cases a.getLsbD (o - 1).toNat <;> cases b.getLsbD (o - 1).toNat <;> rfl
theorem has_not (a : B) (o : Int) : has (~~~ a) o = (obj o && !has a o) := by
  unfold has
  rw [BitVec.getLsbD_not]
  by_cases h : obj o = true
  · have := obj_iff.1 h
    rw [h, decide_eq_true (by omega)]; simp
  · simp only [Bool.not_eq_true] at h; simp [h]
theorem has_obj {s : B} {o : Int} (h : obj o = false) : has s o = false := by simp [has, h]
theorem has_zero (o : Int) : has 0 o = false := by simp [has]
theorem has_range {s : B} {i : Int} (h : has s i = true) : 1 ≤ i ∧ i ≤ 64 := by
  unfold has at h; rw [Bool.and_eq_true] at h; exact obj_iff.1 h.1
theorem has_add (s : B) (o p : Int) : has (add s o) p = (has s p || (obj o && decide (p = o))) := by
  unfold has add
  rw [BitVec.getLsbD_or, bit_get]
  by_cases hp : obj p = true
  · have h1 := of_decide_eq_true hp
    rw [hp, Bool.true_and, Bool.true_and]
    by_cases ho : obj o = true
    · have h2 := of_decide_eq_true ho
      rw [ho, Bool.true_and, Bool.true_and]
      congr 1
      apply decide_eq_decide.2; omega
    · simp only [Bool.not_eq_true] at ho; simp [ho]
  · simp only [Bool.not_eq_true] at hp
    rw [hp, Bool.false_and, Bool.false_and, Bool.false_or]
    by_cases e : p = o
    · subst e; simp [hp]
    · simp [e]
theorem has_first (n i : Int) : has (first n) i = (obj i && decide (i ≤ n)) := by
  unfold has
  by_cases h : obj i = true
  · have := obj_iff.1 h
    rw [first_get _ _ (by omega), h, Bool.true_and, Bool.true_and]
    apply decide_eq_decide.2; omega
  · simp only [Bool.not_eq_true] at h; simp [h]
theorem ext_has {a b : B} (h : ∀ o, 1 ≤ o → o ≤ 64 → has a o = has b o) : a = b := by
  apply BitVec.eq_of_getLsbD_eq
  intro i hi
  have := h (i + 1) (by omega) (by omega)
  unfold has at this
  rw [obj_t (by omega) (by omega), Bool.true_and, Bool.true_and] at this
  have e : ((i : Int) + 1 - 1).toNat = i := by omega
  rw [e] at this; exact this
theorem under_iff {a b : B} : under a b = true ↔ ∀ o, has a o = true → has b o = true := by
  unfold under
  rw [beq_iff_eq]
  constructor
  · intro h o ho
    rw [← h, has_and, Bool.and_eq_true] at ho
    exact ho.2
  · intro h
    apply ext_has
    intro o _ _
    rw [has_and]
    cases e : has a o with
    | false => rfl
    | true => rw [h o e]; rfl
def ofL (l : List Int) : B := l.foldl add 0
theorem has_foldl (l : List Int) : ∀ (s : B) (o : Int), has (l.foldl add s) o = (has s o || (obj o && decide (o ∈ l))) := by
  induction l with
  | nil => intro s o; simp
  | cons x l ih =>
    intro s o
    rw [List.foldl_cons, ih, has_add]
    by_cases e : o = x
    · subst e; cases has s o <;> cases obj o <;> simp
    · simp [e]
theorem has_ofL (l : List Int) (o : Int) : has (ofL l) o = (obj o && decide (o ∈ l)) := by
  unfold ofL; rw [has_foldl, has_zero, Bool.false_or]
theorem ofL_snoc (l : List Int) (x : Int) : ofL (l ++ [x]) = add (ofL l) x := by simp [ofL]
def lsN (s : B) : Nat → List Int
  | 0 => []
  | k + 1 => if has s (k + 1) = true then lsN s k ++ [(k : Int) + 1] else lsN s k
def lsL (s : B) : List Int := lsN s 64
theorem mem_lsN (s : B) (o : Int) : ∀ k : Nat, o ∈ lsN s k ↔ has s o = true ∧ o ≤ k
  | 0 => by
    simp only [lsN, List.not_mem_nil, false_iff]
    intro ⟨h1, h2⟩; have := has_range h1; omega
  | k + 1 => by
    unfold lsN
    split
    · rename_i h
      rw [List.mem_append, mem_lsN s o k, List.mem_singleton]
      constructor
      · rintro (⟨h1, h2⟩ | rfl)
        · exact ⟨h1, by omega⟩
        · exact ⟨h, by omega⟩
      · rintro ⟨h1, h2⟩
        by_cases e : o = (k : Int) + 1
        · exact .inr e
        · exact .inl ⟨h1, by omega⟩
    · rename_i h
      rw [mem_lsN s o k]
      constructor
      · rintro ⟨h1, h2⟩; exact ⟨h1, by omega⟩
      · rintro ⟨h1, h2⟩
        refine ⟨h1, ?_⟩
        by_cases e : o = (k : Int) + 1
        · subst e; exact absurd h1 h
        · omega
theorem mem_lsL {s : B} {o : Int} : o ∈ lsL s ↔ has s o = true := by
  unfold lsL; rw [mem_lsN]
  constructor
  · exact fun h => h.1
  · exact fun h => ⟨h, (has_range h).2⟩
theorem lsN_len (s : B) : ∀ k, (lsN s k).length ≤ k
  | 0 => by simp [lsN]
  | k + 1 => by
    unfold lsN
    have := lsN_len s k
    split
    · simp; omega
    · omega
theorem lsL_len (s : B) : (lsL s).length ≤ 64 := lsN_len s 64
theorem lsN_sorted (s : B) : ∀ k, (lsN s k).Pairwise (· < ·)
  | 0 => by simp [lsN]
  | k + 1 => by
    unfold lsN
    split
    · rw [List.pairwise_append]
      refine ⟨lsN_sorted s k, by simp, fun a ha b hb => ?_⟩
      have := ((mem_lsN s a k).1 ha).2
      simp at hb; omega
    · exact lsN_sorted s k
theorem lsL_nodup (s : B) : (lsL s).Nodup := (lsN_sorted s 64).imp fun h => by omega
theorem ofL_lsL (s : B) : ofL (lsL s) = s := by
  apply ext_has
  intro o h1 h2
  rw [has_ofL, obj_t h1 h2, Bool.true_and, Bool.eq_iff_iff, decide_eq_true_eq, mem_lsL]
end Go.Nx
end
section
set_option linter.unusedVariables false
namespace Go.Nx
open Go.RowKit
open Classical

def row (L : List (List Int)) (o : Int) : List Int := L[(o - 1).toNat]?.getD []
def own (L : List (List Int)) : B := first L.length
def edge (L : List (List Int)) (o v : Int) : Prop := v ∈ row L o ∧ has (own L) v = true
def Lev (L : List (List Int)) (op : Int → Bool) (s : B) : Nat → Int → Prop
  | 0, v => has s v = true ∧ has (own L) v = true
  | k + 1, v => ∃ o, Lev L op s k o ∧ op o = true ∧ edge L o v
theorem lev_own {L : List (List Int)} {op : Int → Bool} {s : B} : ∀ {k : Nat} {v : Int}, Lev L op s k v → has (own L) v = true
  | 0, v, h => h.2
  | k + 1, v, ⟨o, _, _, h⟩ => h.2
def Rch (L : List (List Int)) (op : Int → Bool) (s : B) (v : Int) : Prop := ∃ k, Lev L op s k v
theorem rch_root {L : List (List Int)} {op : Int → Bool} {s : B} {v : Int} (h : has s v = true) (h' : has (own L) v = true) : Rch L op s v := ⟨0, h, h'⟩
theorem rch_step {L : List (List Int)} {op : Int → Bool} {s : B} {o v : Int} (h : Rch L op s o) (h1 : op o = true) (h2 : edge L o v) : Rch L op s v := by
  obtain ⟨k, hk⟩ := h; exact ⟨k + 1, o, hk, h1, h2⟩
theorem rch_ind {L : List (List Int)} {op : Int → Bool} {s : B} {Q : Int → Prop} (h0 : ∀ v, has s v = true → has (own L) v = true → Q v) (h1 : ∀ o v, Rch L op s o → Q o → op o = true → edge L o v → Q v) : ∀ {v : Int}, Rch L op s v → Q v := by
  intro v ⟨k, hk⟩
  induction k generalizing v with
  | zero => exact h0 v hk.1 hk.2
  | succ k ih => obtain ⟨o, a, b, c⟩ := hk; exact h1 o v ⟨k, a⟩ (ih a) b c
theorem rch_own {L : List (List Int)} {op : Int → Bool} {s : B} {v : Int} (h : Rch L op s v) : has (own L) v = true := by obtain ⟨k, hk⟩ := h; exact lev_own hk
noncomputable def ofP (p : Int → Prop) : B := ofL ((lsL (first 64)).filter fun o => decide (p o))
theorem has_ofP (p : Int → Prop) (o : Int) : has (ofP p) o = true ↔ obj o = true ∧ p o := by
  unfold ofP
  rw [has_ofL, Bool.and_eq_true, decide_eq_true_eq, List.mem_filter, mem_lsL, has_first, decide_eq_true_eq]
  constructor
  · rintro ⟨h1, h2, h3⟩; exact ⟨h1, h3⟩
  · rintro ⟨h1, h3⟩
    have := obj_iff.1 h1
    exact ⟨h1, by rw [h1, decide_eq_true this.2]; rfl, h3⟩
noncomputable def rchB (L : List (List Int)) (op : Int → Bool) (s : B) : B := ofP (Rch L op s)
theorem has_rchB {L : List (List Int)} {op : Int → Bool} {s : B} {v : Int} : has (rchB L op s) v = true ↔ Rch L op s v := by
  unfold rchB; rw [has_ofP]
  exact ⟨fun h => h.2, fun h => ⟨by have := has_range (rch_own h); exact obj_t this.1 this.2, h⟩⟩
theorem rch_least {L : List (List Int)} {op : Int → Bool} {s : B} {v : Int} (h : Rch L op s v) : ∃ d : Nat, Lev L op s d v ∧ ∀ k, Lev L op s k v → d ≤ k := by
  obtain ⟨k, hk⟩ := h
  exact least_of (Q := fun k => Lev L op s k v) k hk
noncomputable def distI (L : List (List Int)) (op : Int → Bool) (s : B) (v : Int) : Int := if h : Rch L op s v then ((Classical.choose (rch_least h) : Nat) : Int) else -1
theorem distI_yes {L : List (List Int)} {op : Int → Bool} {s : B} {v : Int} (h : Rch L op s v) : ∃ d : Nat, distI L op s v = d ∧ Lev L op s d v ∧ ∀ k, Lev L op s k v → d ≤ k := by
  unfold distI; rw [dif_pos h]
  exact ⟨_, rfl, Classical.choose_spec (rch_least h)⟩
theorem distI_no {L : List (List Int)} {op : Int → Bool} {s : B} {v : Int} (h : ¬ Rch L op s v) : distI L op s v = -1 := by unfold distI; rw [dif_neg h]
theorem distI_eq {L : List (List Int)} {op : Int → Bool} {s : B} {v : Int} {d : Nat} (h : Lev L op s d v) (h' : ∀ k, Lev L op s k v → d ≤ k) : distI L op s v = d := by
  obtain ⟨e, h1, h2, h3⟩ := distI_yes ⟨d, h⟩
  have := h' _ h2; have := h3 _ h; omega
noncomputable def metF (L : List (List Int)) (op : Int → Bool) (s : B) : List Int := (List.range 64).map fun i : Nat => distI L op s ((i : Int) + 1) + 1
noncomputable def distL (L : List (List Int)) (op : Int → Bool) (s : B) : List Int := (List.range (min L.length 64)).map fun i : Nat => distI L op s ((i : Int) + 1)

def mt (met : List Int) (v : Int) : Int := at0 met (v - 1)
def hdLe (met : List Int) : List Int → Prop
  | [] => True
  | o :: r => (∀ v, obj v = true → mt met v ≤ mt met o + 1)
structure WInv (L : List (List Int)) (op : Int → Bool) (s : B) (met wait : List Int) : Prop where
  len : met.length = 64
  snd : ∀ v, obj v = true → 0 ≤ mt met v ∧ (0 < mt met v → Lev L op s (mt met v - 1).toNat v)
  wt : ∀ v ∈ wait, 0 < mt met v ∧ has (own L) v = true
  cls : ∀ o v, obj o = true → 0 < mt met o → o ∉ wait → op o = true → edge L o v → 0 < mt met v ∧ mt met v ≤ mt met o + 1
  root : ∀ v, has s v = true → has (own L) v = true → mt met v = 1
  srt : wait.Pairwise fun a b => mt met a ≤ mt met b
  hd : hdLe met wait
  cnt : met.count 0 + wait.length ≤ 64
  bnd : ∀ v, obj v = true → mt met v + met.count 0 ≤ 65
theorem own_obj {L : List (List Int)} {v : Int} (h : has (own L) v = true) : obj v = true := by have := has_range h; exact obj_t this.1 this.2
theorem own_le {L : List (List Int)} {v : Int} (h : has (own L) v = true) : v ≤ L.length := by
  unfold own at h; rw [has_first, Bool.and_eq_true] at h; simpa using h.2
theorem mt_set {met : List Int} (hl : met.length = 64) {v : Int} (hv : obj v = true) (x : Int) {u : Int} (hu : obj u = true) : mt (met.set (v - 1).toNat x) u = if u = v then x else mt met u := by
  have h1 := obj_iff.1 hv; have h2 := obj_iff.1 hu
  unfold mt at0
  rw [List.getElem?_set]
  by_cases e : u = v
  · subst e; rw [if_pos rfl, if_pos (by omega), if_pos rfl]; rfl
  · rw [if_neg (by omega), if_neg e]
theorem WInv.fin {L : List (List Int)} {op : Int → Bool} {s : B} {met : List Int} (h : WInv L op s met []) : met = metF L op s := by
  have key : ∀ d v, Lev L op s d v → 0 < mt met v ∧ mt met v ≤ d + 1 := by
    intro d
    induction d with
    | zero => intro v hv; have := h.root v hv.1 hv.2; omega
    | succ d ih =>
      intro v ⟨o, h1, h2, h3⟩
      obtain ⟨g1, g2⟩ := ih o h1
      have := h.cls o v (own_obj (lev_own h1)) g1 (by simp) h2 h3
      omega
  apply List.ext_getElem?
  intro i
  unfold metF
  by_cases hi : i < 64
  · rw [List.getElem?_map, List.getElem?_range hi]
    have hm : met[i]? = some (mt met ((i : Int) + 1)) := by
      unfold mt at0
      have : ((i : Int) + 1 - 1).toNat = i := by omega
      rw [this]; simp [h.len, hi]
    rw [hm]; simp only [Option.map_some, Option.some.injEq]
    have ho : obj ((i : Int) + 1) = true := obj_t (by omega) (by omega)
    obtain ⟨g1, g2⟩ := h.snd _ ho
    by_cases hp : 0 < mt met ((i : Int) + 1)
    · have hl := g2 hp
      rw [distI_eq hl (fun k hk => by have := key k _ hk; omega)]
      omega
    · rw [distI_no (fun ⟨k, hk⟩ => by have := key k _ hk; omega)]
      omega
  · rw [List.getElem?_eq_none (by rw [h.len]; omega), List.getElem?_eq_none (by simp; omega)]
theorem WInv.skip {L : List (List Int)} {op : Int → Bool} {s : B} {met wait : List Int} {o : Int} (h : WInv L op s met (o :: wait)) (ho : op o = false) : WInv L op s met wait := by
  refine ⟨h.len, h.snd, fun v hv => h.wt v (by simp [hv]), fun u v h0 h1 h2 h3 h4 => ?_, h.root, (List.pairwise_cons.1 h.srt).2, ?_, by have := h.cnt; simp at this; omega, h.bnd⟩
  · refine h.cls u v h0 h1 ?_ h3 h4
    simp only [List.mem_cons, not_or]
    refine ⟨fun e => ?_, h2⟩
    subst e; rw [ho] at h3; cases h3
  · cases wait with
    | nil => trivial
    | cons p r =>
      intro v hv
      have h1 := h.hd v hv
      have h2 := (List.pairwise_cons.1 h.srt).1 p (by simp)
      omega
structure WMid (L : List (List Int)) (op : Int → Bool) (s : B) (o : Int) (i : Nat) (met wait : List Int) : Prop where
  inv : WInv L op s met wait
  ne : ∃ r, wait = o :: r
  op : op o = true
  don : ∀ v ∈ (row L o).take i, has (own L) v = true → 0 < mt met v ∧ mt met v ≤ mt met o + 1
  mets : ∀ v, obj v = true → mt met v ≤ mt met o + 1
theorem WMid.start {L : List (List Int)} {op : Int → Bool} {s : B} {met wait : List Int} {o : Int} (h : WInv L op s met (o :: wait)) (ho : op o = true) : WMid L op s o 0 met (o :: wait) :=
  ⟨h, ⟨_, rfl⟩, ho, by simp, h.hd⟩
theorem take_step {α : Type} (l : List α) {i : Nat} (x : α) (h : l[i]? = some x) : l.take (i + 1) = l.take i ++ [x] := by
  rw [List.take_add_one, h]; rfl
theorem WMid.old {L : List (List Int)} {op : Int → Bool} {s : B} {met wait : List Int} {o v : Int} {i : Nat} (h : WMid L op s o i met wait) (hv : (row L o)[i]? = some v) (hold : has (own L) v = true → mt met v ≠ 0) : WMid L op s o (i + 1) met wait := by
  refine ⟨h.inv, h.ne, h.op, fun u hu hu2 => ?_, h.mets⟩
  rw [take_step _ _ hv, List.mem_append, List.mem_singleton] at hu
  rcases hu with hu | rfl
  · exact h.don u hu hu2
  · have := (h.inv.snd u (own_obj hu2)).1
    have := hold hu2
    exact ⟨by omega, h.mets u (own_obj hu2)⟩
theorem count_set_zero {l : List Int} {i : Nat} {x : Int} (h : l[i]? = some 0) (hx : x ≠ 0) : (l.set i x).count 0 + 1 = l.count 0 := by
  induction l generalizing i with
  | nil => simp at h
  | cons a l ih =>
    cases i with
    | zero =>
      simp at h; subst h
      simp [List.count_cons, hx]
    | succ i =>
      have := ih (i := i) (by simpa using h)
      simp only [List.set_cons_succ, List.count_cons]; omega
theorem WMid.new {L : List (List Int)} {op : Int → Bool} {s : B} {met wait : List Int} {o v : Int} {i : Nat} (h : WMid L op s o i met wait) (hv : (row L o)[i]? = some v) (hw : has (own L) v = true) (hz : mt met v = 0) : WMid L op s o (i + 1) (met.set (v - 1).toNat (mt met o + 1)) (wait ++ [v]) := by
  obtain ⟨hi, ⟨r, rfl⟩, hop, hd, hm⟩ := h
  have hvo := own_obj hw
  have how := hi.wt o (by simp)
  have hoo := own_obj how.2
  have hov : o ≠ v := fun e => by subst e; omega
  have hvm : v ∈ row L o := List.mem_of_getElem? hv
  have S := fun u (hu : obj u = true) => mt_set hi.len hvo (mt met o + 1) hu
  have So := S o hoo
  rw [if_neg hov] at So
  have Sv := S v hvo
  rw [if_pos rfl] at Sv
  have hvr := obj_iff.1 hvo
  have hnw : ∀ u ∈ o :: r, u ≠ v := fun u hu e => by subst e; have := (hi.wt u hu).1; omega
  have hg : met[(v - 1).toNat]? = some 0 := by
    have : (v - 1).toNat < met.length := by rw [hi.len]; omega
    unfold mt at0 at hz
    rw [List.getElem?_eq_getElem this] at hz ⊢
    simpa using hz
  have hcn := count_set_zero hg (x := mt met o + 1) (by omega)
  refine ⟨⟨by simp [hi.len], fun u hu => ?_, fun u hu => ?_, fun a u h0 h1 h2 h3 h4 => ?_, fun u h1 h2 => ?_, ?_, ?_, ?_, fun u hu => ?_⟩, ⟨r ++ [v], rfl⟩, hop, fun u hu hu2 => ?_, fun u hu => ?_⟩
  · rw [S u hu]
    split
    · rename_i e; subst e
      refine ⟨by omega, fun _ => ?_⟩
      have hL := (hi.snd o hoo).2 how.1
      have e : (mt met o + 1 - 1).toNat = (mt met o - 1).toNat + 1 := by omega
      rw [e]
      exact ⟨o, hL, hop, hvm, hw⟩
    · exact hi.snd u hu
  · rw [List.mem_append, List.mem_singleton] at hu
    rcases hu with hu | rfl
    · have := hi.wt u hu
      rw [S u (own_obj this.2), if_neg (hnw u hu)]
      exact this
    · rw [Sv]; exact ⟨by omega, hw⟩
  · have hav : a ≠ v := fun e => h2 (by simp [e])
    have ha2 : a ∉ o :: r := fun e => h2 (by rw [List.mem_append]; exact .inl e)
    rw [S a h0, if_neg hav] at h1 ⊢
    have huo := own_obj h4.2
    have := hi.cls a u h0 h1 ha2 h3 h4
    rw [S u huo, if_neg (fun e => by subst e; omega)]
    exact this
  · have := hi.root u h1 h2
    rw [S u (own_obj h2), if_neg (fun e => by subst e; omega)]
    exact this
  · rw [List.pairwise_append]
    refine ⟨?_, by simp, fun a ha b hb => ?_⟩
    · refine hi.srt.imp_of_mem fun {a b} ha hb hab => ?_
      rw [S a (own_obj (hi.wt a ha).2), S b (own_obj (hi.wt b hb).2), if_neg (hnw a ha), if_neg (hnw b hb)]
      exact hab
    · simp only [List.mem_singleton] at hb; subst hb
      rw [Sv, S a (own_obj (hi.wt a ha).2), if_neg (hnw a ha)]
      exact hm a (own_obj (hi.wt a ha).2)
  · show ∀ u, obj u = true → _
    intro u hu
    rw [So, S u hu]
    split
    · omega
    · exact hm u hu
  · have h2 := hi.cnt
    simp only [List.length_append, List.length_cons, List.length_nil] at h2 ⊢; omega
  · have h3 := hi.bnd o hoo
    have h4 := hi.bnd u hu
    rw [S u hu]
    split <;> omega
  · rw [take_step _ _ hv, List.mem_append, List.mem_singleton] at hu
    rw [So]
    rcases hu with hu | rfl
    · have := hd u hu hu2
      rw [S u (own_obj hu2)]
      split
      · omega
      · exact this
    · rw [Sv]; omega
  · rw [So, S u hu]
    split
    · omega
    · exact hm u hu
theorem WMid.done {L : List (List Int)} {op : Int → Bool} {s : B} {met wait : List Int} {o : Int} {i : Nat} (h : WMid L op s o i met (o :: wait)) (hi : (row L o).length ≤ i) : WInv L op s met wait := by
  obtain ⟨hi2, -, hop, hd, hm⟩ := h
  rw [List.take_of_length_le hi] at hd
  refine ⟨hi2.len, hi2.snd, fun v hv => hi2.wt v (by simp [hv]), fun u v h0 h1 h2 h3 h4 => ?_, hi2.root, (List.pairwise_cons.1 hi2.srt).2, ?_, by have := hi2.cnt; simp at this; omega, hi2.bnd⟩
  · by_cases e : u = o
    · subst e; exact hd v h4.1 h4.2
    · exact hi2.cls u v h0 h1 (by simp [e, h2]) h3 h4
  · cases wait with
    | nil => trivial
    | cons p r =>
      intro v hv
      have h1 := hm v hv
      have h2 := (List.pairwise_cons.1 hi2.srt).1 p (by simp)
      omega
def iniM (l : List Int) : List Int := l.foldl (fun m o => m.set (o - 1).toNat 1) (List.replicate 64 0)
theorem iniM_snoc (l : List Int) (o : Int) : iniM (l ++ [o]) = (iniM l).set (o - 1).toNat 1 := by simp [iniM]
theorem iniM_len (l : List Int) : (iniM l).length = 64 := by
  unfold iniM
  generalize hm : List.replicate 64 (0 : Int) = m
  have h : m.length = 64 := by rw [← hm]; simp
  clear hm
  induction l generalizing m with
  | nil => exact h
  | cons x l ih => exact ih _ (by simpa using h)
theorem snoc_ind {Q : List Int → Prop} (h0 : Q []) (h1 : ∀ l x, Q l → Q (l ++ [x])) (l : List Int) : Q l := by
  have : ∀ l : List Int, Q l.reverse := by
    intro l
    induction l with
    | nil => exact h0
    | cons x l ih => rw [List.reverse_cons]; exact h1 _ _ ih
  have := this l.reverse
  rwa [List.reverse_reverse] at this
theorem mt_iniM (l : List Int) : (∀ o ∈ l, obj o = true) → ∀ v, obj v = true → mt (iniM l) v = if v ∈ l then 1 else 0 := by
  refine snoc_ind (Q := fun l => (∀ o ∈ l, obj o = true) → ∀ v, obj v = true → mt (iniM l) v = if v ∈ l then 1 else 0) ?_ ?_ l
  · intro _ v hv
    have := obj_iff.1 hv
    simp only [iniM, mt, at0, List.foldl_nil, List.not_mem_nil, if_false]
    rw [List.getElem?_replicate, if_pos (by omega)]; rfl
  · intro l x ih ho v hv
    rw [iniM_snoc, mt_set (iniM_len l) (ho x (by simp)) 1 hv, ih (fun o h => ho o (by simp [h])) v hv]
    by_cases e : v = x
    · subst e; simp
    · by_cases e2 : v ∈ l <;> simp [e, e2]
theorem iniM_cnt (l : List Int) : (∀ o ∈ l, obj o = true) → l.Nodup → (iniM l).count 0 + l.length = 64 := by
  refine snoc_ind (Q := fun l => (∀ o ∈ l, obj o = true) → l.Nodup → (iniM l).count 0 + l.length = 64) ?_ ?_ l
  · intro _ _
    simp [iniM]
  · intro l x ih ho hn
    rw [List.nodup_append] at hn
    have hx : x ∉ l := fun h => hn.2.2 x h x (by simp) rfl
    have h1 := ih (fun o h => ho o (by simp [h])) hn.1
    have hxo := ho x (by simp)
    have hm := mt_iniM l (fun o h => ho o (by simp [h])) x hxo
    rw [if_neg hx] at hm
    have hr := obj_iff.1 hxo
    have hg : (iniM l)[(x - 1).toNat]? = some 0 := by
      have : (x - 1).toNat < (iniM l).length := by rw [iniM_len]; omega
      unfold mt at0 at hm
      rw [List.getElem?_eq_getElem this] at hm ⊢
      simpa using hm
    have := count_set_zero hg (x := 1) (by decide)
    rw [iniM_snoc, List.length_append, List.length_singleton]; omega
theorem WInv.init (L : List (List Int)) (op : Int → Bool) (s : B) : WInv L op s (iniM (lsL (s &&& own L))) (lsL (s &&& own L)) := by
  have hob : ∀ o ∈ lsL (s &&& own L), obj o = true := fun o ho => by have := has_range (mem_lsL.1 ho); exact obj_t this.1 this.2
  have hm : ∀ o, o ∈ lsL (s &&& own L) ↔ has s o = true ∧ has (own L) o = true := fun o => by rw [mem_lsL, has_and, Bool.and_eq_true]
  have S := mt_iniM _ hob
  have hc := iniM_cnt _ hob (lsL_nodup _)
  refine ⟨iniM_len _, fun v hv => ?_, fun v hv => ?_, fun a u h0 h1 h2 h3 h4 => ?_, fun v h1 h2 => ?_, ?_, ?_, by omega, fun v hv => ?_⟩
  · rw [S v hv]
    split
    · rename_i h
      exact ⟨by omega, fun _ => (hm v).1 h⟩
    · exact ⟨by omega, fun h => by omega⟩
  · rw [S v (hob v hv), if_pos hv]
    exact ⟨by omega, ((hm v).1 hv).2⟩
  · rw [S a h0, if_neg h2] at h1; omega
  · rw [S v (own_obj h2), if_pos ((hm v).2 ⟨h1, h2⟩)]
  · refine (lsN_sorted (s &&& own L) 64).imp_of_mem fun {a b} ha hb _ => ?_
    rw [S a (hob a ha), S b (hob b hb), if_pos ha, if_pos hb]; omega
  · have key : ∀ o ∈ lsL (s &&& own L), ∀ v, obj v = true → mt (iniM (lsL (s &&& own L))) v ≤ mt (iniM (lsL (s &&& own L))) o + 1 := by
      intro o ho v hv
      rw [S v hv, S o (hob o ho), if_pos ho]; split <;> omega
    cases hl : lsL (s &&& own L) with
    | nil => trivial
    | cons o r => rw [hl] at key; exact key o (by simp)
  · rw [S v hv]; split <;> omega
end Go.Nx
end
section
set_option linter.unusedVariables false
namespace Go.Nx
open Go.RowKit

def LowAt (b : B) (k : Nat) : Prop := k < 64 ∧ b.getLsbD k = true ∧ ∀ j, j < k → b.getLsbD j = false
theorem low_ex {b : B} (h : b ≠ 0) : ∃ k, LowAt b k := by
  have h1 : ∃ k, b.getLsbD k = true := by
    refine Classical.byContradiction fun hn => h ?_
    apply BitVec.eq_of_getLsbD_eq
    intro i hi
    rw [show (0 : B).getLsbD i = false from BitVec.getLsbD_zero]
    cases e : b.getLsbD i with
    | false => rfl
    | true => exact absurd ⟨i, e⟩ hn
  obtain ⟨k, hk⟩ := h1
  obtain ⟨m, hm, hl⟩ := least_of (Q := fun k => b.getLsbD k = true) k hk
  refine ⟨m, ?_, hm, fun j hj => ?_⟩
  · rcases Nat.lt_or_ge m 64 with h | h
    · exact h
    · rw [BitVec.getLsbD_of_ge _ _ h] at hm; cases hm
  · cases e : b.getLsbD j with
    | false => rfl
    | true => have := hl j e; omega
theorem low_nat {b : B} {k : Nat} (h : LowAt b k) : ∃ m, b.toNat = 2 ^ k * (2 * m + 1) := by
  obtain ⟨hk, h1, h2⟩ := h
  have hd : b.toNat % 2 ^ k = 0 := by
    apply Nat.eq_of_testBit_eq
    intro i
    rw [Nat.testBit_mod_two_pow, Nat.zero_testBit]
    by_cases hi : i < k
    · have := h2 i hi
      unfold BitVec.getLsbD at this
      rw [this]; simp
    · simp [hi]
  have hq : b.toNat / 2 ^ k % 2 = 1 := by
    unfold BitVec.getLsbD at h1
    rw [Nat.testBit_eq_decide_div_mod_eq] at h1
    exact of_decide_eq_true h1
  refine ⟨b.toNat / 2 ^ k / 2, ?_⟩
  have e1 := Nat.div_add_mod b.toNat (2 ^ k)
  have e2 := Nat.div_add_mod (b.toNat / 2 ^ k) 2
  rw [hd] at e1
  rw [hq] at e2
  rw [e2]; omega
theorem pred_nat {b : B} {k m : Nat} (h : b.toNat = 2 ^ k * (2 * m + 1)) : (b - 1#64).toNat = 2 ^ k * (2 * m) + (2 ^ k - 1) := by
  have hp : 0 < 2 ^ k := Nat.pow_pos (by decide)
  have hb := b.isLt
  have e : (2 : Nat) ^ 64 = 18446744073709551616 := by decide
  rw [BitVec.toNat_sub]
  rw [Nat.mul_add, Nat.mul_one] at h
  have e1 : (1#64).toNat = 1 := rfl
  rw [e1]
  omega
theorem pred_get {b : B} {k : Nat} (h : LowAt b k) (i : Nat) (hi : i < 64) : (b - 1#64).getLsbD i = (decide (i < k) || (decide (k < i) && b.getLsbD i)) := by
  obtain ⟨m, hm⟩ := low_nat h
  have hp : 0 < 2 ^ k := Nat.pow_pos (by decide)
  unfold BitVec.getLsbD
  rw [pred_nat hm, hm]
  rw [Nat.testBit_two_pow_mul_add (2 * m) (by omega : 2 ^ k - 1 < 2 ^ k)]
  by_cases h1 : i < k
  · rw [if_pos h1, Nat.testBit_two_pow_sub_one]; simp [h1]
  · rw [if_neg h1, decide_eq_false h1, Bool.false_or, Nat.testBit_two_pow_mul]
    by_cases h2 : k < i
    · rw [decide_eq_true h2, Bool.true_and, decide_eq_true (by omega), Bool.true_and]
      obtain ⟨j, hj⟩ : ∃ j, i - k = j + 1 := ⟨i - k - 1, by omega⟩
      rw [hj, Nat.testBit_succ, Nat.testBit_succ]
      congr 1; omega
    · have : i - k = 0 := by omega
      rw [this, decide_eq_false h2, Bool.false_and, Nat.testBit_zero]
      simp
theorem low_and_neg {b : B} {k : Nat} (h : LowAt b k) : b &&& (0#64 - b) = 1#64 <<< k := by
  have e : (0#64 - b) = ~~~ (b - 1#64) := by
    apply BitVec.eq_of_toNat_eq
    have hb := b.isLt
    have e : (2 : Nat) ^ 64 = 18446744073709551616 := by decide
    obtain ⟨m, hm⟩ := low_nat h
    have hp : 0 < 2 ^ k := Nat.pow_pos (by decide)
    have hb1 : 1 ≤ b.toNat := by rw [hm, Nat.mul_add]; omega
    have e0 : (0#64).toNat = 0 := rfl
    have e1 : (1#64).toNat = 1 := rfl
    rw [BitVec.toNat_sub, BitVec.toNat_not, BitVec.toNat_sub, e0, e1]
    omega
  rw [e]
  apply BitVec.eq_of_getLsbD_eq
  intro i hi
  rw [BitVec.getLsbD_and, BitVec.getLsbD_not, pred_get h i hi, one_shl_get k i h.1, decide_eq_true hi, Bool.true_and]
  obtain ⟨hk, h1, h2⟩ := h
  by_cases c : i < k
  · rw [h2 i c]; simp; omega
  · by_cases c2 : i = k
    · subst c2; simp [h1]
    · have : k < i := by omega
      cases b.getLsbD i <;> simp [c, c2, this]
theorem low_del {b : B} {k : Nat} (h : LowAt b k) (i : Nat) (hi : i < 64) : (b &&& (b - 1#64)).getLsbD i = (decide (i ≠ k) && b.getLsbD i) := by
  rw [BitVec.getLsbD_and, pred_get h i hi]
  obtain ⟨hk, h1, h2⟩ := h
  by_cases c : i < k
  · rw [h2 i c]; simp
  · by_cases c2 : i = k
    · subst c2; simp
    · have : k < i := by omega
      cases b.getLsbD i <;> simp [c, c2, this]
theorem rise_ext : ∀ {a b : List Int}, a.Pairwise (· < ·) → b.Pairwise (· < ·) → (∀ x, x ∈ a ↔ x ∈ b) → a = b
  | [], [], _, _, _ => rfl
  | [], y :: b, _, _, h => by have := (h y).2 (by simp); simp at this
  | x :: a, [], _, _, h => by have := (h x).1 (by simp); simp at this
  | x :: a, y :: b, ha, hb, h => by
    obtain ⟨ha1, ha2⟩ := List.pairwise_cons.1 ha
    obtain ⟨hb1, hb2⟩ := List.pairwise_cons.1 hb
    have e : x = y := by
      rcases List.mem_cons.1 ((h x).1 (by simp)) with e | e
      · exact e
      · rcases List.mem_cons.1 ((h y).2 (by simp)) with e2 | e2
        · exact e2.symm
        · have := hb1 x e; have := ha1 y e2; omega
    subst e
    rw [rise_ext ha2 hb2 fun z => ?_]
    constructor
    · intro hz
      rcases List.mem_cons.1 ((h z).1 (by simp [hz])) with e | e
      · subst e; have := ha1 z hz; omega
      · exact e
    · intro hz
      rcases List.mem_cons.1 ((h z).2 (by simp [hz])) with e | e
      · subst e; have := hb1 z hz; omega
      · exact e
theorem lsL_zero : lsL 0 = [] := by
  apply rise_ext (lsN_sorted 0 64) (by simp)
  intro x
  show x ∈ lsL 0 ↔ _
  rw [mem_lsL, has_zero]; simp
theorem lsL_low {b : B} {k : Nat} (h : LowAt b k) : lsL b = ((k : Int) + 1) :: lsL (b &&& (b - 1#64)) := by
  have hk := h.1
  have hm : ∀ o, has (b &&& (b - 1#64)) o = true ↔ has b o = true ∧ o ≠ (k : Int) + 1 := by
    intro o
    unfold has
    rw [Bool.and_eq_true, Bool.and_eq_true]
    constructor
    · rintro ⟨h1, h2⟩
      have ho := obj_iff.1 h1
      rw [low_del h _ (by omega), Bool.and_eq_true, decide_eq_true_eq] at h2
      exact ⟨⟨h1, h2.2⟩, fun e => h2.1 (by omega)⟩
    · rintro ⟨⟨h1, h2⟩, h3⟩
      have ho := obj_iff.1 h1
      refine ⟨h1, ?_⟩
      rw [low_del h _ (by omega), Bool.and_eq_true, decide_eq_true_eq]
      exact ⟨fun e => h3 (by omega), h2⟩
  have hge : ∀ o, has b o = true → (k : Int) + 1 ≤ o := by
    intro o ho
    have hr := has_range ho
    unfold has at ho
    rw [Bool.and_eq_true] at ho
    rcases Nat.lt_or_ge (o - 1).toNat k with c | c
    · rw [h.2.2 _ c] at ho; cases ho.2
    · omega
  apply rise_ext (lsN_sorted b 64)
  · rw [List.pairwise_cons]
    refine ⟨fun x hx => ?_, lsN_sorted _ 64⟩
    have := (hm x).1 (mem_lsL.1 hx)
    have := hge x this.1
    omega
  · intro x
    show x ∈ lsL b ↔ _
    rw [mem_lsL, List.mem_cons, mem_lsL, hm]
    constructor
    · intro hx
      by_cases e : x = (k : Int) + 1
      · exact .inl e
      · exact .inr ⟨hx, e⟩
    · rintro (rfl | ⟨hx, _⟩)
      · unfold has
        rw [obj_t (by omega) (by omega), Bool.true_and]
        have : ((k : Int) + 1 - 1).toNat = k := by omega
        rw [this]; exact h.2.1
      · exact hx
noncomputable def ctz (b : B) : Nat := if h : b = 0 then 64 else Classical.choose (low_ex h)
theorem ctz_low {b : B} (h : b ≠ 0) : LowAt b (ctz b) := by unfold ctz; rw [dif_neg h]; exact Classical.choose_spec (low_ex h)
end Go.Nx
end
section
set_option linter.unusedVariables false
set_option linter.unusedSimpArgs false
set_option maxRecDepth 20000
set_option maxHeartbeats 1000000
namespace Go.Nx
open Go.RowKit Go.Proofs

def dbTab : List Int := [0, 1, 56, 2, 57, 49, 28, 3, 61, 58, 42, 50, 38, 29, 17, 4, 62, 47, 59, 36, 45, 43, 51, 22, 53, 39, 33, 30, 24, 18, 12, 5, 63, 55, 48, 27, 60, 41, 37, 16, 46, 35, 44, 21, 52, 32, 23, 11, 54, 26, 40, 15, 34, 20, 31, 10, 25, 14, 19, 9, 13, 8, 7, 6]
def tgl (g : Nat) : Option (List T) := match g with
  | 0 => some (bs dbTab)
  | _ => none
noncomputable def lE0 : List (Nat × (List T → Ans)) := []
noncomputable def iE0 : List (Nat × Pt) := []
noncomputable abbrev E0 : Env := En tgl lE0 iE0
theorem env_E0 : EnvOk Tryd.prog E0 := env_nil
theorem db_all : ∀ k : Fin 64, (at0 dbTab (iv (((1#64 <<< k.val) * 285870213051353865#64) >>> 58)) : Int) = k.val ∧ iv (((1#64 <<< k.val) * 285870213051353865#64) >>> 58) < 64 := by decide +kernel
theorem bv_sub (a b : Int) : bv (a - b) = bv a - bv b := by
  unfold bv
  rw [Int.sub_eq_add_neg, BitVec.ofInt_add, BitVec.ofInt_neg, BitVec.sub_eq_add_neg]
theorem bv_mul (a b : Int) : bv (a * b) = bv a * bv b := by unfold bv; rw [BitVec.ofInt_mul]
theorem db_ix {s : Int} (h : bv s ≠ 0) : shrI .u64 (IntKind.u64.wrap (andI .u64 s (IntKind.u64.wrap (0 - s)) * 285870213051353865)) 58 = iv (((1#64 <<< ctz (bv s)) * 285870213051353865#64) >>> 58) := by
  rw [andI_u, wrap_iv (0 - s), bv_iv, bv_sub, wrap_iv, bv_mul, bv_iv, show bv 0 = 0#64 from rfl, low_and_neg (ctz_low h), shrI_u _ _ ⟨by omega, by omega⟩]
  rfl
theorem ok81 (s : Int) (hq : R64 s) : FnOk Tryd.prog tgl 81 [.int .u64 s] (.int .i64 (ctz (bv s))) := by
  refine fn_ok (Γ := E0) env_E0 Tryd.func81 low81 ?_
  by_cases h0 : s = 0
  · subst h0
    conv => whnf
    repeat' (first
      | (refine brK_true rfl ?_; conv => whnf)
      | (refine brK_false rfl ?_; conv => whnf)
      | (refine brK_true (by assumption) ?_; conv => whnf)
      | (refine brK_false (by assumption) ?_; conv => whnf)
      | (refine brK_true ?_ ?_; (focus (simp only [List.length_nil, fx, eqI_self] <;> omega)); conv => whnf)
      | (refine brK_false ?_ ?_; (focus (simp only [List.length_nil, fx, eqI_self] <;> omega)); conv => whnf)
      | ((refine brK_of (fun h => ?_) (fun h => ?_)) <;> (have h2 := h; (try simp only [List.length_nil, fx, eqI_self] at h2); conv => whnf))
      | (refine reqK_of ?_ ?_; (focus (first | decide | omega | assumption | (simp only [List.length_nil, fx, eqI_self] <;> omega) | (simp [keyNew, sameKey, kEq] <;> omega))); conv => whnf)
      | (refine reqK_of ?_ ?_; rotate_left; (conv => whnf); rotate_left)
      | (refine nth_us ?_ ?_ ?_; (focus (first | omega | (simp only [List.length_nil, fx, eqI_self] <;> omega))); (focus (first | omega | (simp only [List.length_nil, fx, eqI_self] <;> omega))); conv => whnf)
      | (refine nth_is ?_ ?_ ?_; (focus (first | omega | (simp only [List.length_nil, fx, eqI_self] <;> omega))); (focus (first | omega | (simp only [List.length_nil, fx, eqI_self] <;> omega))); conv => whnf)
      | (refine nth_bs ?_ ?_ ?_; (focus (first | omega | (simp only [List.length_nil, fx, eqI_self] <;> omega))); (focus (first | omega | (simp only [List.length_nil, fx, eqI_self] <;> omega))); conv => whnf))
    rw [show bv 0 = 0 from rfl, ctz, dif_pos rfl]; rfl
  · have hb : bv s ≠ 0 := fun e => h0 (by rw [← iv_bv hq, e]; rfl)
    have hx := db_ix hb
    have hk := (ctz_low hb).1
    have hd : (at0 dbTab (iv (((1#64 <<< ctz (bv s)) * 285870213051353865#64) >>> 58)) : Int) = ctz (bv s) ∧ iv (((1#64 <<< ctz (bv s)) * 285870213051353865#64) >>> 58) < 64 := db_all ⟨ctz (bv s), hk⟩
    have hp := (R_iv (((1#64 <<< ctz (bv s)) * 285870213051353865#64) >>> 58)).1
    have hl : dbTab.length = 64 := rfl
    conv => whnf
    repeat' (first
      | (refine brK_true rfl ?_; conv => whnf)
      | (refine brK_false rfl ?_; conv => whnf)
      | (refine brK_true (by assumption) ?_; conv => whnf)
      | (refine brK_false (by assumption) ?_; conv => whnf)
      | (refine brK_true ?_ ?_; (focus (simp only [List.length_nil, fx, hx, hl] <;> omega)); conv => whnf)
      | (refine brK_false ?_ ?_; (focus (simp only [List.length_nil, fx, hx, hl] <;> omega)); conv => whnf)
      | ((refine brK_of (fun h => ?_) (fun h => ?_)) <;> (have h2 := h; (try simp only [List.length_nil, fx, hx, hl] at h2); conv => whnf))
      | (refine reqK_of ?_ ?_; (focus (first | decide | omega | assumption | (simp only [List.length_nil, fx, hx, hl] <;> omega) | (simp [keyNew, sameKey, kEq] <;> omega))); conv => whnf)
      | (refine reqK_of ?_ ?_; rotate_left; (conv => whnf); rotate_left)
      | (refine nth_us ?_ ?_ ?_; (focus (first | omega | (simp only [List.length_nil, fx, hx, hl] <;> omega))); (focus (first | omega | (simp only [List.length_nil, fx, hx, hl] <;> omega))); conv => whnf)
      | (refine nth_is ?_ ?_ ?_; (focus (first | omega | (simp only [List.length_nil, fx, hx, hl] <;> omega))); (focus (first | omega | (simp only [List.length_nil, fx, hx, hl] <;> omega))); conv => whnf)
      | (refine nth_bs ?_ ?_ ?_; (focus (first | omega | (simp only [List.length_nil, fx, hx, hl] <;> omega))); (focus (first | omega | (simp only [List.length_nil, fx, hx, hl] <;> omega))); conv => whnf))
    rw [hx, hd.1, wrap_i64 ⟨by omega, by omega⟩]
open Classical in
noncomputable def c81 : List T → Ans
  | [.int .u64 s] => .req (R64 s) (.int .i64 (ctz (bv s)))
  | _ => .no
theorem got81 {vs : List T} {x : T} (h : Got (c81 vs) x) : FnOk Tryd.prog tgl 81 vs x := by
  unfold c81 at h
  split at h
  · obtain ⟨hq, e⟩ := got_req h; rw [e]; exact ok81 _ hq
  · exact (got_no h).elim
theorem nogl81 (vs : List T) (p : Prop) (d : Decidable p) (sz : Nat) (xs : List T) (h : c81 vs = @Ans.gl p d sz xs) : False := by
  unfold c81 at h
  split at h <;> cases h
theorem pk81 (vs : List T) (p : Prop) (d : Decidable p) (x : T) (h : c81 vs = @Ans.pk p d x) (hp : p) : FnOk Tryd.prog tgl 81 vs x := by
  unfold c81 at h
  split at h
  · cases h
  · cases h
theorem ok43 (o : Int) : FnOk Tryd.prog tgl 43 [.int .i64 o] (.int .u64 (iv (bit o))) := by
  refine fn_ok (Γ := E0) env_E0 Tryd.func43 low43 ?_
  conv => whnf
  repeat' (first | (refine brK_true rfl ?_; conv => whnf) | (refine brK_false rfl ?_; conv => whnf) | (refine brK_true (by assumption) ?_; conv => whnf) | (refine brK_false (by assumption) ?_; conv => whnf) | (refine brK_of (fun h => ?_) (fun h => ?_) <;> conv => whnf) | (refine reqK_of ?_ ?_; (focus (first | decide | omega | assumption | (simp [keyNew, sameKey, kEq] <;> omega))); conv => whnf) | (refine reqK_of ?_ ?_; rotate_left; (conv => whnf); rotate_left))
  · rw [lt_t] at h; rw [bit_out (obj_f (.inl h))]; rfl
  · rw [lt_t] at h; rw [bit_out (obj_f (.inr h))]; rfl
  · rename_i h1
    rw [lt_f] at h h1
    rw [wrap_i64 ⟨by omega, by omega⟩]; omega
  · rename_i h1
    rw [lt_f] at h h1
    have e : IntKind.i64.wrap (o - 1) = o - 1 := wrap_i64 ⟨by omega, by omega⟩
    rw [e, shlI_u _ _ ⟨by omega, by omega⟩, bit_in (obj_t h1 h), bv1]
open Classical in
noncomputable def c43 : List T → Ans
  | [.int .i64 o] => .yes (.int .u64 (iv (bit o)))
  | _ => .no
theorem got43 {vs : List T} {x : T} (h : Got (c43 vs) x) : FnOk Tryd.prog tgl 43 vs x := by
  unfold c43 at h
  split at h
  · rw [got_yes h]; exact ok43 _
  · exact (got_no h).elim
theorem nogl43 (vs : List T) (p : Prop) (d : Decidable p) (sz : Nat) (xs : List T) (h : c43 vs = @Ans.gl p d sz xs) : False := by
  unfold c43 at h
  split at h <;> cases h
theorem pk43 (vs : List T) (p : Prop) (d : Decidable p) (x : T) (h : c43 vs = @Ans.pk p d x) (hp : p) : FnOk Tryd.prog tgl 43 vs x := by
  unfold c43 at h
  split at h
  · cases h
  · cases h
noncomputable def lE1 : List (Nat × (List T → Ans)) := (43, c43) :: lE0
noncomputable def iE1 : List (Nat × Pt) := iE0
noncomputable abbrev E1 : Env := En tgl lE1 iE1
theorem env_E1 : EnvOk Tryd.prog E1 := (env_fn env_E0 (fun _ _ => got43) (fun vs p d sz xs h _ => (nogl43 vs p d sz xs h).elim) pk43)
theorem ok11 (s o : Int) : FnOk Tryd.prog tgl 11 [.int .u64 s, .int .i64 o] (.bool (has (bv s) o)) := by
  refine fn_ok (Γ := E1) env_E1 Tryd.func11 low11 ?_
  conv => whnf
  repeat' (first | (refine brK_true rfl ?_; conv => whnf) | (refine brK_false rfl ?_; conv => whnf) | (refine brK_true (by assumption) ?_; conv => whnf) | (refine brK_false (by assumption) ?_; conv => whnf) | (refine brK_of (fun h => ?_) (fun h => ?_) <;> conv => whnf) | (refine reqK_of ?_ ?_; (focus (first | decide | omega | assumption | (simp [keyNew, sameKey, kEq] <;> omega))); conv => whnf) | (refine reqK_of ?_ ?_; rotate_left; (conv => whnf); rotate_left))
  rw [andI_u, eqI_iv0, bv_iv, has_bit, Bool.not_not]
open Classical in
noncomputable def c11 : List T → Ans
  | [.int .u64 s, .int .i64 o] => .yes (.bool (has (bv s) o))
  | _ => .no
theorem got11 {vs : List T} {x : T} (h : Got (c11 vs) x) : FnOk Tryd.prog tgl 11 vs x := by
  unfold c11 at h
  split at h
  · rw [got_yes h]; exact ok11 _ _
  · exact (got_no h).elim
theorem nogl11 (vs : List T) (p : Prop) (d : Decidable p) (sz : Nat) (xs : List T) (h : c11 vs = @Ans.gl p d sz xs) : False := by
  unfold c11 at h
  split at h <;> cases h
theorem pk11 (vs : List T) (p : Prop) (d : Decidable p) (x : T) (h : c11 vs = @Ans.pk p d x) (hp : p) : FnOk Tryd.prog tgl 11 vs x := by
  unfold c11 at h
  split at h
  · cases h
  · cases h
theorem ok71 (s o : Int) : FnOk Tryd.prog tgl 71 [.int .u64 s, .int .i64 o] (.int .u64 (iv (add (bv s) o))) := by
  refine fn_ok (Γ := E1) env_E1 Tryd.func71 low71 ?_
  conv => whnf
  repeat' (first | (refine brK_true rfl ?_; conv => whnf) | (refine brK_false rfl ?_; conv => whnf) | (refine brK_true (by assumption) ?_; conv => whnf) | (refine brK_false (by assumption) ?_; conv => whnf) | (refine brK_of (fun h => ?_) (fun h => ?_) <;> conv => whnf) | (refine reqK_of ?_ ?_; (focus (first | decide | omega | assumption | (simp [keyNew, sameKey, kEq] <;> omega))); conv => whnf) | (refine reqK_of ?_ ?_; rotate_left; (conv => whnf); rotate_left))
  rw [orI_u, bv_iv]; rfl
open Classical in
noncomputable def c71 : List T → Ans
  | [.int .u64 s, .int .i64 o] => .yes (.int .u64 (iv (add (bv s) o)))
  | _ => .no
theorem got71 {vs : List T} {x : T} (h : Got (c71 vs) x) : FnOk Tryd.prog tgl 71 vs x := by
  unfold c71 at h
  split at h
  · rw [got_yes h]; exact ok71 _ _
  · exact (got_no h).elim
theorem nogl71 (vs : List T) (p : Prop) (d : Decidable p) (sz : Nat) (xs : List T) (h : c71 vs = @Ans.gl p d sz xs) : False := by
  unfold c71 at h
  split at h <;> cases h
theorem pk71 (vs : List T) (p : Prop) (d : Decidable p) (x : T) (h : c71 vs = @Ans.pk p d x) (hp : p) : FnOk Tryd.prog tgl 71 vs x := by
  unfold c71 at h
  split at h
  · cases h
  · cases h
theorem ok12 (s t : Int) : FnOk Tryd.prog tgl 12 [.int .u64 s, .int .u64 t] (.bool (under (bv s) (bv t))) := by
  refine fn_ok (Γ := E1) env_E1 Tryd.func12 low12 ?_
  conv => whnf
  repeat' (first | (refine brK_true rfl ?_; conv => whnf) | (refine brK_false rfl ?_; conv => whnf) | (refine brK_true (by assumption) ?_; conv => whnf) | (refine brK_false (by assumption) ?_; conv => whnf) | (refine brK_of (fun h => ?_) (fun h => ?_) <;> conv => whnf) | (refine reqK_of ?_ ?_; (focus (first | decide | omega | assumption | (simp [keyNew, sameKey, kEq] <;> omega))); conv => whnf) | (refine reqK_of ?_ ?_; rotate_left; (conv => whnf); rotate_left))
  rw [andNotI_u, eqI_iv0, under_not]
open Classical in
noncomputable def c12 : List T → Ans
  | [.int .u64 s, .int .u64 t] => .yes (.bool (under (bv s) (bv t)))
  | _ => .no
theorem got12 {vs : List T} {x : T} (h : Got (c12 vs) x) : FnOk Tryd.prog tgl 12 vs x := by
  unfold c12 at h
  split at h
  · rw [got_yes h]; exact ok12 _ _
  · exact (got_no h).elim
theorem nogl12 (vs : List T) (p : Prop) (d : Decidable p) (sz : Nat) (xs : List T) (h : c12 vs = @Ans.gl p d sz xs) : False := by
  unfold c12 at h
  split at h <;> cases h
theorem pk12 (vs : List T) (p : Prop) (d : Decidable p) (x : T) (h : c12 vs = @Ans.pk p d x) (hp : p) : FnOk Tryd.prog tgl 12 vs x := by
  unfold c12 at h
  split at h
  · cases h
  · cases h
theorem ok72 (n : Int) : FnOk Tryd.prog tgl 72 [.int .i64 n] (.int .u64 (iv (first n))) := by
  refine fn_ok (Γ := E1) env_E1 Tryd.func72 low72 ?_
  conv => whnf
  repeat' (first | (refine brK_true rfl ?_; conv => whnf) | (refine brK_false rfl ?_; conv => whnf) | (refine brK_true (by assumption) ?_; conv => whnf) | (refine brK_false (by assumption) ?_; conv => whnf) | (refine brK_of (fun h => ?_) (fun h => ?_) <;> conv => whnf) | (refine reqK_of ?_ ?_; (focus (first | decide | omega | assumption | (simp [keyNew, sameKey, kEq] <;> omega))); conv => whnf) | (refine reqK_of ?_ ?_; rotate_left; (conv => whnf); rotate_left))
  · rw [lt_t] at h; simp [first, h, iv]
  · rw [lt_f] at h
    rw [minI_def]; split <;> rw [wrap_i64 ⟨by omega, by omega⟩] <;> omega
  · rw [lt_f] at h
    have e : minI n 64 = min n 64 := by rw [minI_def]; split <;> omega
    have e2 : (18446744073709551615 : Int) = iv (BitVec.allOnes 64) := rfl
    rw [e, wrap_i64 ⟨by omega, by omega⟩, e2, shrI_u _ _ ⟨by omega, by omega⟩, first, if_neg (by omega)]
open Classical in
noncomputable def c72 : List T → Ans
  | [.int .i64 n] => .yes (.int .u64 (iv (first n)))
  | _ => .no
theorem got72 {vs : List T} {x : T} (h : Got (c72 vs) x) : FnOk Tryd.prog tgl 72 vs x := by
  unfold c72 at h
  split at h
  · rw [got_yes h]; exact ok72 _
  · exact (got_no h).elim
theorem nogl72 (vs : List T) (p : Prop) (d : Decidable p) (sz : Nat) (xs : List T) (h : c72 vs = @Ans.gl p d sz xs) : False := by
  unfold c72 at h
  split at h <;> cases h
theorem pk72 (vs : List T) (p : Prop) (d : Decidable p) (x : T) (h : c72 vs = @Ans.pk p d x) (hp : p) : FnOk Tryd.prog tgl 72 vs x := by
  unfold c72 at h
  split at h
  · cases h
  · cases h
noncomputable def lE2 : List (Nat × (List T → Ans)) := (11, c11) :: (71, c71) :: (12, c12) :: (72, c72) :: lE1
noncomputable def iE2 : List (Nat × Pt) := iE1
noncomputable abbrev E2 : Env := En tgl lE2 iE2
theorem env_E2 : EnvOk Tryd.prog E2 := (env_fn (env_fn (env_fn (env_fn env_E1 (fun _ _ => got72) (fun vs p d sz xs h _ => (nogl72 vs p d sz xs h).elim) pk72) (fun _ _ => got12) (fun vs p d sz xs h _ => (nogl12 vs p d sz xs h).elim) pk12) (fun _ _ => got71) (fun vs p d sz xs h _ => (nogl71 vs p d sz xs h).elim) pk71) (fun _ _ => got11) (fun vs p d sz xs h _ => (nogl11 vs p d sz xs h).elim) pk11)
end Go.Nx
end
