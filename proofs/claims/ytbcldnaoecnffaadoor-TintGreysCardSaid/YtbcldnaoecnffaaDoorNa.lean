/-
  THE FUNCTIONS OF THE TINT CHAPTER, LOWERED.
-/
import Derived.Test.YtbcldnaoecnffaaDoorMt
import Derived.Test.YtbcldnaoecnffaaDoorCards
set_option linter.unusedVariables false
namespace Go.Mx
open Go.RowKit Go.Proofs

/-- besom/besomlaw09.TintTells -/
def m3 : MFn := ⟨4, 159, [.tmp 8], (.seq (.reg [⟨(some 4), .box 68 (.t 0), none⟩, ⟨(some 5), .box 69 (.t 1), none⟩, ⟨(some 8), .mv (.k (.bool false)), none⟩] none)
 (.seq (.reg [⟨(some 28), .call (.k (.fn (.func 9) [] [])) [], none⟩, ⟨(some 9), .mv (.t 28), none⟩] none)
 (.seq (.seq (.reg [⟨(some 29), .mv (.t 9), none⟩, ⟨(some 30), .un .not (.t 29), none⟩] none)
 (.cond (.t 30) (.seq (.reg [⟨(some 8), .mv (.k (.bool false)), none⟩] none)
 .ret) .skip))
 (.seq (.reg [⟨(some 31), .ld (some 2) (.t 4), none⟩, ⟨(some 32), .call (.k (.fn (.func 10) [] [])) [(.t 31)], none⟩, ⟨(some 10), .alloc 74 [(.int .u64 0), (.int .u64 0)], none⟩, ⟨none, .st 2 (.t 10) (.t 32), none⟩] none)
 (.seq (.reg [⟨(some 33), .ld (some 2) (.t 5), none⟩, ⟨(some 34), .call (.k (.fn (.func 10) [] [])) [(.t 33)], none⟩, ⟨(some 11), .alloc 75 [(.int .u64 0), (.int .u64 0)], none⟩, ⟨none, .st 2 (.t 11) (.t 34), none⟩] none)
 (.seq (.reg [⟨(some 36), .ld (some 2) (.t 4), none⟩, ⟨(some 37), .mv (.t 2), none⟩, ⟨(some 38), .call (.k (.fn (.func 11) [] [])) [(.t 36), (.t 37)], none⟩, ⟨(some 35), .mv (.t 38), none⟩, ⟨(some 39), .ext (.t 35) 0, none⟩, ⟨(some 40), .ext (.t 35) 1, none⟩, ⟨(some 12), .alloc 76 [(.int .u64 0), (.int .u64 0)], none⟩, ⟨none, .st 2 (.t 12) (.t 39), none⟩, ⟨(some 13), .mv (.t 40), none⟩] none)
 (.seq (.reg [⟨(some 42), .ld (some 2) (.t 10), none⟩, ⟨(some 43), .mv (.t 2), none⟩, ⟨(some 44), .call (.k (.fn (.func 12) [] [])) [(.t 42), (.t 43)], none⟩, ⟨(some 41), .mv (.t 44), none⟩, ⟨(some 45), .ext (.t 41) 0, none⟩, ⟨(some 46), .ext (.t 41) 1, none⟩, ⟨(some 14), .alloc 78 [(.int .u64 0), (.int .u64 0)], none⟩, ⟨none, .st 2 (.t 14) (.t 45), none⟩, ⟨(some 15), .mv (.t 46), none⟩] none)
 (.seq (.reg [⟨(some 48), .ld (some 2) (.t 4), none⟩, ⟨(some 49), .mv (.t 2), none⟩, ⟨(some 50), .call (.k (.fn (.func 13) [] [])) [(.t 48), (.t 49)], none⟩, ⟨(some 47), .mv (.t 50), none⟩, ⟨(some 51), .ext (.t 47) 0, none⟩, ⟨(some 52), .ext (.t 47) 1, none⟩, ⟨(some 16), .alloc 80 [(.int .u64 0), (.int .u64 0)], none⟩, ⟨none, .st 2 (.t 16) (.t 51), none⟩, ⟨(some 17), .mv (.t 52), none⟩] none)
 (.seq (.reg [⟨(some 54), .ld (some 2) (.t 10), none⟩, ⟨(some 55), .mv (.t 2), none⟩, ⟨(some 56), .call (.k (.fn (.func 14) [] [])) [(.t 54), (.t 55)], none⟩, ⟨(some 53), .mv (.t 56), none⟩, ⟨(some 57), .ext (.t 53) 0, none⟩, ⟨(some 58), .ext (.t 53) 1, none⟩, ⟨(some 18), .alloc 82 [(.int .u64 0), (.int .u64 0)], none⟩, ⟨none, .st 2 (.t 18) (.t 57), none⟩, ⟨(some 19), .mv (.t 58), none⟩] none)
 (.seq (.reg [⟨(some 60), .ld (some 2) (.t 4), none⟩, ⟨(some 61), .mv (.t 2), none⟩, ⟨(some 62), .call (.k (.fn (.func 15) [] [])) [(.t 60), (.t 61)], none⟩, ⟨(some 59), .mv (.t 62), none⟩, ⟨(some 63), .ext (.t 59) 0, none⟩, ⟨(some 64), .ext (.t 59) 1, none⟩, ⟨(some 20), .alloc 84 [(.int .u64 0), (.int .u64 0)], none⟩, ⟨none, .st 2 (.t 20) (.t 63), none⟩, ⟨(some 21), .mv (.t 64), none⟩] none)
 (.seq (.reg [⟨(some 66), .ld (some 2) (.t 10), none⟩, ⟨(some 67), .mv (.t 2), none⟩, ⟨(some 68), .call (.k (.fn (.func 16) [] [])) [(.t 66), (.t 67)], none⟩, ⟨(some 65), .mv (.t 68), none⟩, ⟨(some 69), .ext (.t 65) 0, none⟩, ⟨(some 70), .ext (.t 65) 1, none⟩, ⟨(some 22), .alloc 86 [(.int .u64 0), (.int .u64 0)], none⟩, ⟨none, .st 2 (.t 22) (.t 69), none⟩, ⟨(some 23), .mv (.t 70), none⟩] none)
 (.seq (.reg [⟨(some 72), .ld (some 2) (.t 4), none⟩, ⟨(some 73), .ld (some 2) (.t 5), none⟩, ⟨(some 74), .call (.k (.fn (.func 17) [] [])) [(.t 72), (.t 73)], none⟩, ⟨(some 71), .mv (.t 74), none⟩, ⟨(some 75), .ext (.t 71) 0, none⟩, ⟨(some 76), .ext (.t 71) 1, none⟩, ⟨(some 24), .mv (.t 75), none⟩, ⟨(some 25), .mv (.t 76), none⟩] none)
 (.seq (.reg [⟨(some 78), .ld (some 2) (.t 10), none⟩, ⟨(some 79), .ld (some 2) (.t 11), none⟩, ⟨(some 80), .call (.k (.fn (.func 18) [] [])) [(.t 78), (.t 79)], none⟩, ⟨(some 77), .mv (.t 80), none⟩, ⟨(some 81), .ext (.t 77) 0, none⟩, ⟨(some 82), .ext (.t 77) 1, none⟩, ⟨(some 26), .mv (.t 81), none⟩, ⟨(some 27), .mv (.t 82), none⟩] none)
 (.seq (.seq (.reg [⟨(some 83), .ld (some 2) (.t 12), none⟩, ⟨(some 84), .call (.k (.fn (.func 10) [] [])) [(.t 83)], none⟩, ⟨(some 85), .ld (some 2) (.t 14), none⟩, ⟨(some 86), .eqa true [1, 1] (.t 84) (.t 85), none⟩, ⟨(some 87), .mv (.t 86), none⟩, ⟨(some 88), .mv (.t 13), (some (87, false))⟩, ⟨(some 89), .mv (.t 15), (some (87, false))⟩, ⟨(some 90), .binb .neq (.t 88) (.t 89), (some (87, false))⟩, ⟨(some 91), .pick (.t 87) (.k (.bool true)) (.t 90), none⟩, ⟨(some 92), .mv (.t 91), none⟩, ⟨(some 93), .ld (some 2) (.t 16), (some (92, false))⟩, ⟨(some 94), .call (.k (.fn (.func 10) [] [])) [(.t 93)], (some (92, false))⟩, ⟨(some 95), .ld (some 2) (.t 18), (some (92, false))⟩, ⟨(some 96), .eqa true [1, 1] (.t 94) (.t 95), (some (92, false))⟩, ⟨(some 97), .pick (.t 92) (.k (.bool true)) (.t 96), none⟩, ⟨(some 98), .mv (.t 97), none⟩, ⟨(some 99), .mv (.t 17), (some (98, false))⟩, ⟨(some 100), .mv (.t 19), (some (98, false))⟩, ⟨(some 101), .binb .neq (.t 99) (.t 100), (some (98, false))⟩, ⟨(some 102), .pick (.t 98) (.k (.bool true)) (.t 101), none⟩, ⟨(some 103), .mv (.t 102), none⟩, ⟨(some 104), .ld (some 2) (.t 20), (some (103, false))⟩, ⟨(some 105), .call (.k (.fn (.func 10) [] [])) [(.t 104)], (some (103, false))⟩, ⟨(some 106), .ld (some 2) (.t 22), (some (103, false))⟩, ⟨(some 107), .eqa true [1, 1] (.t 105) (.t 106), (some (103, false))⟩, ⟨(some 108), .pick (.t 103) (.k (.bool true)) (.t 107), none⟩, ⟨(some 109), .mv (.t 108), none⟩, ⟨(some 110), .mv (.t 21), (some (109, false))⟩, ⟨(some 111), .mv (.t 23), (some (109, false))⟩, ⟨(some 112), .binb .neq (.t 110) (.t 111), (some (109, false))⟩, ⟨(some 113), .pick (.t 109) (.k (.bool true)) (.t 112), none⟩, ⟨(some 114), .mv (.t 113), none⟩, ⟨(some 115), .mv (.t 24), (some (114, false))⟩, ⟨(some 116), .mv (.t 26), (some (114, false))⟩, ⟨(some 117), .bin .neq (.t 115) (.t 116), (some (114, false))⟩, ⟨(some 118), .pick (.t 114) (.k (.bool true)) (.t 117), none⟩, ⟨(some 119), .mv (.t 118), none⟩, ⟨(some 120), .mv (.t 25), (some (119, false))⟩, ⟨(some 121), .mv (.t 27), (some (119, false))⟩, ⟨(some 122), .bin .neq (.t 120) (.t 121), (some (119, false))⟩, ⟨(some 123), .pick (.t 119) (.k (.bool true)) (.t 122), none⟩] (some []))
 (.cond (.t 123) (.seq (.reg [⟨(some 8), .mv (.k (.bool false)), none⟩] none)
 .ret) .skip))
 (.seq (.reg [⟨(some 124), .mv (.t 9), none⟩, ⟨(some 125), .mv (.t 124), none⟩, ⟨(some 126), .ld (some 2) (.t 4), (some (125, true))⟩, ⟨(some 127), .mv (.t 3), (some (125, true))⟩, ⟨(some 128), .call (.k (.fn (.func 19) [] [])) [(.t 126), (.t 127)], (some (125, true))⟩, ⟨(some 129), .ld (some 2) (.t 10), (some (125, true))⟩, ⟨(some 130), .mv (.t 3), (some (125, true))⟩, ⟨(some 131), .call (.k (.fn (.func 20) [] [])) [(.t 129), (.t 130)], (some (125, true))⟩, ⟨(some 132), .binb .eql (.t 128) (.t 131), (some (125, true))⟩, ⟨(some 133), .pick (.t 125) (.t 132) (.k (.bool false)), none⟩, ⟨(some 134), .mv (.t 133), none⟩, ⟨(some 135), .ld (some 2) (.t 4), (some (134, true))⟩, ⟨(some 136), .mv (.t 2), (some (134, true))⟩, ⟨(some 137), .call (.k (.fn (.func 21) [] [])) [(.t 135), (.t 136)], (some (134, true))⟩, ⟨(some 138), .ld (some 2) (.t 10), (some (134, true))⟩, ⟨(some 139), .mv (.t 2), (some (134, true))⟩, ⟨(some 140), .call (.k (.fn (.func 22) [] [])) [(.t 138), (.t 139)], (some (134, true))⟩, ⟨(some 141), .bin .eql (.t 137) (.t 140), (some (134, true))⟩, ⟨(some 142), .pick (.t 134) (.t 141) (.k (.bool false)), none⟩, ⟨(some 143), .mv (.t 142), none⟩, ⟨(some 144), .ld (some 2) (.t 4), (some (143, true))⟩, ⟨(some 145), .call (.k (.fn (.func 23) [] [])) [(.t 144)], (some (143, true))⟩, ⟨(some 146), .ld (some 2) (.t 10), (some (143, true))⟩, ⟨(some 147), .call (.k (.fn (.func 24) [] [])) [(.t 146)], (some (143, true))⟩, ⟨(some 148), .bin .eql (.t 145) (.t 147), (some (143, true))⟩, ⟨(some 149), .pick (.t 143) (.t 148) (.k (.bool false)), none⟩, ⟨(some 150), .mv (.t 149), none⟩, ⟨(some 151), .ld (some 2) (.t 4), (some (150, true))⟩, ⟨(some 152), .mv (.t 3), (some (150, true))⟩, ⟨(some 153), .call (.k (.fn (.func 25) [] [])) [(.t 151), (.t 152)], (some (150, true))⟩, ⟨(some 154), .ld (some 2) (.t 10), (some (150, true))⟩, ⟨(some 155), .mv (.t 3), (some (150, true))⟩, ⟨(some 156), .call (.k (.fn (.func 26) [] [])) [(.t 154), (.t 155)], (some (150, true))⟩, ⟨(some 157), .bin .eql (.t 153) (.t 156), (some (150, true))⟩, ⟨(some 158), .pick (.t 150) (.t 157) (.k (.bool false)), none⟩, ⟨(some 8), .mv (.t 158), none⟩] (some []))
 .ret)))))))))))))))⟩
/-- besom/besomlaw09.TintDarker -/
def m4 : MFn := ⟨4, 112, [.tmp 8], (.seq (.reg [⟨(some 8), .mv (.k (.bool false)), none⟩] none)
 (.seq (.reg [⟨(some 18), .call (.k (.fn (.func 9) [] [])) [], none⟩, ⟨(some 9), .mv (.t 18), none⟩] none)
 (.seq (.seq (.reg [⟨(some 19), .mv (.t 9), none⟩, ⟨(some 20), .un .not (.t 19), none⟩] none)
 (.cond (.t 20) (.seq (.reg [⟨(some 8), .mv (.k (.bool false)), none⟩] none)
 .ret) .skip))
 (.seq (.reg [⟨(some 21), .mv (.t 0), none⟩, ⟨(some 22), .mv (.t 1), none⟩, ⟨(some 23), .call (.k (.fn (.func 27) [] [])) [(.t 21), (.t 22)], none⟩, ⟨(some 10), .alloc 74 [(.int .u64 0), (.int .u64 0)], none⟩, ⟨none, .st 2 (.t 10) (.t 23), none⟩] none)
 (.seq (.reg [⟨(some 24), .mv (.t 2), none⟩, ⟨(some 25), .bin .rem (.t 24) (.k (.int .u8 66)), none⟩, ⟨(some 26), .conv .i64 (.t 25), none⟩, ⟨(some 11), .mv (.t 26), none⟩] none)
 (.seq (.reg [⟨(some 27), .ld (some 2) (.t 10), none⟩, ⟨(some 12), .alloc 76 [(.int .u64 0), (.int .u64 0)], none⟩, ⟨none, .st 2 (.t 12) (.t 27), none⟩] none)
 (.seq (.reg [⟨(some 13), .mv (.k (.bool false)), none⟩] none)
 (.seq (.seq (.reg [⟨(some 28), .mv (.t 3), none⟩, ⟨(some 29), .bin .rem (.t 28) (.k (.int .u8 3)), none⟩] none)
 (.block 0 (.seq (.reg [⟨(some 37), .bin .eql (.t 29) (.k (.int .u8 0)), none⟩, ⟨(some 36), .mv (.t 37), none⟩] none)
 (.cond (.t 36) (.reg [⟨(some 39), .ld (some 2) (.t 10), none⟩, ⟨(some 40), .mv (.t 11), none⟩, ⟨(some 41), .call (.k (.fn (.func 11) [] [])) [(.t 39), (.t 40)], none⟩, ⟨(some 38), .mv (.t 41), none⟩, ⟨(some 42), .ext (.t 38) 0, none⟩, ⟨(some 43), .ext (.t 38) 1, none⟩, ⟨none, .st 2 (.t 12) (.t 42), none⟩, ⟨(some 13), .mv (.t 43), none⟩] none) (.seq (.reg [⟨(some 45), .bin .eql (.t 29) (.k (.int .u8 1)), none⟩, ⟨(some 44), .mv (.t 45), none⟩] none)
 (.cond (.t 44) (.reg [⟨(some 47), .ld (some 2) (.t 10), none⟩, ⟨(some 48), .mv (.t 11), none⟩, ⟨(some 49), .call (.k (.fn (.func 13) [] [])) [(.t 47), (.t 48)], none⟩, ⟨(some 46), .mv (.t 49), none⟩, ⟨(some 50), .ext (.t 46) 0, none⟩, ⟨(some 51), .ext (.t 46) 1, none⟩, ⟨none, .st 2 (.t 12) (.t 50), none⟩, ⟨(some 13), .mv (.t 51), none⟩] none) (.reg [⟨(some 31), .ld (some 2) (.t 10), none⟩, ⟨(some 32), .mv (.t 11), none⟩, ⟨(some 33), .call (.k (.fn (.func 15) [] [])) [(.t 31), (.t 32)], none⟩, ⟨(some 30), .mv (.t 33), none⟩, ⟨(some 34), .ext (.t 30) 0, none⟩, ⟨(some 35), .ext (.t 30) 1, none⟩, ⟨none, .st 2 (.t 12) (.t 34), none⟩, ⟨(some 13), .mv (.t 35), none⟩] none)))))))
 (.seq (.reg [⟨(some 14), .mv (.k (.int .i64 0)), none⟩] none)
 (.seq (.seq (.reg [⟨(some 15), .mv (.k (.int .i64 0)), none⟩] none)
 (.block 1 (.loop (.seq (.seq (.reg [⟨(some 52), .mv (.t 15), none⟩, ⟨(some 53), .bin .leq (.t 52) (.k (.int .i64 65)), none⟩] none)
 (.cond (.t 53) .skip (.exit 1)))
 (.seq (.block 2 (.seq (.seq (.reg [⟨(some 56), .ld (some 2) (.t 12), none⟩, ⟨(some 57), .mv (.t 15), none⟩, ⟨(some 58), .call (.k (.fn (.func 21) [] [])) [(.t 56), (.t 57)], none⟩, ⟨(some 59), .ld (some 2) (.t 10), none⟩, ⟨(some 60), .mv (.t 15), none⟩, ⟨(some 61), .call (.k (.fn (.func 21) [] [])) [(.t 59), (.t 60)], none⟩, ⟨(some 62), .bin .lss (.t 58) (.t 61), none⟩] (some []))
 (.cond (.t 62) (.seq (.reg [⟨(some 8), .mv (.k (.bool false)), none⟩] none)
 .ret) .skip))
 (.seq (.reg [⟨(some 63), .ld (some 2) (.t 12), none⟩, ⟨(some 64), .mv (.t 15), none⟩, ⟨(some 65), .call (.k (.fn (.func 21) [] [])) [(.t 63), (.t 64)], none⟩, ⟨(some 66), .ld (some 2) (.t 10), none⟩, ⟨(some 67), .mv (.t 15), none⟩, ⟨(some 68), .call (.k (.fn (.func 21) [] [])) [(.t 66), (.t 67)], none⟩, ⟨(some 69), .bin .neq (.t 65) (.t 68), none⟩] (some []))
 (.cond (.t 69) (.reg [⟨(some 70), .mv (.t 14), none⟩, ⟨(some 71), .bin .add (.t 70) (.k (.int .i64 1)), none⟩, ⟨(some 14), .mv (.t 71), none⟩] none) .skip))))
 (.reg [⟨(some 54), .mv (.t 15), none⟩, ⟨(some 55), .bin .add (.t 54) (.k (.int .i64 1)), none⟩, ⟨(some 15), .mv (.t 55), none⟩] none))))))
 (.seq (.reg [⟨(some 72), .mv (.t 11), none⟩, ⟨(some 73), .bin .geq (.t 72) (.k (.int .i64 1)), none⟩, ⟨(some 74), .mv (.t 73), none⟩, ⟨(some 75), .mv (.t 11), (some (74, true))⟩, ⟨(some 76), .bin .leq (.t 75) (.k (.int .i64 64)), (some (74, true))⟩, ⟨(some 77), .pick (.t 74) (.t 76) (.k (.bool false)), none⟩, ⟨(some 78), .mv (.t 77), none⟩, ⟨(some 79), .ld (some 2) (.t 10), (some (78, true))⟩, ⟨(some 80), .mv (.t 11), (some (78, true))⟩, ⟨(some 81), .call (.k (.fn (.func 21) [] [])) [(.t 79), (.t 80)], (some (78, true))⟩, ⟨(some 82), .bin .eql (.t 81) (.k (.int .i64 0)), (some (78, true))⟩, ⟨(some 83), .pick (.t 78) (.t 82) (.k (.bool false)), none⟩, ⟨(some 16), .mv (.t 83), none⟩] none)
 (.seq (.reg [⟨(some 84), .mv (.t 16), none⟩, ⟨(some 17), .mv (.t 84), none⟩] none)
 (.seq (.seq (.reg [⟨(some 85), .mv (.t 3), none⟩, ⟨(some 86), .bin .rem (.t 85) (.k (.int .u8 3)), none⟩, ⟨(some 87), .bin .eql (.t 86) (.k (.int .u8 1)), none⟩] none)
 (.cond (.t 87) (.reg [⟨(some 88), .ld (some 2) (.t 10), none⟩, ⟨(some 89), .mv (.t 11), none⟩, ⟨(some 90), .call (.k (.fn (.func 21) [] [])) [(.t 88), (.t 89)], none⟩, ⟨(some 91), .bin .eql (.t 90) (.k (.int .i64 1)), none⟩, ⟨(some 17), .mv (.t 91), none⟩] none) .skip))
 (.seq (.reg [⟨(some 92), .mv (.t 9), none⟩, ⟨(some 93), .mv (.t 92), none⟩, ⟨(some 94), .mv (.t 13), (some (93, true))⟩, ⟨(some 95), .mv (.t 17), (some (93, true))⟩, ⟨(some 96), .binb .eql (.t 94) (.t 95), (some (93, true))⟩, ⟨(some 97), .pick (.t 93) (.t 96) (.k (.bool false)), none⟩, ⟨(some 98), .mv (.t 97), none⟩, ⟨(some 99), .mv (.t 14), (some (98, true))⟩, ⟨(some 100), .bin .eql (.t 99) (.k (.int .i64 1)), (some (98, true))⟩, ⟨(some 101), .mv (.t 13), (some (98, true))⟩, ⟨(some 102), .binb .eql (.t 100) (.t 101), (some (98, true))⟩, ⟨(some 103), .pick (.t 98) (.t 102) (.k (.bool false)), none⟩, ⟨(some 104), .mv (.t 103), none⟩, ⟨(some 105), .mv (.t 14), (some (104, true))⟩, ⟨(some 106), .bin .leq (.t 105) (.k (.int .i64 1)), (some (104, true))⟩, ⟨(some 107), .pick (.t 104) (.t 106) (.k (.bool false)), none⟩, ⟨(some 108), .mv (.t 107), none⟩, ⟨(some 109), .ld (some 2) (.t 12), (some (108, true))⟩, ⟨(some 110), .call (.k (.fn (.func 19) [] [])) [(.t 109), (.k (.int .i64 64))], (some (108, true))⟩, ⟨(some 111), .pick (.t 108) (.t 110) (.k (.bool false)), none⟩, ⟨(some 8), .mv (.t 111), none⟩] none)
 .ret))))))))))))))⟩
/-- besom/besomlaw09.TintFresh -/
def m5 : MFn := ⟨3, 84, [.tmp 6], (.seq (.reg [⟨(some 6), .mv (.k (.bool false)), none⟩] none)
 (.seq (.reg [⟨(some 16), .call (.k (.fn (.func 9) [] [])) [], none⟩, ⟨(some 7), .mv (.t 16), none⟩] none)
 (.seq (.seq (.reg [⟨(some 17), .mv (.t 7), none⟩, ⟨(some 18), .un .not (.t 17), none⟩] none)
 (.cond (.t 18) (.seq (.reg [⟨(some 6), .mv (.k (.bool false)), none⟩] none)
 .ret) .skip))
 (.seq (.reg [⟨(some 19), .mv (.t 0), none⟩, ⟨(some 20), .mv (.t 1), none⟩, ⟨(some 21), .call (.k (.fn (.func 27) [] [])) [(.t 19), (.t 20)], none⟩, ⟨(some 8), .alloc 72 [(.int .u64 0), (.int .u64 0)], none⟩, ⟨none, .st 2 (.t 8) (.t 21), none⟩] none)
 (.seq (.reg [⟨(some 22), .mv (.t 2), none⟩, ⟨(some 23), .bin .rem (.t 22) (.k (.int .u8 66)), none⟩, ⟨(some 24), .conv .i64 (.t 23), none⟩, ⟨(some 9), .mv (.t 24), none⟩] none)
 (.seq (.reg [⟨(some 26), .ld (some 2) (.t 8), none⟩, ⟨(some 27), .mv (.t 9), none⟩, ⟨(some 28), .call (.k (.fn (.func 11) [] [])) [(.t 26), (.t 27)], none⟩, ⟨(some 25), .mv (.t 28), none⟩, ⟨(some 29), .ext (.t 25) 0, none⟩, ⟨(some 30), .ext (.t 25) 1, none⟩, ⟨(some 10), .alloc 74 [(.int .u64 0), (.int .u64 0)], none⟩, ⟨none, .st 2 (.t 10) (.t 29), none⟩, ⟨(some 11), .mv (.t 30), none⟩] none)
 (.seq (.reg [⟨(some 32), .ld (some 2) (.t 10), none⟩, ⟨(some 33), .mv (.t 9), none⟩, ⟨(some 34), .call (.k (.fn (.func 13) [] [])) [(.t 32), (.t 33)], none⟩, ⟨(some 31), .mv (.t 34), none⟩, ⟨(some 35), .ext (.t 31) 0, none⟩, ⟨(some 36), .ext (.t 31) 1, none⟩, ⟨(some 12), .alloc 76 [(.int .u64 0), (.int .u64 0)], none⟩, ⟨none, .st 2 (.t 12) (.t 35), none⟩, ⟨(some 13), .mv (.t 36), none⟩] none)
 (.seq (.reg [⟨(some 38), .ld (some 2) (.t 8), none⟩, ⟨(some 39), .mv (.t 9), none⟩, ⟨(some 40), .call (.k (.fn (.func 15) [] [])) [(.t 38), (.t 39)], none⟩, ⟨(some 37), .mv (.t 40), none⟩, ⟨(some 41), .ext (.t 37) 0, none⟩, ⟨(some 42), .ext (.t 37) 1, none⟩, ⟨(some 14), .alloc 78 [(.int .u64 0), (.int .u64 0)], none⟩, ⟨none, .st 2 (.t 14) (.t 41), none⟩, ⟨(some 15), .mv (.t 42), none⟩] none)
 (.seq (.seq (.reg [⟨(some 43), .mv (.t 11), none⟩, ⟨(some 44), .un .not (.t 43), none⟩] none)
 (.cond (.t 44) (.seq (.reg [⟨(some 45), .mv (.t 7), none⟩, ⟨(some 46), .mv (.t 45), none⟩, ⟨(some 47), .mv (.t 15), (some (46, true))⟩, ⟨(some 48), .un .not (.t 47), (some (46, true))⟩, ⟨(some 49), .pick (.t 46) (.t 48) (.k (.bool false)), none⟩, ⟨(some 50), .mv (.t 49), none⟩, ⟨(some 51), .ld (some 2) (.t 14), (some (50, true))⟩, ⟨(some 52), .ld (some 2) (.t 8), (some (50, true))⟩, ⟨(some 53), .eqa false [1, 1] (.t 51) (.t 52), (some (50, true))⟩, ⟨(some 54), .pick (.t 50) (.t 53) (.k (.bool false)), none⟩, ⟨(some 55), .mv (.t 54), none⟩, ⟨(some 56), .ld (some 2) (.t 10), (some (55, true))⟩, ⟨(some 57), .ld (some 2) (.t 8), (some (55, true))⟩, ⟨(some 58), .eqa false [1, 1] (.t 56) (.t 57), (some (55, true))⟩, ⟨(some 59), .pick (.t 55) (.t 58) (.k (.bool false)), none⟩, ⟨(some 6), .mv (.t 59), none⟩] none)
 .ret) .skip))
 (.seq (.reg [⟨(some 60), .mv (.t 7), none⟩, ⟨(some 61), .mv (.t 60), none⟩, ⟨(some 62), .mv (.t 13), (some (61, true))⟩, ⟨(some 63), .pick (.t 61) (.t 62) (.k (.bool false)), none⟩, ⟨(some 64), .mv (.t 63), none⟩, ⟨(some 65), .mv (.t 15), (some (64, true))⟩, ⟨(some 66), .pick (.t 64) (.t 65) (.k (.bool false)), none⟩, ⟨(some 67), .mv (.t 66), none⟩, ⟨(some 68), .ld (some 2) (.t 14), (some (67, true))⟩, ⟨(some 69), .ld (some 2) (.t 12), (some (67, true))⟩, ⟨(some 70), .eqa false [1, 1] (.t 68) (.t 69), (some (67, true))⟩, ⟨(some 71), .pick (.t 67) (.t 70) (.k (.bool false)), none⟩, ⟨(some 72), .mv (.t 71), none⟩, ⟨(some 73), .ld (some 2) (.t 10), (some (72, true))⟩, ⟨(some 74), .mv (.t 9), (some (72, true))⟩, ⟨(some 75), .call (.k (.fn (.func 21) [] [])) [(.t 73), (.t 74)], (some (72, true))⟩, ⟨(some 76), .bin .eql (.t 75) (.k (.int .i64 1)), (some (72, true))⟩, ⟨(some 77), .pick (.t 72) (.t 76) (.k (.bool false)), none⟩, ⟨(some 78), .mv (.t 77), none⟩, ⟨(some 79), .ld (some 2) (.t 14), (some (78, true))⟩, ⟨(some 80), .mv (.t 9), (some (78, true))⟩, ⟨(some 81), .call (.k (.fn (.func 21) [] [])) [(.t 79), (.t 80)], (some (78, true))⟩, ⟨(some 82), .bin .eql (.t 81) (.k (.int .i64 2)), (some (78, true))⟩, ⟨(some 83), .pick (.t 78) (.t 82) (.k (.bool false)), none⟩, ⟨(some 6), .mv (.t 83), none⟩] none)
 .ret))))))))))⟩
/-- besom/besomlaw09.TintBetween -/
def m6 : MFn := ⟨4, 107, [.tmp 8], (.seq (.reg [⟨(some 8), .mv (.k (.bool false)), none⟩] none)
 (.seq (.reg [⟨(some 19), .call (.k (.fn (.func 9) [] [])) [], none⟩, ⟨(some 9), .mv (.t 19), none⟩] none)
 (.seq (.seq (.reg [⟨(some 20), .mv (.t 9), none⟩, ⟨(some 21), .un .not (.t 20), none⟩] none)
 (.cond (.t 21) (.seq (.reg [⟨(some 8), .mv (.k (.bool false)), none⟩] none)
 .ret) .skip))
 (.seq (.reg [⟨(some 22), .mv (.t 0), none⟩, ⟨(some 23), .mv (.t 1), none⟩, ⟨(some 24), .call (.k (.fn (.func 27) [] [])) [(.t 22), (.t 23)], none⟩, ⟨(some 10), .alloc 74 [(.int .u64 0), (.int .u64 0)], none⟩, ⟨none, .st 2 (.t 10) (.t 24), none⟩] none)
 (.seq (.reg [⟨(some 25), .mv (.t 2), none⟩, ⟨(some 26), .bin .rem (.t 25) (.k (.int .u8 64)), none⟩, ⟨(some 27), .conv .i64 (.t 26), none⟩, ⟨(some 28), .bin .add (.k (.int .i64 1)) (.t 27), none⟩, ⟨(some 11), .mv (.t 28), none⟩] none)
 (.seq (.reg [⟨(some 29), .ld (some 2) (.t 10), none⟩, ⟨(some 12), .alloc 76 [(.int .u64 0), (.int .u64 0)], none⟩, ⟨none, .st 2 (.t 12) (.t 29), none⟩] none)
 (.seq (.reg [⟨(some 30), .mv (.t 3), none⟩, ⟨(some 31), .bin .rem (.t 30) (.k (.int .u8 3)), none⟩, ⟨(some 32), .conv .i64 (.t 31), none⟩, ⟨(some 33), .bin .add (.k (.int .i64 1)) (.t 32), none⟩, ⟨(some 13), .mv (.t 33), none⟩] none)
 (.seq (.reg [⟨(some 14), .mv (.k (.bool false)), none⟩] none)
 (.seq (.seq (.reg [⟨(some 34), .mv (.t 13), none⟩] none)
 (.block 0 (.seq (.reg [⟨(some 42), .bin .eql (.t 34) (.k (.int .i64 1)), none⟩, ⟨(some 41), .mv (.t 42), none⟩] none)
 (.cond (.t 41) (.reg [⟨(some 44), .ld (some 2) (.t 10), none⟩, ⟨(some 45), .mv (.t 11), none⟩, ⟨(some 46), .call (.k (.fn (.func 11) [] [])) [(.t 44), (.t 45)], none⟩, ⟨(some 43), .mv (.t 46), none⟩, ⟨(some 47), .ext (.t 43) 0, none⟩, ⟨(some 48), .ext (.t 43) 1, none⟩, ⟨none, .st 2 (.t 12) (.t 47), none⟩, ⟨(some 14), .mv (.t 48), none⟩] none) (.seq (.reg [⟨(some 50), .bin .eql (.t 34) (.k (.int .i64 2)), none⟩, ⟨(some 49), .mv (.t 50), none⟩] none)
 (.cond (.t 49) (.reg [⟨(some 52), .ld (some 2) (.t 10), none⟩, ⟨(some 53), .mv (.t 11), none⟩, ⟨(some 54), .call (.k (.fn (.func 13) [] [])) [(.t 52), (.t 53)], none⟩, ⟨(some 51), .mv (.t 54), none⟩, ⟨(some 55), .ext (.t 51) 0, none⟩, ⟨(some 56), .ext (.t 51) 1, none⟩, ⟨none, .st 2 (.t 12) (.t 55), none⟩, ⟨(some 14), .mv (.t 56), none⟩] none) (.reg [⟨(some 36), .ld (some 2) (.t 10), none⟩, ⟨(some 37), .mv (.t 11), none⟩, ⟨(some 38), .call (.k (.fn (.func 15) [] [])) [(.t 36), (.t 37)], none⟩, ⟨(some 35), .mv (.t 38), none⟩, ⟨(some 39), .ext (.t 35) 0, none⟩, ⟨(some 40), .ext (.t 35) 1, none⟩, ⟨none, .st 2 (.t 12) (.t 39), none⟩, ⟨(some 14), .mv (.t 40), none⟩] none)))))))
 (.seq (.reg [⟨(some 58), .ld (some 2) (.t 10), none⟩, ⟨(some 59), .ld (some 2) (.t 12), none⟩, ⟨(some 60), .call (.k (.fn (.func 17) [] [])) [(.t 58), (.t 59)], none⟩, ⟨(some 57), .mv (.t 60), none⟩, ⟨(some 61), .ext (.t 57) 0, none⟩, ⟨(some 62), .ext (.t 57) 1, none⟩, ⟨(some 15), .mv (.t 61), none⟩, ⟨(some 16), .mv (.t 62), none⟩] none)
 (.seq (.reg [⟨(some 64), .ld (some 2) (.t 12), none⟩, ⟨(some 65), .ld (some 2) (.t 10), none⟩, ⟨(some 66), .call (.k (.fn (.func 17) [] [])) [(.t 64), (.t 65)], none⟩, ⟨(some 63), .mv (.t 66), none⟩, ⟨(some 67), .ext (.t 63) 0, none⟩, ⟨(some 68), .ext (.t 63) 1, none⟩, ⟨(some 17), .mv (.t 67), none⟩, ⟨(some 18), .mv (.t 68), none⟩] none)
 (.seq (.seq (.reg [⟨(some 69), .mv (.t 14), none⟩, ⟨(some 70), .un .not (.t 69), none⟩] none)
 (.cond (.t 70) (.seq (.reg [⟨(some 71), .mv (.t 9), none⟩, ⟨(some 72), .mv (.t 71), none⟩, ⟨(some 73), .mv (.t 15), (some (72, true))⟩, ⟨(some 74), .bin .eql (.t 73) (.k (.int .i64 0)), (some (72, true))⟩, ⟨(some 75), .pick (.t 72) (.t 74) (.k (.bool false)), none⟩, ⟨(some 76), .mv (.t 75), none⟩, ⟨(some 77), .mv (.t 16), (some (76, true))⟩, ⟨(some 78), .bin .eql (.t 77) (.k (.int .i64 0)), (some (76, true))⟩, ⟨(some 79), .pick (.t 76) (.t 78) (.k (.bool false)), none⟩, ⟨(some 80), .mv (.t 79), none⟩, ⟨(some 81), .mv (.t 17), (some (80, true))⟩, ⟨(some 82), .bin .eql (.t 81) (.k (.int .i64 0)), (some (80, true))⟩, ⟨(some 83), .pick (.t 80) (.t 82) (.k (.bool false)), none⟩, ⟨(some 84), .mv (.t 83), none⟩, ⟨(some 85), .mv (.t 18), (some (84, true))⟩, ⟨(some 86), .bin .eql (.t 85) (.k (.int .i64 0)), (some (84, true))⟩, ⟨(some 87), .pick (.t 84) (.t 86) (.k (.bool false)), none⟩, ⟨(some 8), .mv (.t 87), none⟩] none)
 .ret) .skip))
 (.seq (.reg [⟨(some 88), .mv (.t 9), none⟩, ⟨(some 89), .mv (.t 88), none⟩, ⟨(some 90), .mv (.t 15), (some (89, true))⟩, ⟨(some 91), .mv (.t 13), (some (89, true))⟩, ⟨(some 92), .bin .eql (.t 90) (.t 91), (some (89, true))⟩, ⟨(some 93), .pick (.t 89) (.t 92) (.k (.bool false)), none⟩, ⟨(some 94), .mv (.t 93), none⟩, ⟨(some 95), .mv (.t 16), (some (94, true))⟩, ⟨(some 96), .mv (.t 11), (some (94, true))⟩, ⟨(some 97), .bin .eql (.t 95) (.t 96), (some (94, true))⟩, ⟨(some 98), .pick (.t 94) (.t 97) (.k (.bool false)), none⟩, ⟨(some 99), .mv (.t 98), none⟩, ⟨(some 100), .mv (.t 17), (some (99, true))⟩, ⟨(some 101), .bin .eql (.t 100) (.k (.int .i64 (-1))), (some (99, true))⟩, ⟨(some 102), .pick (.t 99) (.t 101) (.k (.bool false)), none⟩, ⟨(some 103), .mv (.t 102), none⟩, ⟨(some 104), .mv (.t 18), (some (103, true))⟩, ⟨(some 105), .bin .eql (.t 104) (.k (.int .i64 0)), (some (103, true))⟩, ⟨(some 106), .pick (.t 103) (.t 105) (.k (.bool false)), none⟩, ⟨(some 8), .mv (.t 106), none⟩] none)
 .ret)))))))))))))⟩
/-- besom/besomlaw09.TintRight -/
def m7 : MFn := ⟨2, 63, [.tmp 4], (.seq (.reg [⟨(some 2), .box 66 (.t 0), none⟩, ⟨(some 4), .mv (.k (.bool false)), none⟩] none)
 (.seq (.reg [⟨(some 9), .call (.k (.fn (.func 9) [] [])) [], none⟩, ⟨(some 5), .mv (.t 9), none⟩] none)
 (.seq (.seq (.reg [⟨(some 10), .mv (.t 5), none⟩, ⟨(some 11), .un .not (.t 10), none⟩] none)
 (.cond (.t 11) (.seq (.reg [⟨(some 4), .mv (.k (.bool false)), none⟩] none)
 .ret) .skip))
 (.seq (.reg [⟨(some 12), .mv (.t 1), none⟩, ⟨(some 13), .bin .rem (.t 12) (.k (.int .u8 70)), none⟩, ⟨(some 14), .conv .i64 (.t 13), none⟩, ⟨(some 6), .mv (.t 14), none⟩] none)
 (.seq (.reg [⟨(some 7), .mv (.k (.bool true)), none⟩] none)
 (.seq (.seq (.reg [⟨(some 8), .mv (.k (.int .i64 1)), none⟩] none)
 (.block 0 (.loop (.seq (.seq (.reg [⟨(some 15), .mv (.t 8), none⟩, ⟨(some 16), .bin .leq (.t 15) (.k (.int .i64 64)), none⟩] none)
 (.cond (.t 16) .skip (.exit 0)))
 (.seq (.block 1 (.reg [⟨(some 19), .mv (.t 7), none⟩, ⟨(some 20), .mv (.t 19), none⟩, ⟨(some 21), .fa 0 (.t 2), (some (20, true))⟩, ⟨(some 22), .ld none (.t 21), (some (20, true))⟩, ⟨(some 23), .mv (.t 8), (some (20, true))⟩, ⟨(some 24), .call (.k (.fn (.func 28) [] [])) [(.t 22), (.t 23)], (some (20, true))⟩, ⟨(some 25), .un .not (.t 24), (some (20, true))⟩, ⟨(some 26), .mv (.t 25), (some (20, true))⟩, ⟨(some 27), .mv (.t 8), (some (26, false))⟩, ⟨(some 28), .mv (.t 6), (some (26, false))⟩, ⟨(some 29), .bin .leq (.t 27) (.t 28), (some (26, false))⟩, ⟨(some 30), .pick (.t 26) (.k (.bool true)) (.t 29), (some (20, true))⟩, ⟨(some 31), .pick (.t 20) (.t 30) (.k (.bool false)), none⟩, ⟨(some 32), .mv (.t 31), none⟩, ⟨(some 33), .fa 1 (.t 2), (some (32, true))⟩, ⟨(some 34), .ld none (.t 33), (some (32, true))⟩, ⟨(some 35), .mv (.t 8), (some (32, true))⟩, ⟨(some 36), .call (.k (.fn (.func 28) [] [])) [(.t 34), (.t 35)], (some (32, true))⟩, ⟨(some 37), .un .not (.t 36), (some (32, true))⟩, ⟨(some 38), .mv (.t 37), (some (32, true))⟩, ⟨(some 39), .fa 0 (.t 2), (some (38, false))⟩, ⟨(some 40), .ld none (.t 39), (some (38, false))⟩, ⟨(some 41), .mv (.t 8), (some (38, false))⟩, ⟨(some 42), .call (.k (.fn (.func 28) [] [])) [(.t 40), (.t 41)], (some (38, false))⟩, ⟨(some 43), .pick (.t 38) (.k (.bool true)) (.t 42), (some (32, true))⟩, ⟨(some 44), .pick (.t 32) (.t 43) (.k (.bool false)), none⟩, ⟨(some 7), .mv (.t 44), none⟩] none))
 (.reg [⟨(some 17), .mv (.t 8), none⟩, ⟨(some 18), .bin .add (.t 17) (.k (.int .i64 1)), none⟩, ⟨(some 8), .mv (.t 18), none⟩] none))))))
 (.seq (.reg [⟨(some 45), .mv (.t 5), none⟩, ⟨(some 46), .mv (.t 45), none⟩, ⟨(some 47), .ld (some 2) (.t 2), (some (46, true))⟩, ⟨(some 48), .mv (.t 6), (some (46, true))⟩, ⟨(some 49), .call (.k (.fn (.func 19) [] [])) [(.t 47), (.t 48)], (some (46, true))⟩, ⟨(some 50), .mv (.t 7), (some (46, true))⟩, ⟨(some 51), .binb .eql (.t 49) (.t 50), (some (46, true))⟩, ⟨(some 52), .pick (.t 46) (.t 51) (.k (.bool false)), none⟩, ⟨(some 53), .mv (.t 52), none⟩, ⟨(some 54), .mv (.t 7), (some (53, true))⟩, ⟨(some 55), .un .not (.t 54), (some (53, true))⟩, ⟨(some 56), .mv (.t 55), (some (53, true))⟩, ⟨(some 57), .ld (some 2) (.t 2), (some (56, false))⟩, ⟨(some 58), .mv (.t 6), (some (56, false))⟩, ⟨(some 59), .bin .add (.t 58) (.k (.int .i64 1)), (some (56, false))⟩, ⟨(some 60), .call (.k (.fn (.func 19) [] [])) [(.t 57), (.t 59)], (some (56, false))⟩, ⟨(some 61), .pick (.t 56) (.k (.bool true)) (.t 60), (some (53, true))⟩, ⟨(some 62), .pick (.t 53) (.t 61) (.k (.bool false)), none⟩, ⟨(some 4), .mv (.t 62), none⟩] none)
 .ret)))))))⟩
/-- besom/besomlaw09.TintGreys -/
def m8 : MFn := ⟨3, 86, [.tmp 6], (.seq (.reg [⟨(some 6), .mv (.k (.bool false)), none⟩] none)
 (.seq (.reg [⟨(some 13), .call (.k (.fn (.func 9) [] [])) [], none⟩, ⟨(some 7), .mv (.t 13), none⟩] none)
 (.seq (.seq (.reg [⟨(some 14), .mv (.t 7), none⟩, ⟨(some 15), .un .not (.t 14), none⟩] none)
 (.cond (.t 15) (.seq (.reg [⟨(some 6), .mv (.k (.bool false)), none⟩] none)
 .ret) .skip))
 (.seq (.reg [⟨(some 16), .mv (.t 0), none⟩, ⟨(some 17), .mv (.t 1), none⟩, ⟨(some 18), .call (.k (.fn (.func 27) [] [])) [(.t 16), (.t 17)], none⟩, ⟨(some 8), .alloc 72 [(.int .u64 0), (.int .u64 0)], none⟩, ⟨none, .st 2 (.t 8) (.t 18), none⟩] none)
 (.seq (.reg [⟨(some 19), .ld (some 2) (.t 8), none⟩, ⟨(some 20), .call (.k (.fn (.func 23) [] [])) [(.t 19)], none⟩, ⟨(some 9), .mv (.t 20), none⟩] none)
 (.seq (.reg [⟨(some 21), .ld (some 2) (.t 8), none⟩, ⟨(some 22), .mv (.t 2), none⟩, ⟨(some 23), .bin .rem (.t 22) (.k (.int .u8 80)), none⟩, ⟨(some 24), .conv .i64 (.t 23), none⟩, ⟨(some 25), .call (.k (.fn (.func 25) [] [])) [(.t 21), (.t 24)], none⟩, ⟨(some 10), .mv (.t 25), none⟩] none)
 (.seq (.seq (.reg [⟨(some 26), .mv (.t 10), none⟩, ⟨(some 27), .lens (.t 26), none⟩, ⟨(some 28), .mv (.t 2), none⟩, ⟨(some 29), .bin .rem (.t 28) (.k (.int .u8 80)), none⟩, ⟨(some 30), .conv .i64 (.t 29), none⟩, ⟨(some 31), .mn (.t 30) (.k (.int .i64 64)), none⟩, ⟨(some 32), .bin .neq (.t 27) (.t 31), none⟩, ⟨(some 33), .mv (.t 32), none⟩, ⟨(some 34), .mv (.t 9), (some (33, false))⟩, ⟨(some 35), .fa 0 (.t 8), (some (33, false))⟩, ⟨(some 36), .ld none (.t 35), (some (33, false))⟩, ⟨(some 37), .call (.k (.fn (.func 29) [] [])) [(.t 34), (.t 36)], (some (33, false))⟩, ⟨(some 38), .un .not (.t 37), (some (33, false))⟩, ⟨(some 39), .pick (.t 33) (.k (.bool true)) (.t 38), none⟩, ⟨(some 40), .mv (.t 39), none⟩, ⟨(some 41), .mv (.t 9), (some (40, false))⟩, ⟨(some 42), .call (.k (.fn (.func 30) [] [])) [(.t 41)], (some (40, false))⟩, ⟨(some 43), .fa 1 (.t 8), (some (40, false))⟩, ⟨(some 44), .ld none (.t 43), (some (40, false))⟩, ⟨(some 45), .call (.k (.fn (.func 30) [] [])) [(.t 44)], (some (40, false))⟩, ⟨(some 46), .bin .add (.t 42) (.t 45), (some (40, false))⟩, ⟨(some 47), .fa 0 (.t 8), (some (40, false))⟩, ⟨(some 48), .ld none (.t 47), (some (40, false))⟩, ⟨(some 49), .call (.k (.fn (.func 30) [] [])) [(.t 48)], (some (40, false))⟩, ⟨(some 50), .bin .neq (.t 46) (.t 49), (some (40, false))⟩, ⟨(some 51), .pick (.t 40) (.k (.bool true)) (.t 50), none⟩] (some []))
 (.cond (.t 51) (.seq (.reg [⟨(some 6), .mv (.k (.bool false)), none⟩] none)
 .ret) .skip))
 (.seq (.seq (.reg [⟨(some 11), .mv (.k (.int .i64 0)), none⟩] none)
 (.block 0 (.loop (.seq (.seq (.reg [⟨(some 52), .mv (.t 11), none⟩, ⟨(some 53), .mv (.t 10), none⟩, ⟨(some 54), .lens (.t 53), none⟩, ⟨(some 55), .bin .lss (.t 52) (.t 54), none⟩] none)
 (.cond (.t 55) .skip (.exit 0)))
 (.seq (.block 1 (.seq (.reg [⟨(some 58), .ld (some 2) (.t 8), none⟩, ⟨(some 59), .mv (.t 11), none⟩, ⟨(some 60), .bin .add (.t 59) (.k (.int .i64 1)), none⟩, ⟨(some 61), .call (.k (.fn (.func 21) [] [])) [(.t 58), (.t 60)], none⟩, ⟨(some 12), .mv (.t 61), none⟩] none)
 (.seq (.reg [⟨(some 62), .mv (.t 9), none⟩, ⟨(some 63), .mv (.t 11), none⟩, ⟨(some 64), .bin .add (.t 63) (.k (.int .i64 1)), none⟩, ⟨(some 65), .call (.k (.fn (.func 28) [] [])) [(.t 62), (.t 64)], none⟩, ⟨(some 66), .mv (.t 12), none⟩, ⟨(some 67), .bin .eql (.t 66) (.k (.int .i64 1)), none⟩, ⟨(some 68), .binb .neq (.t 65) (.t 67), none⟩, ⟨(some 69), .mv (.t 68), none⟩, ⟨(some 70), .mv (.t 10), (some (69, false))⟩, ⟨(some 71), .mv (.t 11), (some (69, false))⟩, ⟨(some 72), .mv (.t 11), (some (69, false))⟩, ⟨(some 73), .bin .add (.t 72) (.k (.int .i64 1)), (some (69, false))⟩, ⟨(some 74), .slstr (.t 70) (some (.t 71)) (some (.t 73)), (some (69, false))⟩, ⟨(some 75), .bslt 1 [(.k (.str ⟨#[119]⟩)), (.k (.str ⟨#[103]⟩)), (.k (.str ⟨#[98]⟩))], (some (69, false))⟩, ⟨(some 76), .mv (.t 12), (some (69, false))⟩, ⟨(some 77), .ixs 1 (.t 75) (.t 76), (some (69, false))⟩, ⟨(some 78), .ld none (.t 77), (some (69, false))⟩, ⟨(some 79), .bin .neq (.t 74) (.t 78), (some (69, false))⟩, ⟨(some 80), .pick (.t 69) (.k (.bool true)) (.t 79), none⟩] (some []))
 (.cond (.t 80) (.seq (.reg [⟨(some 6), .mv (.k (.bool false)), none⟩] none)
 .ret) .skip))))
 (.reg [⟨(some 56), .mv (.t 11), none⟩, ⟨(some 57), .bin .add (.t 56) (.k (.int .i64 1)), none⟩, ⟨(some 11), .mv (.t 57), none⟩] none))))))
 (.seq (.reg [⟨(some 81), .mv (.t 7), none⟩, ⟨(some 82), .mv (.t 81), none⟩, ⟨(some 83), .ld (some 2) (.t 8), (some (82, true))⟩, ⟨(some 84), .call (.k (.fn (.func 19) [] [])) [(.t 83), (.k (.int .i64 64))], (some (82, true))⟩, ⟨(some 85), .pick (.t 82) (.t 84) (.k (.bool false)), none⟩, ⟨(some 6), .mv (.t 85), none⟩] none)
 .ret)))))))))⟩
/-- besom/besomlaw09.examples -/
def m9 : MFn := ⟨0, 146, [.tmp 0], (.seq (.reg [⟨(some 0), .mv (.k (.bool false)), none⟩] none)
 (.seq (.reg [⟨(some 18), .bld [(.int .u64 0), (.int .u64 0)] [(0, 1, (.k (.int .u64 3))), (1, 1, (.k (.int .u64 2)))], none⟩, ⟨(some 1), .alloc 65 [(.int .u64 0), (.int .u64 0)], none⟩, ⟨none, .st 2 (.t 1) (.t 18), none⟩] none)
 (.seq (.reg [⟨(some 20), .ld (some 2) (.t 1), none⟩, ⟨(some 21), .call (.k (.fn (.func 11) [] [])) [(.t 20), (.k (.int .i64 3))], none⟩, ⟨(some 19), .mv (.t 21), none⟩, ⟨(some 22), .ext (.t 19) 0, none⟩, ⟨(some 23), .ext (.t 19) 1, none⟩, ⟨(some 2), .alloc 66 [(.int .u64 0), (.int .u64 0)], none⟩, ⟨none, .st 2 (.t 2) (.t 22), none⟩, ⟨(some 3), .mv (.t 23), none⟩] none)
 (.seq (.reg [⟨(some 25), .ld (some 2) (.t 1), none⟩, ⟨(some 26), .call (.k (.fn (.func 11) [] [])) [(.t 25), (.k (.int .i64 1))], none⟩, ⟨(some 24), .mv (.t 26), none⟩, ⟨(some 27), .ext (.t 24) 0, none⟩, ⟨(some 28), .ext (.t 24) 1, none⟩, ⟨(some 4), .alloc 68 [(.int .u64 0), (.int .u64 0)], none⟩, ⟨none, .st 2 (.t 4) (.t 27), none⟩, ⟨(some 5), .mv (.t 28), none⟩] none)
 (.seq (.reg [⟨(some 30), .ld (some 2) (.t 1), none⟩, ⟨(some 31), .call (.k (.fn (.func 13) [] [])) [(.t 30), (.k (.int .i64 1))], none⟩, ⟨(some 29), .mv (.t 31), none⟩, ⟨(some 32), .ext (.t 29) 0, none⟩, ⟨(some 33), .ext (.t 29) 1, none⟩, ⟨(some 6), .alloc 70 [(.int .u64 0), (.int .u64 0)], none⟩, ⟨none, .st 2 (.t 6) (.t 32), none⟩, ⟨(some 7), .mv (.t 33), none⟩] none)
 (.seq (.reg [⟨(some 35), .ld (some 2) (.t 1), none⟩, ⟨(some 36), .call (.k (.fn (.func 13) [] [])) [(.t 35), (.k (.int .i64 2))], none⟩, ⟨(some 34), .mv (.t 36), none⟩, ⟨(some 37), .ext (.t 34) 0, none⟩, ⟨(some 38), .ext (.t 34) 1, none⟩, ⟨(some 8), .alloc 72 [(.int .u64 0), (.int .u64 0)], none⟩, ⟨none, .st 2 (.t 8) (.t 37), none⟩, ⟨(some 9), .mv (.t 38), none⟩] none)
 (.seq (.reg [⟨(some 40), .ld (some 2) (.t 1), none⟩, ⟨(some 41), .call (.k (.fn (.func 15) [] [])) [(.t 40), (.k (.int .i64 4))], none⟩, ⟨(some 39), .mv (.t 41), none⟩, ⟨(some 42), .ext (.t 39) 0, none⟩, ⟨(some 43), .ext (.t 39) 1, none⟩, ⟨(some 10), .alloc 74 [(.int .u64 0), (.int .u64 0)], none⟩, ⟨none, .st 2 (.t 10) (.t 42), none⟩, ⟨(some 11), .mv (.t 43), none⟩] none)
 (.seq (.reg [⟨(some 45), .ld (some 2) (.t 1), none⟩, ⟨(some 46), .ld (some 2) (.t 2), none⟩, ⟨(some 47), .call (.k (.fn (.func 17) [] [])) [(.t 45), (.t 46)], none⟩, ⟨(some 44), .mv (.t 47), none⟩, ⟨(some 48), .ext (.t 44) 0, none⟩, ⟨(some 49), .ext (.t 44) 1, none⟩, ⟨(some 12), .mv (.t 48), none⟩, ⟨(some 13), .mv (.t 49), none⟩] none)
 (.seq (.reg [⟨(some 51), .ld (some 2) (.t 1), none⟩, ⟨(some 52), .ld (some 2) (.t 10), none⟩, ⟨(some 53), .call (.k (.fn (.func 17) [] [])) [(.t 51), (.t 52)], none⟩, ⟨(some 50), .mv (.t 53), none⟩, ⟨(some 54), .ext (.t 50) 0, none⟩, ⟨(some 55), .ext (.t 50) 1, none⟩, ⟨(some 14), .mv (.t 54), none⟩, ⟨(some 15), .mv (.t 55), none⟩] none)
 (.seq (.reg [⟨(some 57), .ld (some 2) (.t 2), none⟩, ⟨(some 58), .ld (some 2) (.t 1), none⟩, ⟨(some 59), .call (.k (.fn (.func 17) [] [])) [(.t 57), (.t 58)], none⟩, ⟨(some 56), .mv (.t 59), none⟩, ⟨(some 60), .ext (.t 56) 0, none⟩, ⟨(some 61), .ext (.t 56) 1, none⟩, ⟨(some 16), .mv (.t 60), none⟩, ⟨(some 17), .mv (.t 61), none⟩] none)
 (.seq (.reg [⟨(some 62), .ld (some 2) (.t 1), none⟩, ⟨(some 63), .call (.k (.fn (.func 25) [] [])) [(.t 62), (.k (.int .i64 3))], none⟩, ⟨(some 64), .bin .eql (.t 63) (.k (.str ⟨#[103, 98, 119]⟩)), none⟩, ⟨(some 65), .mv (.t 64), none⟩, ⟨(some 66), .ld (some 2) (.t 1), (some (65, true))⟩, ⟨(some 67), .call (.k (.fn (.func 21) [] [])) [(.t 66), (.k (.int .i64 1))], (some (65, true))⟩, ⟨(some 68), .bin .eql (.t 67) (.k (.int .i64 1)), (some (65, true))⟩, ⟨(some 69), .pick (.t 65) (.t 68) (.k (.bool false)), none⟩, ⟨(some 70), .mv (.t 69), none⟩, ⟨(some 71), .ld (some 2) (.t 1), (some (70, true))⟩, ⟨(some 72), .call (.k (.fn (.func 21) [] [])) [(.t 71), (.k (.int .i64 0))], (some (70, true))⟩, ⟨(some 73), .bin .eql (.t 72) (.k (.int .i64 0)), (some (70, true))⟩, ⟨(some 74), .pick (.t 70) (.t 73) (.k (.bool false)), none⟩, ⟨(some 75), .mv (.t 74), none⟩, ⟨(some 76), .mv (.t 3), (some (75, true))⟩, ⟨(some 77), .pick (.t 75) (.t 76) (.k (.bool false)), none⟩, ⟨(some 78), .mv (.t 77), none⟩, ⟨(some 79), .fa 0 (.t 2), (some (78, true))⟩, ⟨(some 80), .ld none (.t 79), (some (78, true))⟩, ⟨(some 81), .bin .eql (.t 80) (.k (.int .u64 7)), (some (78, true))⟩, ⟨(some 82), .pick (.t 78) (.t 81) (.k (.bool false)), none⟩, ⟨(some 83), .mv (.t 82), none⟩, ⟨(some 84), .mv (.t 5), (some (83, true))⟩, ⟨(some 85), .un .not (.t 84), (some (83, true))⟩, ⟨(some 86), .pick (.t 83) (.t 85) (.k (.bool false)), none⟩, ⟨(some 87), .mv (.t 86), none⟩, ⟨(some 88), .mv (.t 7), (some (87, true))⟩, ⟨(some 89), .pick (.t 87) (.t 88) (.k (.bool false)), none⟩, ⟨(some 90), .mv (.t 89), none⟩, ⟨(some 91), .fa 1 (.t 6), (some (90, true))⟩, ⟨(some 92), .ld none (.t 91), (some (90, true))⟩, ⟨(some 93), .bin .eql (.t 92) (.k (.int .u64 3)), (some (90, true))⟩, ⟨(some 94), .pick (.t 90) (.t 93) (.k (.bool false)), none⟩, ⟨(some 95), .mv (.t 94), none⟩, ⟨(some 96), .mv (.t 9), (some (95, true))⟩, ⟨(some 97), .un .not (.t 96), (some (95, true))⟩, ⟨(some 98), .pick (.t 95) (.t 97) (.k (.bool false)), none⟩, ⟨(some 99), .mv (.t 98), none⟩, ⟨(some 100), .mv (.t 11), (some (99, true))⟩, ⟨(some 101), .pick (.t 99) (.t 100) (.k (.bool false)), none⟩, ⟨(some 102), .mv (.t 101), none⟩, ⟨(some 103), .ld (some 2) (.t 10), (some (102, true))⟩, ⟨(some 104), .bld [(.int .u64 0), (.int .u64 0)] [(0, 1, (.k (.int .u64 11))), (1, 1, (.k (.int .u64 10)))], (some (102, true))⟩, ⟨(some 105), .eqa false [1, 1] (.t 103) (.t 104), (some (102, true))⟩, ⟨(some 106), .pick (.t 102) (.t 105) (.k (.bool false)), none⟩, ⟨(some 107), .mv (.t 106), none⟩, ⟨(some 108), .mv (.t 12), (some (107, true))⟩, ⟨(some 109), .bin .eql (.t 108) (.k (.int .i64 1)), (some (107, true))⟩, ⟨(some 110), .pick (.t 107) (.t 109) (.k (.bool false)), none⟩, ⟨(some 111), .mv (.t 110), none⟩, ⟨(some 112), .mv (.t 13), (some (111, true))⟩, ⟨(some 113), .bin .eql (.t 112) (.k (.int .i64 3)), (some (111, true))⟩, ⟨(some 114), .pick (.t 111) (.t 113) (.k (.bool false)), none⟩, ⟨(some 115), .mv (.t 114), none⟩, ⟨(some 116), .mv (.t 14), (some (115, true))⟩, ⟨(some 117), .bin .eql (.t 116) (.k (.int .i64 3)), (some (115, true))⟩, ⟨(some 118), .pick (.t 115) (.t 117) (.k (.bool false)), none⟩, ⟨(some 119), .mv (.t 118), none⟩, ⟨(some 120), .mv (.t 15), (some (119, true))⟩, ⟨(some 121), .bin .eql (.t 120) (.k (.int .i64 4)), (some (119, true))⟩, ⟨(some 122), .pick (.t 119) (.t 121) (.k (.bool false)), none⟩, ⟨(some 123), .mv (.t 122), none⟩, ⟨(some 124), .mv (.t 16), (some (123, true))⟩, ⟨(some 125), .bin .eql (.t 124) (.k (.int .i64 (-1))), (some (123, true))⟩, ⟨(some 126), .pick (.t 123) (.t 125) (.k (.bool false)), none⟩, ⟨(some 127), .mv (.t 126), none⟩, ⟨(some 128), .ld (some 2) (.t 1), (some (127, true))⟩, ⟨(some 129), .call (.k (.fn (.func 23) [] [])) [(.t 128)], (some (127, true))⟩, ⟨(some 130), .bin .eql (.t 129) (.k (.int .u64 1)), (some (127, true))⟩, ⟨(some 131), .pick (.t 127) (.t 130) (.k (.bool false)), none⟩, ⟨(some 132), .mv (.t 131), none⟩, ⟨(some 133), .ld (some 2) (.t 1), (some (132, true))⟩, ⟨(some 134), .call (.k (.fn (.func 19) [] [])) [(.t 133), (.k (.int .i64 2))], (some (132, true))⟩, ⟨(some 135), .pick (.t 132) (.t 134) (.k (.bool false)), none⟩, ⟨(some 136), .mv (.t 135), none⟩, ⟨(some 137), .ld (some 2) (.t 1), (some (136, true))⟩, ⟨(some 138), .call (.k (.fn (.func 19) [] [])) [(.t 137), (.k (.int .i64 1))], (some (136, true))⟩, ⟨(some 139), .un .not (.t 138), (some (136, true))⟩, ⟨(some 140), .pick (.t 136) (.t 139) (.k (.bool false)), none⟩, ⟨(some 141), .mv (.t 140), none⟩, ⟨(some 142), .bld [(.int .u64 0), (.int .u64 0)] [(1, 1, (.k (.int .u64 1)))], (some (141, true))⟩, ⟨(some 143), .call (.k (.fn (.func 19) [] [])) [(.t 142), (.k (.int .i64 4))], (some (141, true))⟩, ⟨(some 144), .un .not (.t 143), (some (141, true))⟩, ⟨(some 145), .pick (.t 141) (.t 144) (.k (.bool false)), none⟩, ⟨(some 0), .mv (.t 145), none⟩] none)
 .ret)))))))))))⟩
/-- besom/besomlaw09.refTint -/
def m10 : MFn := ⟨1, 8, [.cell 2 (some 2)], (.seq (.reg [⟨(some 1), .box 65 (.t 0), none⟩, ⟨(some 2), .alloc 66 [(.int .u64 0), (.int .u64 0)], none⟩] none)
 (.seq (.reg [⟨(some 3), .fa 0 (.t 1), none⟩, ⟨(some 4), .ld none (.t 3), none⟩, ⟨(some 5), .fa 1 (.t 1), none⟩, ⟨(some 6), .ld none (.t 5), none⟩, ⟨(some 7), .bld [(.int .u64 0), (.int .u64 0)] [(0, 1, (.t 4)), (1, 1, (.t 6))], none⟩, ⟨none, .st 2 (.t 2) (.t 7), none⟩] none)
 .ret))⟩
/-- besom/tint.Shade -/
def m11 : MFn := ⟨2, 26, [.cell 4 (some 2), .tmp 5], (.seq (.reg [⟨(some 2), .box 66 (.t 0), none⟩, ⟨(some 4), .alloc 68 [(.int .u64 0), (.int .u64 0)], none⟩, ⟨(some 5), .mv (.k (.bool false)), none⟩] none)
 (.seq (.reg [⟨(some 7), .fa 0 (.t 2), none⟩, ⟨(some 8), .ld none (.t 7), none⟩, ⟨(some 9), .mv (.t 1), none⟩, ⟨(some 10), .call (.k (.fn (.func 31) [] [])) [(.t 8), (.t 9)], none⟩, ⟨(some 6), .mv (.t 10), none⟩] none)
 (.seq (.seq (.reg [⟨(some 11), .mv (.t 6), none⟩, ⟨(some 12), .fa 0 (.t 2), none⟩, ⟨(some 13), .ld none (.t 12), none⟩, ⟨(some 14), .bin .eql (.t 11) (.t 13), none⟩, ⟨(some 15), .mv (.t 14), none⟩, ⟨(some 16), .fa 1 (.t 2), (some (15, false))⟩, ⟨(some 17), .ld none (.t 16), (some (15, false))⟩, ⟨(some 18), .mv (.t 1), (some (15, false))⟩, ⟨(some 19), .call (.k (.fn (.func 28) [] [])) [(.t 17), (.t 18)], (some (15, false))⟩, ⟨(some 20), .pick (.t 15) (.k (.bool true)) (.t 19), none⟩] none)
 (.cond (.t 20) (.seq (.reg [⟨(some 21), .ld (some 2) (.t 2), none⟩, ⟨none, .st 2 (.t 4) (.t 21), none⟩, ⟨(some 5), .mv (.k (.bool false)), none⟩] none)
 .ret) .skip))
 (.seq (.reg [⟨(some 22), .mv (.t 6), none⟩, ⟨(some 23), .fa 1 (.t 2), none⟩, ⟨(some 24), .ld none (.t 23), none⟩, ⟨(some 25), .bld [(.int .u64 0), (.int .u64 0)] [(0, 1, (.t 22)), (1, 1, (.t 24))], none⟩, ⟨none, .st 2 (.t 4) (.t 25), none⟩, ⟨(some 5), .mv (.k (.bool true)), none⟩] none)
 .ret))))⟩
/-- besom/besomref09.Shade -/
def m12 : MFn := ⟨2, 32, [.cell 4 (some 2), .tmp 5], (.seq (.reg [⟨(some 2), .box 66 (.t 0), none⟩, ⟨(some 4), .alloc 68 [(.int .u64 0), (.int .u64 0)], none⟩, ⟨(some 5), .mv (.k (.bool false)), none⟩] none)
 (.seq (.seq (.reg [⟨(some 6), .mv (.t 1), none⟩, ⟨(some 7), .bin .lss (.t 6) (.k (.int .i64 1)), none⟩, ⟨(some 8), .mv (.t 7), none⟩, ⟨(some 9), .mv (.t 1), (some (8, false))⟩, ⟨(some 10), .bin .gtr (.t 9) (.k (.int .i64 64)), (some (8, false))⟩, ⟨(some 11), .pick (.t 8) (.k (.bool true)) (.t 10), none⟩, ⟨(some 12), .mv (.t 11), none⟩, ⟨(some 13), .fa 0 (.t 2), (some (12, false))⟩, ⟨(some 14), .ld none (.t 13), (some (12, false))⟩, ⟨(some 15), .mv (.t 1), (some (12, false))⟩, ⟨(some 16), .call (.k (.fn (.func 32) [] [])) [(.t 14), (.t 15)], (some (12, false))⟩, ⟨(some 17), .pick (.t 12) (.k (.bool true)) (.t 16), none⟩, ⟨(some 18), .mv (.t 17), none⟩, ⟨(some 19), .fa 1 (.t 2), (some (18, false))⟩, ⟨(some 20), .ld none (.t 19), (some (18, false))⟩, ⟨(some 21), .mv (.t 1), (some (18, false))⟩, ⟨(some 22), .call (.k (.fn (.func 32) [] [])) [(.t 20), (.t 21)], (some (18, false))⟩, ⟨(some 23), .pick (.t 18) (.k (.bool true)) (.t 22), none⟩] none)
 (.cond (.t 23) (.seq (.reg [⟨(some 24), .ld (some 2) (.t 2), none⟩, ⟨none, .st 2 (.t 4) (.t 24), none⟩, ⟨(some 5), .mv (.k (.bool false)), none⟩] none)
 .ret) .skip))
 (.seq (.reg [⟨(some 25), .fa 0 (.t 2), none⟩, ⟨(some 26), .ld none (.t 25), none⟩, ⟨(some 27), .mv (.t 1), none⟩, ⟨(some 28), .call (.k (.fn (.func 33) [] [])) [(.t 26), (.t 27)], none⟩, ⟨(some 29), .fa 1 (.t 2), none⟩, ⟨(some 30), .ld none (.t 29), none⟩, ⟨(some 31), .bld [(.int .u64 0), (.int .u64 0)] [(0, 1, (.t 28)), (1, 1, (.t 30))], none⟩, ⟨none, .st 2 (.t 4) (.t 31), none⟩, ⟨(some 5), .mv (.k (.bool true)), none⟩] (some []))
 .ret)))⟩
/-- besom/tint.Scan -/
def m13 : MFn := ⟨2, 18, [.cell 4 (some 2), .tmp 5], (.seq (.reg [⟨(some 2), .box 66 (.t 0), none⟩, ⟨(some 4), .alloc 68 [(.int .u64 0), (.int .u64 0)], none⟩, ⟨(some 5), .mv (.k (.bool false)), none⟩] none)
 (.seq (.seq (.reg [⟨(some 6), .ld (some 2) (.t 2), none⟩, ⟨(some 7), .mv (.t 1), none⟩, ⟨(some 8), .call (.k (.fn (.func 21) [] [])) [(.t 6), (.t 7)], none⟩, ⟨(some 9), .bin .neq (.t 8) (.k (.int .i64 1)), none⟩] none)
 (.cond (.t 9) (.seq (.reg [⟨(some 10), .ld (some 2) (.t 2), none⟩, ⟨none, .st 2 (.t 4) (.t 10), none⟩, ⟨(some 5), .mv (.k (.bool false)), none⟩] none)
 .ret) .skip))
 (.seq (.reg [⟨(some 11), .fa 0 (.t 2), none⟩, ⟨(some 12), .ld none (.t 11), none⟩, ⟨(some 13), .fa 1 (.t 2), none⟩, ⟨(some 14), .ld none (.t 13), none⟩, ⟨(some 15), .mv (.t 1), none⟩, ⟨(some 16), .call (.k (.fn (.func 31) [] [])) [(.t 14), (.t 15)], none⟩, ⟨(some 17), .bld [(.int .u64 0), (.int .u64 0)] [(0, 1, (.t 12)), (1, 1, (.t 16))], none⟩, ⟨none, .st 2 (.t 4) (.t 17), none⟩, ⟨(some 5), .mv (.k (.bool true)), none⟩] (some []))
 .ret)))⟩
/-- besom/besomref09.Scan -/
def m14 : MFn := ⟨2, 18, [.cell 4 (some 2), .tmp 5], (.seq (.reg [⟨(some 2), .box 66 (.t 0), none⟩, ⟨(some 4), .alloc 68 [(.int .u64 0), (.int .u64 0)], none⟩, ⟨(some 5), .mv (.k (.bool false)), none⟩] none)
 (.seq (.seq (.reg [⟨(some 6), .ld (some 2) (.t 2), none⟩, ⟨(some 7), .mv (.t 1), none⟩, ⟨(some 8), .call (.k (.fn (.func 22) [] [])) [(.t 6), (.t 7)], none⟩, ⟨(some 9), .bin .neq (.t 8) (.k (.int .i64 1)), none⟩] none)
 (.cond (.t 9) (.seq (.reg [⟨(some 10), .ld (some 2) (.t 2), none⟩, ⟨none, .st 2 (.t 4) (.t 10), none⟩, ⟨(some 5), .mv (.k (.bool false)), none⟩] none)
 .ret) .skip))
 (.seq (.reg [⟨(some 11), .fa 0 (.t 2), none⟩, ⟨(some 12), .ld none (.t 11), none⟩, ⟨(some 13), .fa 1 (.t 2), none⟩, ⟨(some 14), .ld none (.t 13), none⟩, ⟨(some 15), .mv (.t 1), none⟩, ⟨(some 16), .call (.k (.fn (.func 33) [] [])) [(.t 14), (.t 15)], none⟩, ⟨(some 17), .bld [(.int .u64 0), (.int .u64 0)] [(0, 1, (.t 12)), (1, 1, (.t 16))], none⟩, ⟨none, .st 2 (.t 4) (.t 17), none⟩, ⟨(some 5), .mv (.k (.bool true)), none⟩] (some []))
 .ret)))⟩
/-- besom/tint.Fresh -/
def m15 : MFn := ⟨2, 22, [.cell 4 (some 2), .tmp 5], (.seq (.reg [⟨(some 2), .box 66 (.t 0), none⟩, ⟨(some 4), .alloc 68 [(.int .u64 0), (.int .u64 0)], none⟩, ⟨(some 5), .mv (.k (.bool false)), none⟩] none)
 (.seq (.reg [⟨(some 9), .ld (some 2) (.t 2), none⟩, ⟨(some 10), .mv (.t 1), none⟩, ⟨(some 11), .call (.k (.fn (.func 11) [] [])) [(.t 9), (.t 10)], none⟩, ⟨(some 8), .mv (.t 11), none⟩, ⟨(some 12), .ext (.t 8) 0, none⟩, ⟨(some 13), .ext (.t 8) 1, none⟩, ⟨(some 6), .alloc 70 [(.int .u64 0), (.int .u64 0)], none⟩, ⟨none, .st 2 (.t 6) (.t 12), none⟩, ⟨(some 7), .mv (.t 13), none⟩] none)
 (.seq (.seq (.reg [⟨(some 14), .mv (.t 7), none⟩, ⟨(some 15), .un .not (.t 14), none⟩] none)
 (.cond (.t 15) (.seq (.reg [⟨(some 16), .ld (some 2) (.t 2), none⟩, ⟨none, .st 2 (.t 4) (.t 16), none⟩, ⟨(some 5), .mv (.k (.bool false)), none⟩] none)
 .ret) .skip))
 (.seq (.reg [⟨(some 17), .ld (some 2) (.t 6), none⟩, ⟨(some 18), .mv (.t 1), none⟩, ⟨(some 19), .call (.k (.fn (.func 13) [] [])) [(.t 17), (.t 18)], none⟩, ⟨(some 20), .ext (.t 19) 0, none⟩, ⟨(some 21), .ext (.t 19) 1, none⟩, ⟨none, .st 2 (.t 4) (.t 20), none⟩, ⟨(some 5), .mv (.t 21), none⟩] none)
 .ret))))⟩
/-- besom/besomref09.Fresh -/
def m16 : MFn := ⟨2, 26, [.cell 4 (some 2), .tmp 5], (.seq (.reg [⟨(some 2), .box 66 (.t 0), none⟩, ⟨(some 4), .alloc 68 [(.int .u64 0), (.int .u64 0)], none⟩, ⟨(some 5), .mv (.k (.bool false)), none⟩] none)
 (.seq (.reg [⟨(some 11), .ld (some 2) (.t 2), none⟩, ⟨(some 12), .mv (.t 1), none⟩, ⟨(some 13), .call (.k (.fn (.func 12) [] [])) [(.t 11), (.t 12)], none⟩, ⟨(some 10), .mv (.t 13), none⟩, ⟨(some 14), .ext (.t 10) 0, none⟩, ⟨(some 15), .ext (.t 10) 1, none⟩, ⟨(some 6), .alloc 70 [(.int .u64 0), (.int .u64 0)], none⟩, ⟨none, .st 2 (.t 6) (.t 14), none⟩, ⟨(some 7), .mv (.t 15), none⟩] none)
 (.seq (.seq (.reg [⟨(some 16), .mv (.t 7), none⟩, ⟨(some 17), .un .not (.t 16), none⟩] none)
 (.cond (.t 17) (.seq (.reg [⟨(some 18), .ld (some 2) (.t 2), none⟩, ⟨none, .st 2 (.t 4) (.t 18), none⟩, ⟨(some 5), .mv (.k (.bool false)), none⟩] none)
 .ret) .skip))
 (.seq (.reg [⟨(some 20), .ld (some 2) (.t 6), none⟩, ⟨(some 21), .mv (.t 1), none⟩, ⟨(some 22), .call (.k (.fn (.func 14) [] [])) [(.t 20), (.t 21)], none⟩, ⟨(some 19), .mv (.t 22), none⟩, ⟨(some 23), .ext (.t 19) 0, none⟩, ⟨(some 24), .ext (.t 19) 1, none⟩, ⟨(some 8), .alloc 72 [(.int .u64 0), (.int .u64 0)], none⟩, ⟨none, .st 2 (.t 8) (.t 23), none⟩, ⟨(some 9), .mv (.t 24), none⟩] none)
 (.seq (.reg [⟨(some 25), .ld (some 2) (.t 8), none⟩, ⟨none, .st 2 (.t 4) (.t 25), none⟩, ⟨(some 5), .mv (.k (.bool true)), none⟩] none)
 .ret)))))⟩
/-- besom/tint.Between -/
def m17 : MFn := ⟨2, 42, [.tmp 4, .tmp 5], (.seq (.reg [⟨(some 2), .box 66 (.t 0), none⟩, ⟨(some 3), .box 67 (.t 1), none⟩, ⟨(some 4), .mv (.k (.int .i64 0)), none⟩, ⟨(some 5), .mv (.k (.int .i64 0)), none⟩] none)
 (.seq (.seq (.reg [⟨(some 11), .ld (some 2) (.t 2), none⟩, ⟨(some 12), .ld (some 2) (.t 3), none⟩, ⟨(some 13), .eqa false [1, 1] (.t 11) (.t 12), none⟩] none)
 (.cond (.t 13) (.seq (.reg [⟨(some 4), .mv (.k (.int .i64 0)), none⟩, ⟨(some 5), .mv (.k (.int .i64 0)), none⟩] none)
 .ret) .skip))
 (.seq (.reg [⟨(some 14), .bld [.nilfn, .nilfn, .nilfn, .nilfn] [(1, 1, (.k (.fn (.func 11) [] []))), (2, 1, (.k (.fn (.func 13) [] []))), (3, 1, (.k (.fn (.func 15) [] [])))], none⟩, ⟨(some 6), .alloca 70 [.nilfn, .nilfn, .nilfn, .nilfn], none⟩, ⟨none, .st 4 (.t 6) (.t 14), none⟩] none)
 (.seq (.seq (.reg [⟨(some 15), .mv (.k (.int .i64 0)), none⟩] none)
 (.block 0 (.loop (.seq (.reg [⟨(some 16), .bin .lss (.t 15) (.k (.int .i64 64)), none⟩] none)
 (.seq (.cond (.t 16) .skip (.exit 0))
 (.seq (.block 1 (.seq (.reg [⟨(some 17), .mv (.t 15), none⟩, ⟨(some 7), .mv (.t 17), none⟩] none)
 (.seq (.reg [⟨(some 8), .mv (.k (.int .i64 1)), none⟩] none)
 (.block 2 (.loop (.seq (.seq (.reg [⟨(some 18), .mv (.t 8), none⟩, ⟨(some 19), .bin .leq (.t 18) (.k (.int .i64 3)), none⟩] none)
 (.cond (.t 19) .skip (.exit 2)))
 (.seq (.block 3 (.seq (.reg [⟨(some 23), .mv (.t 8), none⟩, ⟨(some 24), .ixa 4 1 (.t 6) (.t 23), none⟩, ⟨(some 25), .ld none (.t 24), none⟩, ⟨(some 26), .ld (some 2) (.t 2), none⟩, ⟨(some 27), .mv (.t 7), none⟩, ⟨(some 28), .bin .add (.t 27) (.k (.int .i64 1)), none⟩, ⟨(some 29), .call (.t 25) [(.t 26), (.t 28)], none⟩, ⟨(some 22), .mv (.t 29), none⟩, ⟨(some 30), .ext (.t 22) 0, none⟩, ⟨(some 31), .ext (.t 22) 1, none⟩, ⟨(some 9), .alloc 73 [(.int .u64 0), (.int .u64 0)], none⟩, ⟨none, .st 2 (.t 9) (.t 30), none⟩, ⟨(some 10), .mv (.t 31), none⟩] (some [(1, 10), (2, 10), (3, 10)]))
 (.seq (.reg [⟨(some 32), .mv (.t 10), none⟩, ⟨(some 33), .mv (.t 32), none⟩, ⟨(some 34), .ld (some 2) (.t 9), (some (33, true))⟩, ⟨(some 35), .ld (some 2) (.t 3), (some (33, true))⟩, ⟨(some 36), .eqa false [1, 1] (.t 34) (.t 35), (some (33, true))⟩, ⟨(some 37), .pick (.t 33) (.t 36) (.k (.bool false)), none⟩] none)
 (.cond (.t 37) (.seq (.reg [⟨(some 38), .mv (.t 8), none⟩, ⟨(some 39), .mv (.t 7), none⟩, ⟨(some 40), .bin .add (.t 39) (.k (.int .i64 1)), none⟩, ⟨(some 4), .mv (.t 38), none⟩, ⟨(some 5), .mv (.t 40), none⟩] none)
 .ret) .skip))))
 (.reg [⟨(some 20), .mv (.t 8), none⟩, ⟨(some 21), .bin .add (.t 20) (.k (.int .i64 1)), none⟩, ⟨(some 8), .mv (.t 21), none⟩] none))))))))
 (.reg [⟨(some 41), .bin .add (.t 15) (.k (.int .i64 1)), none⟩, ⟨(some 15), .mv (.t 41), none⟩] none)))))))
 (.seq (.reg [⟨(some 4), .mv (.k (.int .i64 (-1))), none⟩, ⟨(some 5), .mv (.k (.int .i64 0)), none⟩] none)
 .ret)))))⟩
/-- besom/besomref09.Between -/
def m18 : MFn := ⟨2, 59, [.tmp 4, .tmp 5], (.seq (.reg [⟨(some 2), .box 66 (.t 0), none⟩, ⟨(some 3), .box 67 (.t 1), none⟩, ⟨(some 4), .mv (.k (.int .i64 0)), none⟩, ⟨(some 5), .mv (.k (.int .i64 0)), none⟩] none)
 (.seq (.seq (.reg [⟨(some 13), .ld (some 2) (.t 2), none⟩, ⟨(some 14), .ld (some 2) (.t 3), none⟩, ⟨(some 15), .eqa false [1, 1] (.t 13) (.t 14), none⟩] none)
 (.cond (.t 15) (.seq (.reg [⟨(some 4), .mv (.k (.int .i64 0)), none⟩, ⟨(some 5), .mv (.k (.int .i64 0)), none⟩] none)
 .ret) .skip))
 (.seq (.seq (.reg [⟨(some 6), .mv (.k (.int .i64 1)), none⟩] none)
 (.block 0 (.loop (.seq (.seq (.reg [⟨(some 16), .mv (.t 6), none⟩, ⟨(some 17), .bin .leq (.t 16) (.k (.int .i64 64)), none⟩] none)
 (.cond (.t 17) .skip (.exit 0)))
 (.seq (.block 1 (.seq (.reg [⟨(some 21), .ld (some 2) (.t 2), none⟩, ⟨(some 22), .mv (.t 6), none⟩, ⟨(some 23), .call (.k (.fn (.func 12) [] [])) [(.t 21), (.t 22)], none⟩, ⟨(some 20), .mv (.t 23), none⟩, ⟨(some 24), .ext (.t 20) 0, none⟩, ⟨(some 25), .ext (.t 20) 1, none⟩, ⟨(some 7), .alloc 71 [(.int .u64 0), (.int .u64 0)], none⟩, ⟨none, .st 2 (.t 7) (.t 24), none⟩, ⟨(some 8), .mv (.t 25), none⟩] none)
 (.seq (.seq (.reg [⟨(some 26), .mv (.t 8), none⟩, ⟨(some 27), .mv (.t 26), none⟩, ⟨(some 28), .ld (some 2) (.t 7), (some (27, true))⟩, ⟨(some 29), .ld (some 2) (.t 3), (some (27, true))⟩, ⟨(some 30), .eqa false [1, 1] (.t 28) (.t 29), (some (27, true))⟩, ⟨(some 31), .pick (.t 27) (.t 30) (.k (.bool false)), none⟩] none)
 (.cond (.t 31) (.seq (.reg [⟨(some 32), .mv (.t 6), none⟩, ⟨(some 4), .mv (.k (.int .i64 1)), none⟩, ⟨(some 5), .mv (.t 32), none⟩] none)
 .ret) .skip))
 (.seq (.reg [⟨(some 34), .ld (some 2) (.t 2), none⟩, ⟨(some 35), .mv (.t 6), none⟩, ⟨(some 36), .call (.k (.fn (.func 14) [] [])) [(.t 34), (.t 35)], none⟩, ⟨(some 33), .mv (.t 36), none⟩, ⟨(some 37), .ext (.t 33) 0, none⟩, ⟨(some 38), .ext (.t 33) 1, none⟩, ⟨(some 9), .alloc 73 [(.int .u64 0), (.int .u64 0)], none⟩, ⟨none, .st 2 (.t 9) (.t 37), none⟩, ⟨(some 10), .mv (.t 38), none⟩] none)
 (.seq (.seq (.reg [⟨(some 39), .mv (.t 10), none⟩, ⟨(some 40), .mv (.t 39), none⟩, ⟨(some 41), .ld (some 2) (.t 9), (some (40, true))⟩, ⟨(some 42), .ld (some 2) (.t 3), (some (40, true))⟩, ⟨(some 43), .eqa false [1, 1] (.t 41) (.t 42), (some (40, true))⟩, ⟨(some 44), .pick (.t 40) (.t 43) (.k (.bool false)), none⟩] none)
 (.cond (.t 44) (.seq (.reg [⟨(some 45), .mv (.t 6), none⟩, ⟨(some 4), .mv (.k (.int .i64 2)), none⟩, ⟨(some 5), .mv (.t 45), none⟩] none)
 .ret) .skip))
 (.seq (.reg [⟨(some 47), .ld (some 2) (.t 2), none⟩, ⟨(some 48), .mv (.t 6), none⟩, ⟨(some 49), .call (.k (.fn (.func 16) [] [])) [(.t 47), (.t 48)], none⟩, ⟨(some 46), .mv (.t 49), none⟩, ⟨(some 50), .ext (.t 46) 0, none⟩, ⟨(some 51), .ext (.t 46) 1, none⟩, ⟨(some 11), .alloc 75 [(.int .u64 0), (.int .u64 0)], none⟩, ⟨none, .st 2 (.t 11) (.t 50), none⟩, ⟨(some 12), .mv (.t 51), none⟩] none)
 (.seq (.reg [⟨(some 52), .mv (.t 12), none⟩, ⟨(some 53), .mv (.t 52), none⟩, ⟨(some 54), .ld (some 2) (.t 11), (some (53, true))⟩, ⟨(some 55), .ld (some 2) (.t 3), (some (53, true))⟩, ⟨(some 56), .eqa false [1, 1] (.t 54) (.t 55), (some (53, true))⟩, ⟨(some 57), .pick (.t 53) (.t 56) (.k (.bool false)), none⟩] none)
 (.cond (.t 57) (.seq (.reg [⟨(some 58), .mv (.t 6), none⟩, ⟨(some 4), .mv (.k (.int .i64 3)), none⟩, ⟨(some 5), .mv (.t 58), none⟩] none)
 .ret) .skip))))))))
 (.reg [⟨(some 18), .mv (.t 6), none⟩, ⟨(some 19), .bin .add (.t 18) (.k (.int .i64 1)), none⟩, ⟨(some 6), .mv (.t 19), none⟩] none))))))
 (.seq (.reg [⟨(some 4), .mv (.k (.int .i64 (-1))), none⟩, ⟨(some 5), .mv (.k (.int .i64 0)), none⟩] none)
 .ret))))⟩
/-- besom/tint.Right -/
def m19 : MFn := ⟨2, 17, [.tmp 4], (.seq (.reg [⟨(some 2), .box 66 (.t 0), none⟩, ⟨(some 4), .mv (.k (.bool false)), none⟩] none)
 (.seq (.reg [⟨(some 5), .fa 1 (.t 2), none⟩, ⟨(some 6), .ld none (.t 5), none⟩, ⟨(some 7), .fa 0 (.t 2), none⟩, ⟨(some 8), .ld none (.t 7), none⟩, ⟨(some 9), .call (.k (.fn (.func 29) [] [])) [(.t 6), (.t 8)], none⟩, ⟨(some 10), .mv (.t 9), none⟩, ⟨(some 11), .fa 0 (.t 2), (some (10, true))⟩, ⟨(some 12), .ld none (.t 11), (some (10, true))⟩, ⟨(some 13), .mv (.t 1), (some (10, true))⟩, ⟨(some 14), .call (.k (.fn (.func 34) [] [])) [(.t 13)], (some (10, true))⟩, ⟨(some 15), .call (.k (.fn (.func 29) [] [])) [(.t 12), (.t 14)], (some (10, true))⟩, ⟨(some 16), .pick (.t 10) (.t 15) (.k (.bool false)), none⟩, ⟨(some 4), .mv (.t 16), none⟩] (some []))
 .ret))⟩
/-- besom/besomref09.Right -/
def m20 : MFn := ⟨2, 17, [.tmp 4], (.seq (.reg [⟨(some 2), .box 66 (.t 0), none⟩, ⟨(some 4), .mv (.k (.bool false)), none⟩] none)
 (.seq (.reg [⟨(some 5), .fa 1 (.t 2), none⟩, ⟨(some 6), .ld none (.t 5), none⟩, ⟨(some 7), .fa 0 (.t 2), none⟩, ⟨(some 8), .ld none (.t 7), none⟩, ⟨(some 9), .call (.k (.fn (.func 35) [] [])) [(.t 6), (.t 8)], none⟩, ⟨(some 10), .mv (.t 9), none⟩, ⟨(some 11), .fa 0 (.t 2), (some (10, true))⟩, ⟨(some 12), .ld none (.t 11), (some (10, true))⟩, ⟨(some 13), .mv (.t 1), (some (10, true))⟩, ⟨(some 14), .call (.k (.fn (.func 36) [] [])) [(.t 13)], (some (10, true))⟩, ⟨(some 15), .call (.k (.fn (.func 35) [] [])) [(.t 12), (.t 14)], (some (10, true))⟩, ⟨(some 16), .pick (.t 10) (.t 15) (.k (.bool false)), none⟩, ⟨(some 4), .mv (.t 16), none⟩] (some []))
 .ret))⟩
/-- besom/tint.Of -/
def m21 : MFn := ⟨2, 18, [.tmp 4], (.seq (.reg [⟨(some 2), .box 66 (.t 0), none⟩, ⟨(some 4), .mv (.k (.int .i64 0)), none⟩] none)
 (.seq (.block 0 (.seq (.reg [⟨(some 6), .fa 0 (.t 2), none⟩, ⟨(some 7), .ld none (.t 6), none⟩, ⟨(some 8), .fa 1 (.t 2), none⟩, ⟨(some 9), .ld none (.t 8), none⟩, ⟨(some 10), .bin .and (.t 7) (.t 9), none⟩, ⟨(some 11), .mv (.t 1), none⟩, ⟨(some 12), .call (.k (.fn (.func 28) [] [])) [(.t 10), (.t 11)], none⟩, ⟨(some 5), .mv (.t 12), none⟩] none)
 (.cond (.t 5) (.seq (.reg [⟨(some 4), .mv (.k (.int .i64 2)), none⟩] none)
 .ret) (.seq (.reg [⟨(some 14), .fa 0 (.t 2), none⟩, ⟨(some 15), .ld none (.t 14), none⟩, ⟨(some 16), .mv (.t 1), none⟩, ⟨(some 17), .call (.k (.fn (.func 28) [] [])) [(.t 15), (.t 16)], none⟩, ⟨(some 13), .mv (.t 17), none⟩] none)
 (.cond (.t 13) (.seq (.reg [⟨(some 4), .mv (.k (.int .i64 1)), none⟩] none)
 .ret) .skip)))))
 (.seq (.reg [⟨(some 4), .mv (.k (.int .i64 0)), none⟩] none)
 .ret)))⟩
/-- besom/besomref09.Of -/
def m22 : MFn := ⟨2, 16, [.tmp 4], (.seq (.reg [⟨(some 2), .box 66 (.t 0), none⟩, ⟨(some 4), .mv (.k (.int .i64 0)), none⟩] none)
 (.seq (.block 0 (.seq (.reg [⟨(some 6), .fa 0 (.t 2), none⟩, ⟨(some 7), .ld none (.t 6), none⟩, ⟨(some 8), .mv (.t 1), none⟩, ⟨(some 9), .call (.k (.fn (.func 32) [] [])) [(.t 7), (.t 8)], none⟩, ⟨(some 10), .un .not (.t 9), none⟩, ⟨(some 5), .mv (.t 10), none⟩] none)
 (.cond (.t 5) (.seq (.reg [⟨(some 4), .mv (.k (.int .i64 0)), none⟩] none)
 .ret) (.seq (.reg [⟨(some 12), .fa 1 (.t 2), none⟩, ⟨(some 13), .ld none (.t 12), none⟩, ⟨(some 14), .mv (.t 1), none⟩, ⟨(some 15), .call (.k (.fn (.func 32) [] [])) [(.t 13), (.t 14)], none⟩, ⟨(some 11), .mv (.t 15), none⟩] none)
 (.cond (.t 11) (.seq (.reg [⟨(some 4), .mv (.k (.int .i64 2)), none⟩] none)
 .ret) .skip)))))
 (.seq (.reg [⟨(some 4), .mv (.k (.int .i64 1)), none⟩] none)
 .ret)))⟩
/-- besom/tint.Greys -/
def m23 : MFn := ⟨1, 8, [.tmp 2], (.seq (.reg [⟨(some 1), .box 65 (.t 0), none⟩, ⟨(some 2), .mv (.k (.int .u64 0)), none⟩] none)
 (.seq (.reg [⟨(some 3), .fa 0 (.t 1), none⟩, ⟨(some 4), .ld none (.t 3), none⟩, ⟨(some 5), .fa 1 (.t 1), none⟩, ⟨(some 6), .ld none (.t 5), none⟩, ⟨(some 7), .bin .andNot (.t 4) (.t 6), none⟩, ⟨(some 2), .mv (.t 7), none⟩] none)
 .ret))⟩
/-- besom/besomref09.Greys -/
def m24 : MFn := ⟨1, 11, [.tmp 2], (.seq (.reg [⟨(some 1), .box 65 (.t 0), none⟩, ⟨(some 2), .mv (.k (.int .u64 0)), none⟩] none)
 (.seq (.reg [⟨(some 3), .fa 0 (.t 1), none⟩, ⟨(some 4), .ld none (.t 3), none⟩, ⟨(some 5), .fa 0 (.t 1), none⟩, ⟨(some 6), .ld none (.t 5), none⟩, ⟨(some 7), .fa 1 (.t 1), none⟩, ⟨(some 8), .ld none (.t 7), none⟩, ⟨(some 9), .bin .and (.t 6) (.t 8), none⟩, ⟨(some 10), .bin .sub (.t 4) (.t 9), none⟩, ⟨(some 2), .mv (.t 10), none⟩] none)
 .ret))⟩
/-- besom/tint.Text -/
def m25 : MFn := ⟨2, 23, [.tmp 4], (.seq (.reg [⟨(some 2), .box 66 (.t 0), none⟩, ⟨(some 4), .mv (.k (.str ⟨#[]⟩)), none⟩] none)
 (.seq (.reg [⟨(some 5), .mv (.k (.str ⟨#[]⟩)), none⟩] none)
 (.seq (.seq (.reg [⟨(some 7), .mv (.t 1), none⟩, ⟨(some 8), .mx (.t 7) (.k (.int .i64 0)), none⟩, ⟨(some 9), .mn (.t 8) (.k (.int .i64 64)), none⟩, ⟨(some 10), .mv (.k (.int .i64 0)), none⟩] none)
 (.block 0 (.loop (.seq (.reg [⟨(some 11), .bin .lss (.t 10) (.t 9), none⟩] none)
 (.seq (.cond (.t 11) .skip (.exit 0))
 (.seq (.block 1 (.seq (.reg [⟨(some 12), .mv (.t 10), none⟩, ⟨(some 6), .mv (.t 12), none⟩] none)
 (.reg [⟨(some 13), .mv (.t 5), none⟩, ⟨(some 14), .ld (some 2) (.t 2), none⟩, ⟨(some 15), .mv (.t 6), none⟩, ⟨(some 16), .bin .add (.t 15) (.k (.int .i64 1)), none⟩, ⟨(some 17), .call (.k (.fn (.func 21) [] [])) [(.t 14), (.t 16)], none⟩, ⟨(some 18), .ixa 3 1 (.g 0) (.t 17), none⟩, ⟨(some 19), .ld none (.t 18), none⟩, ⟨(some 20), .bin .add (.t 13) (.t 19), none⟩, ⟨(some 5), .mv (.t 20), none⟩] none)))
 (.reg [⟨(some 21), .bin .add (.t 10) (.k (.int .i64 1)), none⟩, ⟨(some 10), .mv (.t 21), none⟩] none)))))))
 (.seq (.reg [⟨(some 22), .mv (.t 5), none⟩, ⟨(some 4), .mv (.t 22), none⟩] none)
 .ret))))⟩
/-- besom/besomref09.Text -/
def m26 : MFn := ⟨2, 25, [.tmp 4], (.seq (.reg [⟨(some 2), .box 66 (.t 0), none⟩, ⟨(some 4), .mv (.k (.str ⟨#[]⟩)), none⟩] none)
 (.seq (.reg [⟨(some 5), .mv (.k (.str ⟨#[]⟩)), none⟩] none)
 (.seq (.seq (.reg [⟨(some 6), .mv (.k (.int .i64 1)), none⟩] none)
 (.block 0 (.loop (.seq (.seq (.reg [⟨(some 7), .mv (.t 6), none⟩, ⟨(some 8), .mv (.t 1), none⟩, ⟨(some 9), .bin .leq (.t 7) (.t 8), none⟩, ⟨(some 10), .mv (.t 9), none⟩, ⟨(some 11), .mv (.t 6), (some (10, true))⟩, ⟨(some 12), .bin .leq (.t 11) (.k (.int .i64 64)), (some (10, true))⟩, ⟨(some 13), .pick (.t 10) (.t 12) (.k (.bool false)), none⟩] none)
 (.cond (.t 13) .skip (.exit 0)))
 (.seq (.block 1 (.reg [⟨(some 16), .mv (.t 5), none⟩, ⟨(some 17), .bslt 1 [(.k (.str ⟨#[119]⟩)), (.k (.str ⟨#[103]⟩)), (.k (.str ⟨#[98]⟩))], none⟩, ⟨(some 18), .ld (some 2) (.t 2), none⟩, ⟨(some 19), .mv (.t 6), none⟩, ⟨(some 20), .call (.k (.fn (.func 22) [] [])) [(.t 18), (.t 19)], none⟩, ⟨(some 21), .ixs 1 (.t 17) (.t 20), none⟩, ⟨(some 22), .ld none (.t 21), none⟩, ⟨(some 23), .bin .add (.t 16) (.t 22), none⟩, ⟨(some 5), .mv (.t 23), none⟩] none))
 (.reg [⟨(some 14), .mv (.t 6), none⟩, ⟨(some 15), .bin .add (.t 14) (.k (.int .i64 1)), none⟩, ⟨(some 6), .mv (.t 15), none⟩] none))))))
 (.seq (.reg [⟨(some 24), .mv (.t 5), none⟩, ⟨(some 4), .mv (.t 24), none⟩] none)
 .ret))))⟩
/-- besom/besomlaw09.some -/
def m27 : MFn := ⟨2, 10, [.cell 4 (some 2)], (.seq (.reg [⟨(some 4), .alloc 68 [(.int .u64 0), (.int .u64 0)], none⟩] none)
 (.seq (.reg [⟨(some 5), .mv (.t 0), none⟩, ⟨(some 6), .mv (.t 0), none⟩, ⟨(some 7), .mv (.t 1), none⟩, ⟨(some 8), .bin .and (.t 6) (.t 7), none⟩, ⟨(some 9), .bld [(.int .u64 0), (.int .u64 0)] [(0, 1, (.t 5)), (1, 1, (.t 8))], none⟩, ⟨none, .st 2 (.t 4) (.t 9), none⟩] none)
 .ret))⟩
/-- besom/set.Has -/
def m28 : MFn := ⟨2, 10, [.tmp 4], (.seq (.reg [⟨(some 4), .mv (.k (.bool false)), none⟩] none)
 (.seq (.reg [⟨(some 5), .mv (.t 0), none⟩, ⟨(some 6), .mv (.t 1), none⟩, ⟨(some 7), .call (.k (.fn (.func 37) [] [])) [(.t 6)], none⟩, ⟨(some 8), .bin .and (.t 5) (.t 7), none⟩, ⟨(some 9), .bin .neq (.t 8) (.k (.int .u64 0)), none⟩, ⟨(some 4), .mv (.t 9), none⟩] none)
 .ret))⟩
/-- besom/set.Under -/
def m29 : MFn := ⟨2, 9, [.tmp 4], (.seq (.reg [⟨(some 4), .mv (.k (.bool false)), none⟩] none)
 (.seq (.reg [⟨(some 5), .mv (.t 0), none⟩, ⟨(some 6), .mv (.t 1), none⟩, ⟨(some 7), .bin .andNot (.t 5) (.t 6), none⟩, ⟨(some 8), .bin .eql (.t 7) (.k (.int .u64 0)), none⟩, ⟨(some 4), .mv (.t 8), none⟩] none)
 .ret))⟩
/-- besom/set.Count -/
def m30 : MFn := ⟨1, 5, [.tmp 2], (.seq (.reg [⟨(some 2), .mv (.k (.int .i64 0)), none⟩] none)
 (.seq (.reg [⟨(some 3), .mv (.t 0), none⟩, ⟨(some 4), .call (.k (.fn (.func 38) [] [])) [(.t 3)], none⟩, ⟨(some 2), .mv (.t 4), none⟩] none)
 .ret))⟩
/-- besom/set.Add -/
def m31 : MFn := ⟨2, 9, [.tmp 4], (.seq (.reg [⟨(some 4), .mv (.k (.int .u64 0)), none⟩] none)
 (.seq (.reg [⟨(some 5), .mv (.t 0), none⟩, ⟨(some 6), .mv (.t 1), none⟩, ⟨(some 7), .call (.k (.fn (.func 37) [] [])) [(.t 6)], none⟩, ⟨(some 8), .bin .or (.t 5) (.t 7), none⟩, ⟨(some 4), .mv (.t 8), none⟩] none)
 .ret))⟩
/-- besom/besomref02.Has -/
def m32 : MFn := ⟨2, 15, [.tmp 4], (.seq (.reg [⟨(some 4), .mv (.k (.bool false)), none⟩] none)
 (.seq (.reg [⟨(some 5), .mv (.t 1), none⟩, ⟨(some 6), .call (.k (.fn (.func 39) [] [])) [(.t 5)], none⟩, ⟨(some 7), .mv (.t 6), none⟩, ⟨(some 8), .mv (.t 0), (some (7, true))⟩, ⟨(some 9), .mv (.t 1), (some (7, true))⟩, ⟨(some 10), .bin .sub (.t 9) (.k (.int .i64 1)), (some (7, true))⟩, ⟨(some 11), .bin .shr (.t 8) (.t 10), (some (7, true))⟩, ⟨(some 12), .bin .rem (.t 11) (.k (.int .u64 2)), (some (7, true))⟩, ⟨(some 13), .bin .eql (.t 12) (.k (.int .u64 1)), (some (7, true))⟩, ⟨(some 14), .pick (.t 7) (.t 13) (.k (.bool false)), none⟩, ⟨(some 4), .mv (.t 14), none⟩] none)
 .ret))⟩
/-- besom/besomref02.Add -/
def m33 : MFn := ⟨2, 14, [.tmp 4], (.seq (.reg [⟨(some 4), .mv (.k (.int .u64 0)), none⟩] none)
 (.seq (.seq (.reg [⟨(some 5), .mv (.t 1), none⟩, ⟨(some 6), .call (.k (.fn (.func 39) [] [])) [(.t 5)], none⟩, ⟨(some 7), .un .not (.t 6), none⟩] none)
 (.cond (.t 7) (.seq (.reg [⟨(some 8), .mv (.t 0), none⟩, ⟨(some 4), .mv (.t 8), none⟩] none)
 .ret) .skip))
 (.seq (.reg [⟨(some 9), .mv (.t 0), none⟩, ⟨(some 10), .mv (.t 1), none⟩, ⟨(some 11), .bin .sub (.t 10) (.k (.int .i64 1)), none⟩, ⟨(some 12), .bin .shl (.k (.int .u64 1)) (.t 11), none⟩, ⟨(some 13), .bin .or (.t 9) (.t 12), none⟩, ⟨(some 4), .mv (.t 13), none⟩] none)
 .ret)))⟩
/-- besom/set.First -/
def m34 : MFn := ⟨1, 9, [.tmp 2], (.seq (.reg [⟨(some 2), .mv (.k (.int .u64 0)), none⟩] none)
 (.seq (.seq (.reg [⟨(some 3), .mv (.t 0), none⟩, ⟨(some 4), .bin .lss (.t 3) (.k (.int .i64 1)), none⟩] none)
 (.cond (.t 4) (.seq (.reg [⟨(some 2), .mv (.k (.int .u64 0)), none⟩] none)
 .ret) .skip))
 (.seq (.reg [⟨(some 5), .mv (.t 0), none⟩, ⟨(some 6), .mn (.t 5) (.k (.int .i64 64)), none⟩, ⟨(some 7), .bin .sub (.k (.int .i64 64)) (.t 6), none⟩, ⟨(some 8), .bin .shr (.k (.int .u64 18446744073709551615)) (.t 7), none⟩, ⟨(some 2), .mv (.t 8), none⟩] none)
 .ret)))⟩
/-- besom/besomref02.Under -/
def m35 : MFn := ⟨2, 10, [.tmp 4], (.seq (.reg [⟨(some 4), .mv (.k (.bool false)), none⟩] none)
 (.seq (.reg [⟨(some 5), .mv (.t 0), none⟩, ⟨(some 6), .mv (.t 1), none⟩, ⟨(some 7), .bin .and (.t 5) (.t 6), none⟩, ⟨(some 8), .mv (.t 0), none⟩, ⟨(some 9), .bin .eql (.t 7) (.t 8), none⟩, ⟨(some 4), .mv (.t 9), none⟩] none)
 .ret))⟩
/-- besom/besomref02.First -/
def m36 : MFn := ⟨1, 18, [.tmp 2], (.seq (.reg [⟨(some 2), .mv (.k (.int .u64 0)), none⟩] none)
 (.seq (.reg [⟨(some 3), .mv (.k (.int .u64 0)), none⟩] none)
 (.seq (.seq (.reg [⟨(some 4), .mv (.k (.int .i64 1)), none⟩] none)
 (.block 0 (.loop (.seq (.seq (.reg [⟨(some 5), .mv (.t 4), none⟩, ⟨(some 6), .mv (.t 0), none⟩, ⟨(some 7), .bin .leq (.t 5) (.t 6), none⟩, ⟨(some 8), .mv (.t 7), none⟩, ⟨(some 9), .mv (.t 4), (some (8, true))⟩, ⟨(some 10), .bin .leq (.t 9) (.k (.int .i64 64)), (some (8, true))⟩, ⟨(some 11), .pick (.t 8) (.t 10) (.k (.bool false)), none⟩] none)
 (.cond (.t 11) .skip (.exit 0)))
 (.seq (.block 1 (.reg [⟨(some 14), .mv (.t 3), none⟩, ⟨(some 15), .mv (.t 4), none⟩, ⟨(some 16), .call (.k (.fn (.func 33) [] [])) [(.t 14), (.t 15)], none⟩, ⟨(some 3), .mv (.t 16), none⟩] none))
 (.reg [⟨(some 12), .mv (.t 4), none⟩, ⟨(some 13), .bin .add (.t 12) (.k (.int .i64 1)), none⟩, ⟨(some 4), .mv (.t 13), none⟩] none))))))
 (.seq (.reg [⟨(some 17), .mv (.t 3), none⟩, ⟨(some 2), .mv (.t 17), none⟩] none)
 .ret))))⟩
/-- besom/set.bit -/
def m37 : MFn := ⟨1, 12, [.tmp 2], (.seq (.reg [⟨(some 2), .mv (.k (.int .u64 0)), none⟩] none)
 (.seq (.seq (.reg [⟨(some 3), .mv (.t 0), none⟩, ⟨(some 4), .bin .lss (.t 3) (.k (.int .i64 1)), none⟩, ⟨(some 5), .mv (.t 4), none⟩, ⟨(some 6), .mv (.t 0), (some (5, false))⟩, ⟨(some 7), .bin .gtr (.t 6) (.k (.int .i64 64)), (some (5, false))⟩, ⟨(some 8), .pick (.t 5) (.k (.bool true)) (.t 7), none⟩] none)
 (.cond (.t 8) (.seq (.reg [⟨(some 2), .mv (.k (.int .u64 0)), none⟩] none)
 .ret) .skip))
 (.seq (.reg [⟨(some 9), .mv (.t 0), none⟩, ⟨(some 10), .bin .sub (.t 9) (.k (.int .i64 1)), none⟩, ⟨(some 11), .bin .shl (.k (.int .u64 1)) (.t 10), none⟩, ⟨(some 2), .mv (.t 11), none⟩] none)
 .ret)))⟩
/-- math/bits.OnesCount64 -/
def m38 : MFn := ⟨1, 35, [.tmp 2], (.seq (.reg [⟨(some 2), .mv (.k (.int .i64 0)), none⟩] none)
 (.seq (.reg [⟨(some 3), .mv (.t 0), none⟩, ⟨(some 4), .bin .shr (.t 3) (.k (.int .u64 1)), none⟩, ⟨(some 5), .bin .and (.t 4) (.k (.int .u64 6148914691236517205)), none⟩, ⟨(some 6), .mv (.t 0), none⟩, ⟨(some 7), .bin .and (.t 6) (.k (.int .u64 6148914691236517205)), none⟩, ⟨(some 8), .bin .add (.t 5) (.t 7), none⟩, ⟨(some 0), .mv (.t 8), none⟩] none)
 (.seq (.reg [⟨(some 9), .mv (.t 0), none⟩, ⟨(some 10), .bin .shr (.t 9) (.k (.int .u64 2)), none⟩, ⟨(some 11), .bin .and (.t 10) (.k (.int .u64 3689348814741910323)), none⟩, ⟨(some 12), .mv (.t 0), none⟩, ⟨(some 13), .bin .and (.t 12) (.k (.int .u64 3689348814741910323)), none⟩, ⟨(some 14), .bin .add (.t 11) (.t 13), none⟩, ⟨(some 0), .mv (.t 14), none⟩] none)
 (.seq (.reg [⟨(some 15), .mv (.t 0), none⟩, ⟨(some 16), .bin .shr (.t 15) (.k (.int .u64 4)), none⟩, ⟨(some 17), .mv (.t 0), none⟩, ⟨(some 18), .bin .add (.t 16) (.t 17), none⟩, ⟨(some 19), .bin .and (.t 18) (.k (.int .u64 1085102592571150095)), none⟩, ⟨(some 0), .mv (.t 19), none⟩] none)
 (.seq (.reg [⟨(some 20), .mv (.t 0), none⟩, ⟨(some 21), .mv (.t 0), none⟩, ⟨(some 22), .bin .shr (.t 21) (.k (.int .u64 8)), none⟩, ⟨(some 23), .bin .add (.t 20) (.t 22), none⟩, ⟨(some 0), .mv (.t 23), none⟩] none)
 (.seq (.reg [⟨(some 24), .mv (.t 0), none⟩, ⟨(some 25), .mv (.t 0), none⟩, ⟨(some 26), .bin .shr (.t 25) (.k (.int .u64 16)), none⟩, ⟨(some 27), .bin .add (.t 24) (.t 26), none⟩, ⟨(some 0), .mv (.t 27), none⟩] none)
 (.seq (.reg [⟨(some 28), .mv (.t 0), none⟩, ⟨(some 29), .mv (.t 0), none⟩, ⟨(some 30), .bin .shr (.t 29) (.k (.int .u64 32)), none⟩, ⟨(some 31), .bin .add (.t 28) (.t 30), none⟩, ⟨(some 0), .mv (.t 31), none⟩] none)
 (.seq (.reg [⟨(some 32), .mv (.t 0), none⟩, ⟨(some 33), .conv .i64 (.t 32), none⟩, ⟨(some 34), .bin .and (.t 33) (.k (.int .i64 127)), none⟩, ⟨(some 2), .mv (.t 34), none⟩] none)
 .ret))))))))⟩
/-- besom/besomref02.object -/
def m39 : MFn := ⟨1, 9, [.tmp 2], (.seq (.reg [⟨(some 2), .mv (.k (.bool false)), none⟩] none)
 (.seq (.reg [⟨(some 3), .mv (.t 0), none⟩, ⟨(some 4), .bin .geq (.t 3) (.k (.int .i64 1)), none⟩, ⟨(some 5), .mv (.t 4), none⟩, ⟨(some 6), .mv (.t 0), (some (5, true))⟩, ⟨(some 7), .bin .leq (.t 6) (.k (.int .i64 64)), (some (5, true))⟩, ⟨(some 8), .pick (.t 5) (.t 7) (.k (.bool false)), none⟩, ⟨(some 2), .mv (.t 8), none⟩] none)
 .ret))⟩
theorem low3 : lowFn Tryd.prog Tryd.f3 = some m3 := by kernel_rfl
theorem low4 : lowFn Tryd.prog Tryd.f4 = some m4 := by kernel_rfl
theorem low5 : lowFn Tryd.prog Tryd.f5 = some m5 := by kernel_rfl
theorem low6 : lowFn Tryd.prog Tryd.f6 = some m6 := by kernel_rfl
theorem low7 : lowFn Tryd.prog Tryd.f7 = some m7 := by kernel_rfl
theorem low8 : lowFn Tryd.prog Tryd.f8 = some m8 := by kernel_rfl
theorem low9 : lowFn Tryd.prog Tryd.f9 = some m9 := by kernel_rfl
theorem low10 : lowFn Tryd.prog Tryd.f10 = some m10 := by kernel_rfl
theorem low11 : lowFn Tryd.prog Tryd.f11 = some m11 := by kernel_rfl
theorem low12 : lowFn Tryd.prog Tryd.f12 = some m12 := by kernel_rfl
theorem low13 : lowFn Tryd.prog Tryd.f13 = some m13 := by kernel_rfl
theorem low14 : lowFn Tryd.prog Tryd.f14 = some m14 := by kernel_rfl
theorem low15 : lowFn Tryd.prog Tryd.f15 = some m15 := by kernel_rfl
theorem low16 : lowFn Tryd.prog Tryd.f16 = some m16 := by kernel_rfl
theorem low17 : lowFn Tryd.prog Tryd.f17 = some m17 := by kernel_rfl
theorem low18 : lowFn Tryd.prog Tryd.f18 = some m18 := by kernel_rfl
theorem low19 : lowFn Tryd.prog Tryd.f19 = some m19 := by kernel_rfl
theorem low20 : lowFn Tryd.prog Tryd.f20 = some m20 := by kernel_rfl
theorem low21 : lowFn Tryd.prog Tryd.f21 = some m21 := by kernel_rfl
theorem low22 : lowFn Tryd.prog Tryd.f22 = some m22 := by kernel_rfl
theorem low23 : lowFn Tryd.prog Tryd.f23 = some m23 := by kernel_rfl
theorem low24 : lowFn Tryd.prog Tryd.f24 = some m24 := by kernel_rfl
theorem low25 : lowFn Tryd.prog Tryd.f25 = some m25 := by kernel_rfl
theorem low26 : lowFn Tryd.prog Tryd.f26 = some m26 := by kernel_rfl
theorem low27 : lowFn Tryd.prog Tryd.f27 = some m27 := by kernel_rfl
theorem low28 : lowFn Tryd.prog Tryd.f28 = some m28 := by kernel_rfl
theorem low29 : lowFn Tryd.prog Tryd.f29 = some m29 := by kernel_rfl
theorem low30 : lowFn Tryd.prog Tryd.f30 = some m30 := by kernel_rfl
theorem low31 : lowFn Tryd.prog Tryd.f31 = some m31 := by kernel_rfl
theorem low32 : lowFn Tryd.prog Tryd.f32 = some m32 := by kernel_rfl
theorem low33 : lowFn Tryd.prog Tryd.f33 = some m33 := by kernel_rfl
theorem low34 : lowFn Tryd.prog Tryd.f34 = some m34 := by kernel_rfl
theorem low35 : lowFn Tryd.prog Tryd.f35 = some m35 := by kernel_rfl
theorem low36 : lowFn Tryd.prog Tryd.f36 = some m36 := by kernel_rfl
theorem low37 : lowFn Tryd.prog Tryd.f37 = some m37 := by kernel_rfl
theorem low38 : lowFn Tryd.prog Tryd.f38 = some m38 := by kernel_rfl
theorem low39 : lowFn Tryd.prog Tryd.f39 = some m39 := by kernel_rfl
end Go.Mx
