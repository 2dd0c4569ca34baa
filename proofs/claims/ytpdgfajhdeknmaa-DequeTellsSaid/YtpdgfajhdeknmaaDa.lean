/-
  THE FUNCTIONS OF THE SEAT, LOWERED.
-/
import Derived.Test.YtpdgfajhdeknmaaXy
import Derived.Test.YtpdgfajhdeknmaaRows
set_option linter.unusedVariables false
namespace Go.Nx
open Go.RowKit Go.Proofs

/-- besom/besomlaw07.DequeTells -/
def m3 : MFn := ⟨3, 103, [.tmp 6], (.seq (.reg [⟨(some 4), .box 68 (.t 1), none⟩, ⟨(some 6), .mv (.k (.bool false)), none⟩] none)
 (.seq (.reg [⟨(some 15), .call 79 (.k (.fn (.func 6) [] [])) [], none⟩, ⟨(some 7), .mv (.t 15), none⟩] none)
 (.seq (.seq (.reg [⟨(some 16), .mv (.t 7), none⟩, ⟨(some 17), .un .not (.t 16), none⟩] none)
 (.cond (.t 17) (.seq (.reg [⟨(some 6), .mv (.k (.bool false)), none⟩] none)
 .ret) .skip))
 (.seq (.reg [⟨(some 19), .mv (.t 0), none⟩, ⟨(some 20), .ld (some 8) (.t 4), none⟩, ⟨(some 21), .call 85 (.k (.fn (.func 7) [] [])) [(.t 19), (.t 20)], none⟩, ⟨(some 18), .mv (.t 21), none⟩, ⟨(some 22), .ext (.t 18) 0, none⟩, ⟨(some 23), .ext (.t 18) 1, none⟩, ⟨(some 9), .alloc 73 [(.int .i64 0), (.int .i64 0), (.int .i64 0), (.int .i64 0), (.int .u64 0), (.int .u64 0), (.int .i64 0), (.int .i64 0)], none⟩, ⟨(some 8), .mv (.t 22), none⟩, ⟨none, .st 8 (.t 9) (.t 23), none⟩] none)
 (.seq (.reg [⟨(some 25), .mv (.t 0), none⟩, ⟨(some 26), .ld (some 8) (.t 4), none⟩, ⟨(some 27), .call 91 (.k (.fn (.func 9) [] [])) [(.t 26)], none⟩, ⟨(some 28), .call 92 (.k (.fn (.func 8) [] [])) [(.t 25), (.t 27)], none⟩, ⟨(some 24), .mv (.t 28), none⟩, ⟨(some 29), .ext (.t 24) 0, none⟩, ⟨(some 30), .ext (.t 24) 1, none⟩, ⟨(some 11), .alloc 75 [(.int .i64 0), (.int .i64 0), (.int .i64 0), (.int .i64 0), (.int .u64 0), (.int .u64 0), (.int .i64 0), (.int .i64 0)], none⟩, ⟨(some 10), .mv (.t 29), none⟩, ⟨none, .st 8 (.t 11) (.t 30), none⟩] none)
 (.seq (.reg [⟨(some 31), .mv (.t 0), none⟩, ⟨(some 32), .fa 2 (.t 4), none⟩, ⟨(some 33), .ld none (.t 32), none⟩, ⟨(some 34), .mv (.t 2), none⟩, ⟨(some 35), .ld (some 8) (.t 4), none⟩, ⟨(some 36), .call 100 (.k (.fn (.func 10) [] [])) [(.t 31), (.t 33), (.t 34), (.t 35)], none⟩, ⟨(some 12), .mv (.t 36), none⟩] none)
 (.seq (.reg [⟨(some 37), .mv (.t 0), none⟩, ⟨(some 38), .fa 2 (.t 4), none⟩, ⟨(some 39), .ld none (.t 38), none⟩, ⟨(some 40), .mv (.t 2), none⟩, ⟨(some 41), .ld (some 8) (.t 4), none⟩, ⟨(some 42), .call 106 (.k (.fn (.func 9) [] [])) [(.t 41)], none⟩, ⟨(some 43), .call 107 (.k (.fn (.func 11) [] [])) [(.t 37), (.t 39), (.t 40), (.t 42)], none⟩, ⟨(some 13), .mv (.t 43), none⟩] (some [(2, 4), (2, 5)]))
 (.seq (.seq (.reg [⟨(some 44), .mv (.t 12), none⟩, ⟨(some 45), .len (.t 44), none⟩, ⟨(some 46), .mv (.t 13), none⟩, ⟨(some 47), .len (.t 46), none⟩, ⟨(some 48), .bin .neq (.t 45) (.t 47), none⟩] none)
 (.cond (.t 48) (.seq (.reg [⟨(some 6), .mv (.k (.bool false)), none⟩] none)
 .ret) .skip))
 (.seq (.seq (.reg [⟨(some 14), .mv (.k (.int .i64 0)), none⟩] none)
 (.block 0 (.loop (.seq (.seq (.reg [⟨(some 49), .mv (.t 14), none⟩, ⟨(some 50), .mv (.t 12), none⟩, ⟨(some 51), .len (.t 50), none⟩, ⟨(some 52), .bin .lss (.t 49) (.t 51), none⟩] none)
 (.cond (.t 52) .skip (.exit 0)))
 (.seq (.block 1 (.seq (.reg [⟨(some 55), .mv (.t 12), none⟩, ⟨(some 56), .mv (.t 14), none⟩, ⟨(some 57), .ixs 1 (.t 55) (.t 56), none⟩, ⟨(some 58), .ld none (.t 57), none⟩, ⟨(some 59), .mv (.t 13), none⟩, ⟨(some 60), .mv (.t 14), none⟩, ⟨(some 61), .ixs 1 (.t 59) (.t 60), none⟩, ⟨(some 62), .ld none (.t 61), none⟩, ⟨(some 63), .bin .neq (.t 58) (.t 62), none⟩] (some [(2, 6), (3, 6), (2, 7), (3, 7)]))
 (.cond (.t 63) (.seq (.reg [⟨(some 6), .mv (.k (.bool false)), none⟩] none)
 .ret) .skip)))
 (.reg [⟨(some 53), .mv (.t 14), none⟩, ⟨(some 54), .bin .add (.t 53) (.k (.int .i64 1)), none⟩, ⟨(some 14), .mv (.t 54), none⟩] none))))))
 (.seq (.reg [⟨(some 64), .mv (.t 7), none⟩, ⟨(some 65), .mv (.t 64), none⟩, ⟨(some 66), .mv (.t 8), (some (65, true))⟩, ⟨(some 67), .mv (.t 10), (some (65, true))⟩, ⟨(some 68), .call 132 (.k (.fn (.func 12) [] [])) [(.t 66), (.t 67)], (some (65, true))⟩, ⟨(some 69), .pick (.t 65) (.t 68) (.k (.bool false)), none⟩, ⟨(some 70), .mv (.t 69), none⟩, ⟨(some 71), .ld (some 8) (.t 9), (some (70, true))⟩, ⟨(some 72), .call 136 (.k (.fn (.func 9) [] [])) [(.t 71)], (some (70, true))⟩, ⟨(some 73), .ld (some 8) (.t 11), (some (70, true))⟩, ⟨(some 74), .eqa false [1, 1, 1, 1, 1, 1, 1, 1] (.t 72) (.t 73), (some (70, true))⟩, ⟨(some 75), .pick (.t 70) (.t 74) (.k (.bool false)), none⟩, ⟨(some 76), .mv (.t 75), none⟩, ⟨(some 77), .mv (.t 2), (some (76, true))⟩, ⟨(some 78), .call 142 (.k (.fn (.func 13) [] [])) [(.t 77)], (some (76, true))⟩, ⟨(some 79), .mv (.t 2), (some (76, true))⟩, ⟨(some 80), .call 144 (.k (.fn (.func 14) [] [])) [(.t 79)], (some (76, true))⟩, ⟨(some 81), .call 145 (.k (.fn (.func 12) [] [])) [(.t 78), (.t 80)], (some (76, true))⟩, ⟨(some 82), .pick (.t 76) (.t 81) (.k (.bool false)), none⟩, ⟨(some 83), .mv (.t 82), none⟩, ⟨(some 84), .fa 0 (.t 4), (some (83, true))⟩, ⟨(some 85), .ld none (.t 84), (some (83, true))⟩, ⟨(some 86), .fa 2 (.t 4), (some (83, true))⟩, ⟨(some 87), .ld none (.t 86), (some (83, true))⟩, ⟨(some 88), .mv (.t 2), (some (83, true))⟩, ⟨(some 89), .fa 6 (.t 4), (some (83, true))⟩, ⟨(some 90), .ld none (.t 89), (some (83, true))⟩, ⟨(some 91), .call 155 (.k (.fn (.func 15) [] [])) [(.t 85), (.t 87), (.t 88), (.t 90)], (some (83, true))⟩, ⟨(some 92), .call 156 (.k (.fn (.func 9) [] [])) [(.t 91)], (some (83, true))⟩, ⟨(some 93), .fa 0 (.t 4), (some (83, true))⟩, ⟨(some 94), .ld none (.t 93), (some (83, true))⟩, ⟨(some 95), .fa 2 (.t 4), (some (83, true))⟩, ⟨(some 96), .ld none (.t 95), (some (83, true))⟩, ⟨(some 97), .mv (.t 2), (some (83, true))⟩, ⟨(some 98), .fa 6 (.t 4), (some (83, true))⟩, ⟨(some 99), .ld none (.t 98), (some (83, true))⟩, ⟨(some 100), .call 164 (.k (.fn (.func 16) [] [])) [(.t 94), (.t 96), (.t 97), (.t 99)], (some (83, true))⟩, ⟨(some 101), .eqa false [1, 1, 1, 1, 1, 1, 1, 1] (.t 92) (.t 100), (some (83, true))⟩, ⟨(some 102), .pick (.t 83) (.t 101) (.k (.bool false)), none⟩, ⟨(some 6), .mv (.t 102), none⟩] (some [(7, 9), (8, 9), (21, 23), (21, 26), (23, 26), (21, 30), (23, 30), (26, 30), (27, 30), (28, 30), (21, 32), (23, 32), (26, 32), (27, 32), (28, 32), (30, 32), (21, 35), (23, 35), (26, 35), (27, 35), (28, 35), (30, 35), (32, 35)]))
 .ret))))))))))⟩
/-- besom/besomlaw07.DequeAlone -/
def m4 : MFn := ⟨2, 145, [.tmp 4], (.seq (.reg [⟨(some 4), .mv (.k (.bool false)), none⟩] none)
 (.seq (.reg [⟨(some 16), .call 80 (.k (.fn (.func 6) [] [])) [], none⟩, ⟨(some 5), .mv (.t 16), none⟩] none)
 (.seq (.seq (.reg [⟨(some 17), .mv (.t 5), none⟩, ⟨(some 18), .un .not (.t 17), none⟩] none)
 (.cond (.t 18) (.seq (.reg [⟨(some 4), .mv (.k (.bool false)), none⟩] none)
 .ret) .skip))
 (.seq (.reg [⟨(some 19), .mv (.t 0), none⟩, ⟨(some 20), .bin .rem (.t 19) (.k (.int .u8 5)), none⟩, ⟨(some 21), .conv .i64 (.t 20), none⟩, ⟨(some 22), .bin .add (.k (.int .i64 1)) (.t 21), none⟩, ⟨(some 6), .mv (.t 22), none⟩] none)
 (.seq (.reg [⟨(some 23), .mv (.t 6), none⟩, ⟨(some 24), .call 88 (.k (.fn (.func 13) [] [])) [(.t 23)], none⟩, ⟨(some 7), .mv (.t 24), none⟩] none)
 (.seq (.reg [⟨(some 8), .mv (.k .nils), none⟩] none)
 (.seq (.seq (.reg [⟨(some 9), .mv (.k (.int .i64 0)), none⟩] none)
 (.block 0 (.loop (.seq (.seq (.reg [⟨(some 25), .mv (.t 9), none⟩, ⟨(some 26), .mv (.t 1), none⟩, ⟨(some 27), .len (.t 26), none⟩, ⟨(some 28), .bin .lss (.t 25) (.t 27), none⟩, ⟨(some 29), .mv (.t 28), none⟩, ⟨(some 30), .mv (.t 9), (some (29, true))⟩, ⟨(some 31), .bin .lss (.t 30) (.k (.int .i64 100)), (some (29, true))⟩, ⟨(some 32), .pick (.t 29) (.t 31) (.k (.bool false)), none⟩] none)
 (.cond (.t 32) .skip (.exit 0)))
 (.seq (.block 1 (.seq (.reg [⟨(some 35), .mv (.t 1), none⟩, ⟨(some 36), .mv (.t 9), none⟩, ⟨(some 37), .ixs 1 (.t 35) (.t 36), none⟩, ⟨(some 38), .ld none (.t 37), none⟩, ⟨(some 39), .bin .rem (.t 38) (.k (.int .u8 3)), none⟩, ⟨(some 40), .conv .i64 (.t 39), none⟩, ⟨(some 41), .bin .add (.k (.int .i64 1)) (.t 40), none⟩, ⟨(some 10), .mv (.t 41), none⟩] none)
 (.seq (.reg [⟨(some 42), .bld [(.int .i64 0), (.int .i64 0), (.int .i64 0), (.int .i64 0), (.int .u64 0), (.int .u64 0), (.int .i64 0), (.int .i64 0)] [], none⟩, ⟨(some 11), .alloc 75 [(.int .i64 0), (.int .i64 0), (.int .i64 0), (.int .i64 0), (.int .u64 0), (.int .u64 0), (.int .i64 0), (.int .i64 0)], none⟩, ⟨none, .st 8 (.t 11) (.t 42), none⟩] none)
 (.seq (.reg [⟨(some 44), .mv (.t 7), none⟩, ⟨(some 45), .mv (.t 10), none⟩, ⟨(some 46), .mv (.t 6), none⟩, ⟨(some 47), .mv (.t 9), none⟩, ⟨(some 48), .bin .add (.t 47) (.k (.int .i64 1)), none⟩, ⟨(some 49), .call 113 (.k (.fn (.func 15) [] [])) [(.t 45), (.k (.int .i64 0)), (.t 46), (.t 48)], none⟩, ⟨(some 50), .call 114 (.k (.fn (.func 17) [] [])) [(.t 44), (.t 49), (.k (.int .i64 20))], none⟩, ⟨(some 43), .mv (.t 50), none⟩, ⟨(some 51), .ext (.t 43) 0, none⟩, ⟨(some 52), .ext (.t 43) 1, none⟩, ⟨(some 53), .ext (.t 43) 2, none⟩, ⟨(some 7), .mv (.t 51), none⟩, ⟨none, .st 8 (.t 11) (.t 52), none⟩] none)
 (.seq (.reg [⟨(some 12), .mv (.k (.int .i64 1)), none⟩] none)
 (.seq (.reg [⟨(some 54), .mv (.t 9), none⟩, ⟨(some 55), .bin .add (.t 54) (.k (.int .i64 1)), none⟩, ⟨(some 13), .mv (.t 55), none⟩] none)
 (.seq (.block 2 (.seq (.reg [⟨(some 62), .mv (.t 10), none⟩, ⟨(some 63), .bin .eql (.t 62) (.k (.int .i64 1)), none⟩, ⟨(some 64), .mv (.t 63), none⟩, ⟨(some 65), .mv (.t 8), (some (64, true))⟩, ⟨(some 66), .len (.t 65), (some (64, true))⟩, ⟨(some 67), .mv (.t 6), (some (64, true))⟩, ⟨(some 68), .bin .eql (.t 66) (.t 67), (some (64, true))⟩, ⟨(some 69), .pick (.t 64) (.t 68) (.k (.bool false)), none⟩, ⟨(some 61), .mv (.t 69), none⟩] none)
 (.cond (.t 61) (.reg [⟨(some 12), .mv (.k (.int .i64 3)), none⟩] none) (.seq (.reg [⟨(some 71), .mv (.t 10), none⟩, ⟨(some 72), .bin .eql (.t 71) (.k (.int .i64 1)), none⟩, ⟨(some 70), .mv (.t 72), none⟩] none)
 (.cond (.t 70) (.reg [⟨(some 73), .mv (.t 8), none⟩, ⟨(some 74), .app 138 1 8 (.k .nils) (.t 73), none⟩, ⟨(some 75), .mv (.t 13), none⟩, ⟨(some 76), .bslt 1 [(.t 75)], none⟩, ⟨(some 77), .app 141 1 8 (.t 74) (.t 76), none⟩, ⟨(some 8), .mv (.t 77), none⟩] none) (.seq (.reg [⟨(some 79), .mv (.t 8), none⟩, ⟨(some 80), .len (.t 79), none⟩, ⟨(some 81), .bin .eql (.t 80) (.k (.int .i64 0)), none⟩, ⟨(some 78), .mv (.t 81), none⟩] none)
 (.cond (.t 78) (.seq (.reg [⟨(some 12), .mv (.k (.int .i64 2)), none⟩] none)
 (.reg [⟨(some 13), .mv (.k (.int .i64 0)), none⟩] none)) (.seq (.reg [⟨(some 83), .mv (.t 10), none⟩, ⟨(some 84), .bin .eql (.t 83) (.k (.int .i64 2)), none⟩, ⟨(some 82), .mv (.t 84), none⟩] none)
 (.cond (.t 82) (.seq (.reg [⟨(some 85), .mv (.t 8), none⟩, ⟨(some 86), .mv (.t 8), none⟩, ⟨(some 87), .len (.t 86), none⟩, ⟨(some 88), .bin .sub (.t 87) (.k (.int .i64 1)), none⟩, ⟨(some 89), .ixs 1 (.t 85) (.t 88), none⟩, ⟨(some 90), .ld none (.t 89), none⟩, ⟨(some 13), .mv (.t 90), none⟩] none)
 (.reg [⟨(some 91), .mv (.t 8), none⟩, ⟨(some 92), .mv (.t 8), none⟩, ⟨(some 93), .len (.t 92), none⟩, ⟨(some 94), .bin .sub (.t 93) (.k (.int .i64 1)), none⟩, ⟨(some 95), .sll 1 (.t 91) none (some (.t 94)), none⟩, ⟨(some 8), .mv (.t 95), none⟩] none)) (.seq (.reg [⟨(some 56), .mv (.t 8), none⟩, ⟨(some 57), .ixs 1 (.t 56) (.k (.int .i64 0)), none⟩, ⟨(some 58), .ld none (.t 57), none⟩, ⟨(some 13), .mv (.t 58), none⟩] none)
 (.reg [⟨(some 59), .mv (.t 8), none⟩, ⟨(some 60), .sll 1 (.t 59) (some (.k (.int .i64 1))) none, none⟩, ⟨(some 8), .mv (.t 60), none⟩] none)))))))))))
 (.seq (.seq (.reg [⟨(some 96), .fa 7 (.t 11), none⟩, ⟨(some 97), .ld none (.t 96), none⟩, ⟨(some 98), .mv (.t 12), none⟩, ⟨(some 99), .bin .neq (.t 97) (.t 98), none⟩, ⟨(some 100), .mv (.t 99), none⟩, ⟨(some 101), .fa 6 (.t 11), (some (100, false))⟩, ⟨(some 102), .ld none (.t 101), (some (100, false))⟩, ⟨(some 103), .mv (.t 13), (some (100, false))⟩, ⟨(some 104), .bin .neq (.t 102) (.t 103), (some (100, false))⟩, ⟨(some 105), .mv (.t 104), (some (100, false))⟩, ⟨(some 106), .mv (.t 10), (some (105, true))⟩, ⟨(some 107), .bin .eql (.t 106) (.k (.int .i64 3)), (some (105, true))⟩, ⟨(some 108), .mv (.t 107), (some (105, true))⟩, ⟨(some 109), .mv (.t 12), (some (108, true))⟩, ⟨(some 110), .bin .eql (.t 109) (.k (.int .i64 2)), (some (108, true))⟩, ⟨(some 111), .pick (.t 108) (.t 110) (.k (.bool false)), (some (105, true))⟩, ⟨(some 112), .un .not (.t 111), (some (105, true))⟩, ⟨(some 113), .pick (.t 105) (.t 112) (.k (.bool false)), (some (100, false))⟩, ⟨(some 114), .pick (.t 100) (.k (.bool true)) (.t 113), none⟩, ⟨(some 115), .mv (.t 114), none⟩, ⟨(some 116), .mv (.t 7), (some (115, false))⟩, ⟨(some 117), .mv (.t 6), (some (115, false))⟩, ⟨(some 118), .bld [(.int .i64 0), (.int .i64 0), (.int .i64 0), (.int .i64 0), (.int .u64 0), (.int .u64 0), (.int .i64 0), (.int .i64 0)] [], (some (115, false))⟩, ⟨(some 119), .call 183 (.k (.fn (.func 10) [] [])) [(.t 116), (.k (.int .i64 0)), (.t 117), (.t 118)], (some (115, false))⟩, ⟨(some 120), .len (.t 119), (some (115, false))⟩, ⟨(some 121), .mv (.t 8), (some (115, false))⟩, ⟨(some 122), .len (.t 121), (some (115, false))⟩, ⟨(some 123), .bin .neq (.t 120) (.t 122), (some (115, false))⟩, ⟨(some 124), .pick (.t 115) (.k (.bool true)) (.t 123), none⟩] none)
 (.cond (.t 124) (.seq (.reg [⟨(some 4), .mv (.k (.bool false)), none⟩] none)
 .ret) .skip))
 (.seq (.reg [⟨(some 125), .mv (.t 7), none⟩, ⟨(some 126), .mv (.t 6), none⟩, ⟨(some 127), .ld (some 8) (.t 11), none⟩, ⟨(some 128), .call 192 (.k (.fn (.func 10) [] [])) [(.t 125), (.k (.int .i64 0)), (.t 126), (.t 127)], none⟩, ⟨(some 14), .mv (.t 128), none⟩] none)
 (.seq (.reg [⟨(some 15), .mv (.k (.int .i64 0)), none⟩] none)
 (.block 3 (.loop (.seq (.seq (.reg [⟨(some 129), .mv (.t 15), none⟩, ⟨(some 130), .mv (.t 14), none⟩, ⟨(some 131), .len (.t 130), none⟩, ⟨(some 132), .bin .lss (.t 129) (.t 131), none⟩] none)
 (.cond (.t 132) .skip (.exit 3)))
 (.seq (.block 4 (.seq (.reg [⟨(some 135), .mv (.t 14), none⟩, ⟨(some 136), .mv (.t 15), none⟩, ⟨(some 137), .ixs 1 (.t 135) (.t 136), none⟩, ⟨(some 138), .ld none (.t 137), none⟩, ⟨(some 139), .mv (.t 8), none⟩, ⟨(some 140), .mv (.t 15), none⟩, ⟨(some 141), .ixs 1 (.t 139) (.t 140), none⟩, ⟨(some 142), .ld none (.t 141), none⟩, ⟨(some 143), .bin .neq (.t 138) (.t 142), none⟩] (some [(2, 6), (3, 6), (2, 7), (3, 7)]))
 (.cond (.t 143) (.seq (.reg [⟨(some 4), .mv (.k (.bool false)), none⟩] none)
 .ret) .skip)))
 (.reg [⟨(some 133), .mv (.t 15), none⟩, ⟨(some 134), .bin .add (.t 133) (.k (.int .i64 1)), none⟩, ⟨(some 15), .mv (.t 134), none⟩] none)))))))))))))))
 (.reg [⟨(some 33), .mv (.t 9), none⟩, ⟨(some 34), .bin .add (.t 33) (.k (.int .i64 1)), none⟩, ⟨(some 9), .mv (.t 34), none⟩] none))))))
 (.seq (.reg [⟨(some 144), .mv (.t 5), none⟩, ⟨(some 4), .mv (.t 144), none⟩] none)
 .ret))))))))⟩
/-- besom/besomlaw07.DequePure -/
def m5 : MFn := ⟨2, 111, [.tmp 4], (.seq (.reg [⟨(some 3), .box 67 (.t 1), none⟩, ⟨(some 4), .mv (.k (.bool false)), none⟩] none)
 (.seq (.reg [⟨(some 11), .call 75 (.k (.fn (.func 6) [] [])) [], none⟩, ⟨(some 5), .mv (.t 11), none⟩] none)
 (.seq (.seq (.reg [⟨(some 12), .mv (.t 5), none⟩, ⟨(some 13), .un .not (.t 12), none⟩] none)
 (.cond (.t 13) (.seq (.reg [⟨(some 4), .mv (.k (.bool false)), none⟩] none)
 .ret) .skip))
 (.seq (.reg [⟨(some 14), .mv (.t 0), none⟩, ⟨(some 15), .app 79 1 8 (.k .nils) (.t 14), none⟩, ⟨(some 6), .mv (.t 15), none⟩] none)
 (.seq (.reg [⟨(some 17), .mv (.t 0), none⟩, ⟨(some 18), .ld (some 8) (.t 3), none⟩, ⟨(some 19), .call 83 (.k (.fn (.func 7) [] [])) [(.t 17), (.t 18)], none⟩, ⟨(some 16), .mv (.t 19), none⟩, ⟨(some 20), .ext (.t 16) 0, none⟩, ⟨(some 21), .ext (.t 16) 1, none⟩, ⟨(some 8), .alloc 72 [(.int .i64 0), (.int .i64 0), (.int .i64 0), (.int .i64 0), (.int .u64 0), (.int .u64 0), (.int .i64 0), (.int .i64 0)], none⟩, ⟨(some 7), .mv (.t 20), none⟩, ⟨none, .st 8 (.t 8) (.t 21), none⟩] none)
 (.seq (.reg [⟨(some 9), .mv (.k (.int .i64 0)), none⟩] none)
 (.seq (.seq (.reg [⟨(some 10), .mv (.k (.int .i64 0)), none⟩] none)
 (.block 0 (.loop (.seq (.seq (.reg [⟨(some 22), .mv (.t 10), none⟩, ⟨(some 23), .mv (.t 7), none⟩, ⟨(some 24), .len (.t 23), none⟩, ⟨(some 25), .bin .lss (.t 22) (.t 24), none⟩, ⟨(some 26), .mv (.t 25), none⟩, ⟨(some 27), .mv (.t 10), (some (26, true))⟩, ⟨(some 28), .mv (.t 0), (some (26, true))⟩, ⟨(some 29), .len (.t 28), (some (26, true))⟩, ⟨(some 30), .bin .lss (.t 27) (.t 29), (some (26, true))⟩, ⟨(some 31), .pick (.t 26) (.t 30) (.k (.bool false)), none⟩] none)
 (.cond (.t 31) .skip (.exit 0)))
 (.seq (.block 1 (.seq (.reg [⟨(some 34), .mv (.t 7), none⟩, ⟨(some 35), .mv (.t 10), none⟩, ⟨(some 36), .ixs 1 (.t 34) (.t 35), none⟩, ⟨(some 37), .ld none (.t 36), none⟩, ⟨(some 38), .mv (.t 0), none⟩, ⟨(some 39), .mv (.t 10), none⟩, ⟨(some 40), .ixs 1 (.t 38) (.t 39), none⟩, ⟨(some 41), .ld none (.t 40), none⟩, ⟨(some 42), .bin .neq (.t 37) (.t 41), none⟩] (some [(2, 6), (3, 6), (2, 7), (3, 7)]))
 (.cond (.t 42) (.seq (.reg [⟨(some 43), .mv (.t 9), none⟩, ⟨(some 44), .bin .add (.t 43) (.k (.int .i64 1)), none⟩, ⟨(some 9), .mv (.t 44), none⟩] none)
 (.seq (.reg [⟨(some 45), .mv (.t 10), none⟩, ⟨(some 46), .fa 2 (.t 3), none⟩, ⟨(some 47), .ld none (.t 46), none⟩, ⟨(some 48), .bin .lss (.t 45) (.t 47), none⟩, ⟨(some 49), .mv (.t 48), none⟩, ⟨(some 50), .mv (.t 10), (some (49, false))⟩, ⟨(some 51), .fa 2 (.t 3), (some (49, false))⟩, ⟨(some 52), .ld none (.t 51), (some (49, false))⟩, ⟨(some 53), .bin .sub (.t 50) (.t 52), (some (49, false))⟩, ⟨(some 54), .bin .sub (.t 53) (.k (.int .i64 2)), (some (49, false))⟩, ⟨(some 55), .fa 3 (.t 3), (some (49, false))⟩, ⟨(some 56), .ld none (.t 55), (some (49, false))⟩, ⟨(some 57), .mx (.t 56) (.k (.int .i64 1)), (some (49, false))⟩, ⟨(some 58), .bin .geq (.t 54) (.t 57), (some (49, false))⟩, ⟨(some 59), .pick (.t 49) (.k (.bool true)) (.t 58), none⟩] none)
 (.cond (.t 59) (.seq (.reg [⟨(some 4), .mv (.k (.bool false)), none⟩] none)
 .ret) .skip))) .skip)))
 (.reg [⟨(some 32), .mv (.t 10), none⟩, ⟨(some 33), .bin .add (.t 32) (.k (.int .i64 1)), none⟩, ⟨(some 10), .mv (.t 33), none⟩] none))))))
 (.seq (.seq (.reg [⟨(some 60), .fa 7 (.t 3), none⟩, ⟨(some 61), .ld none (.t 60), none⟩, ⟨(some 62), .bin .neq (.t 61) (.k (.int .i64 0)), none⟩] none)
 (.cond (.t 62) (.seq (.reg [⟨(some 63), .mv (.t 5), none⟩, ⟨(some 64), .mv (.t 63), none⟩, ⟨(some 65), .mv (.t 9), (some (64, true))⟩, ⟨(some 66), .bin .eql (.t 65) (.k (.int .i64 0)), (some (64, true))⟩, ⟨(some 67), .pick (.t 64) (.t 66) (.k (.bool false)), none⟩, ⟨(some 68), .mv (.t 67), none⟩, ⟨(some 69), .ld (some 8) (.t 8), (some (68, true))⟩, ⟨(some 70), .ld (some 8) (.t 3), (some (68, true))⟩, ⟨(some 71), .eqa false [1, 1, 1, 1, 1, 1, 1, 1] (.t 69) (.t 70), (some (68, true))⟩, ⟨(some 72), .pick (.t 68) (.t 71) (.k (.bool false)), none⟩, ⟨(some 4), .mv (.t 72), none⟩] none)
 .ret) .skip))
 (.seq (.reg [⟨(some 73), .mv (.t 5), none⟩, ⟨(some 74), .mv (.t 73), none⟩, ⟨(some 75), .mv (.t 0), (some (74, true))⟩, ⟨(some 76), .mv (.t 6), (some (74, true))⟩, ⟨(some 77), .call 141 (.k (.fn (.func 18) [] [])) [(.t 75), (.t 76)], (some (74, true))⟩, ⟨(some 78), .pick (.t 74) (.t 77) (.k (.bool false)), none⟩, ⟨(some 79), .mv (.t 78), none⟩, ⟨(some 80), .mv (.t 7), (some (79, true))⟩, ⟨(some 81), .len (.t 80), (some (79, true))⟩, ⟨(some 82), .mv (.t 0), (some (79, true))⟩, ⟨(some 83), .len (.t 82), (some (79, true))⟩, ⟨(some 84), .bin .eql (.t 81) (.t 83), (some (79, true))⟩, ⟨(some 85), .pick (.t 79) (.t 84) (.k (.bool false)), none⟩, ⟨(some 86), .mv (.t 85), none⟩, ⟨(some 87), .mv (.t 9), (some (86, true))⟩, ⟨(some 88), .bin .leq (.t 87) (.k (.int .i64 1)), (some (86, true))⟩, ⟨(some 89), .pick (.t 86) (.t 88) (.k (.bool false)), none⟩, ⟨(some 90), .mv (.t 89), none⟩, ⟨(some 91), .fa 0 (.t 8), (some (90, true))⟩, ⟨(some 92), .ld none (.t 91), (some (90, true))⟩, ⟨(some 93), .fa 0 (.t 3), (some (90, true))⟩, ⟨(some 94), .ld none (.t 93), (some (90, true))⟩, ⟨(some 95), .bin .eql (.t 92) (.t 94), (some (90, true))⟩, ⟨(some 96), .pick (.t 90) (.t 95) (.k (.bool false)), none⟩, ⟨(some 97), .mv (.t 96), none⟩, ⟨(some 98), .fa 2 (.t 8), (some (97, true))⟩, ⟨(some 99), .ld none (.t 98), (some (97, true))⟩, ⟨(some 100), .fa 2 (.t 3), (some (97, true))⟩, ⟨(some 101), .ld none (.t 100), (some (97, true))⟩, ⟨(some 102), .bin .eql (.t 99) (.t 101), (some (97, true))⟩, ⟨(some 103), .pick (.t 97) (.t 102) (.k (.bool false)), none⟩, ⟨(some 104), .mv (.t 103), none⟩, ⟨(some 105), .fa 3 (.t 8), (some (104, true))⟩, ⟨(some 106), .ld none (.t 105), (some (104, true))⟩, ⟨(some 107), .fa 3 (.t 3), (some (104, true))⟩, ⟨(some 108), .ld none (.t 107), (some (104, true))⟩, ⟨(some 109), .bin .eql (.t 106) (.t 108), (some (104, true))⟩, ⟨(some 110), .pick (.t 104) (.t 109) (.k (.bool false)), none⟩, ⟨(some 4), .mv (.t 110), none⟩] none)
 .ret)))))))))⟩
/-- besom/besomlaw07.examples -/
def m6 : MFn := ⟨0, 151, [.tmp 0], (.seq (.reg [⟨(some 0), .mv (.k (.bool false)), none⟩] none)
 (.seq (.reg [⟨(some 19), .call 83 (.k (.fn (.func 13) [] [])) [(.k (.int .i64 2))], none⟩, ⟨(some 1), .mv (.t 19), none⟩] none)
 (.seq (.reg [⟨(some 21), .mv (.t 1), none⟩, ⟨(some 22), .call 86 (.k (.fn (.func 15) [] [])) [(.k (.int .i64 3)), (.k (.int .i64 0)), (.k (.int .i64 2)), (.k (.int .i64 0))], none⟩, ⟨(some 23), .call 87 (.k (.fn (.func 17) [] [])) [(.t 21), (.t 22), (.k (.int .i64 9))], none⟩, ⟨(some 20), .mv (.t 23), none⟩, ⟨(some 24), .ext (.t 20) 0, none⟩, ⟨(some 25), .ext (.t 20) 1, none⟩, ⟨(some 26), .ext (.t 20) 2, none⟩, ⟨(some 3), .alloc 67 [(.int .i64 0), (.int .i64 0), (.int .i64 0), (.int .i64 0), (.int .u64 0), (.int .u64 0), (.int .i64 0), (.int .i64 0)], none⟩, ⟨(some 2), .mv (.t 24), none⟩, ⟨none, .st 8 (.t 3) (.t 25), none⟩, ⟨(some 4), .mv (.t 26), none⟩] none)
 (.seq (.reg [⟨(some 28), .mv (.t 1), none⟩, ⟨(some 29), .call 93 (.k (.fn (.func 15) [] [])) [(.k (.int .i64 1)), (.k (.int .i64 0)), (.k (.int .i64 2)), (.k (.int .i64 7))], none⟩, ⟨(some 30), .call 94 (.k (.fn (.func 17) [] [])) [(.t 28), (.t 29), (.k (.int .i64 9))], none⟩, ⟨(some 27), .mv (.t 30), none⟩, ⟨(some 31), .ext (.t 27) 0, none⟩, ⟨(some 32), .ext (.t 27) 1, none⟩, ⟨(some 33), .ext (.t 27) 2, none⟩, ⟨(some 5), .alloc 69 [(.int .i64 0), (.int .i64 0), (.int .i64 0), (.int .i64 0), (.int .u64 0), (.int .u64 0), (.int .i64 0), (.int .i64 0)], none⟩, ⟨(some 1), .mv (.t 31), none⟩, ⟨none, .st 8 (.t 5) (.t 32), none⟩, ⟨(some 6), .mv (.t 33), none⟩] none)
 (.seq (.reg [⟨(some 35), .mv (.t 1), none⟩, ⟨(some 36), .call 100 (.k (.fn (.func 15) [] [])) [(.k (.int .i64 1)), (.k (.int .i64 0)), (.k (.int .i64 2)), (.k (.int .i64 8))], none⟩, ⟨(some 37), .call 101 (.k (.fn (.func 17) [] [])) [(.t 35), (.t 36), (.k (.int .i64 9))], none⟩, ⟨(some 34), .mv (.t 37), none⟩, ⟨(some 38), .ext (.t 34) 0, none⟩, ⟨(some 39), .ext (.t 34) 1, none⟩, ⟨(some 40), .ext (.t 34) 2, none⟩, ⟨(some 7), .alloc 71 [(.int .i64 0), (.int .i64 0), (.int .i64 0), (.int .i64 0), (.int .u64 0), (.int .u64 0), (.int .i64 0), (.int .i64 0)], none⟩, ⟨(some 1), .mv (.t 38), none⟩, ⟨none, .st 8 (.t 7) (.t 39), none⟩, ⟨(some 8), .mv (.t 40), none⟩] none)
 (.seq (.reg [⟨(some 42), .mv (.t 1), none⟩, ⟨(some 43), .call 107 (.k (.fn (.func 15) [] [])) [(.k (.int .i64 1)), (.k (.int .i64 0)), (.k (.int .i64 2)), (.k (.int .i64 9))], none⟩, ⟨(some 44), .call 108 (.k (.fn (.func 17) [] [])) [(.t 42), (.t 43), (.k (.int .i64 9))], none⟩, ⟨(some 41), .mv (.t 44), none⟩, ⟨(some 45), .ext (.t 41) 0, none⟩, ⟨(some 46), .ext (.t 41) 1, none⟩, ⟨(some 47), .ext (.t 41) 2, none⟩, ⟨(some 9), .alloc 73 [(.int .i64 0), (.int .i64 0), (.int .i64 0), (.int .i64 0), (.int .u64 0), (.int .u64 0), (.int .i64 0), (.int .i64 0)], none⟩, ⟨(some 1), .mv (.t 45), none⟩, ⟨none, .st 8 (.t 9) (.t 46), none⟩, ⟨(some 10), .mv (.t 47), none⟩] none)
 (.seq (.reg [⟨(some 48), .mv (.t 1), none⟩, ⟨(some 49), .bld [(.int .i64 0), (.int .i64 0), (.int .i64 0), (.int .i64 0), (.int .u64 0), (.int .u64 0), (.int .i64 0), (.int .i64 0)] [], none⟩, ⟨(some 50), .call 114 (.k (.fn (.func 10) [] [])) [(.t 48), (.k (.int .i64 0)), (.k (.int .i64 2)), (.t 49)], none⟩, ⟨(some 11), .mv (.t 50), none⟩] none)
 (.seq (.reg [⟨(some 52), .mv (.t 1), none⟩, ⟨(some 53), .call 117 (.k (.fn (.func 15) [] [])) [(.k (.int .i64 3)), (.k (.int .i64 0)), (.k (.int .i64 2)), (.k (.int .i64 0))], none⟩, ⟨(some 54), .call 118 (.k (.fn (.func 17) [] [])) [(.t 52), (.t 53), (.k (.int .i64 9))], none⟩, ⟨(some 51), .mv (.t 54), none⟩, ⟨(some 55), .ext (.t 51) 0, none⟩, ⟨(some 56), .ext (.t 51) 1, none⟩, ⟨(some 57), .ext (.t 51) 2, none⟩, ⟨(some 13), .alloc 77 [(.int .i64 0), (.int .i64 0), (.int .i64 0), (.int .i64 0), (.int .u64 0), (.int .u64 0), (.int .i64 0), (.int .i64 0)], none⟩, ⟨(some 12), .mv (.t 55), none⟩, ⟨none, .st 8 (.t 13) (.t 56), none⟩, ⟨(some 14), .mv (.t 57), none⟩] none)
 (.seq (.reg [⟨(some 59), .mv (.t 12), none⟩, ⟨(some 60), .call 124 (.k (.fn (.func 15) [] [])) [(.k (.int .i64 2)), (.k (.int .i64 0)), (.k (.int .i64 2)), (.k (.int .i64 0))], none⟩, ⟨(some 61), .call 125 (.k (.fn (.func 17) [] [])) [(.t 59), (.t 60), (.k (.int .i64 9))], none⟩, ⟨(some 58), .mv (.t 61), none⟩, ⟨(some 62), .ext (.t 58) 0, none⟩, ⟨(some 63), .ext (.t 58) 1, none⟩, ⟨(some 64), .ext (.t 58) 2, none⟩, ⟨(some 15), .alloc 79 [(.int .i64 0), (.int .i64 0), (.int .i64 0), (.int .i64 0), (.int .u64 0), (.int .u64 0), (.int .i64 0), (.int .i64 0)], none⟩, ⟨(some 12), .mv (.t 62), none⟩, ⟨none, .st 8 (.t 15) (.t 63), none⟩, ⟨(some 16), .mv (.t 64), none⟩] none)
 (.seq (.reg [⟨(some 66), .mv (.t 12), none⟩, ⟨(some 67), .call 131 (.k (.fn (.func 15) [] [])) [(.k (.int .i64 2)), (.k (.int .i64 0)), (.k (.int .i64 2)), (.k (.int .i64 0))], none⟩, ⟨(some 68), .call 132 (.k (.fn (.func 17) [] [])) [(.t 66), (.t 67), (.k (.int .i64 9))], none⟩, ⟨(some 65), .mv (.t 68), none⟩, ⟨(some 69), .ext (.t 65) 0, none⟩, ⟨(some 70), .ext (.t 65) 1, none⟩, ⟨(some 71), .ext (.t 65) 2, none⟩, ⟨(some 17), .alloc 81 [(.int .i64 0), (.int .i64 0), (.int .i64 0), (.int .i64 0), (.int .u64 0), (.int .u64 0), (.int .i64 0), (.int .i64 0)], none⟩, ⟨(some 12), .mv (.t 69), none⟩, ⟨none, .st 8 (.t 17) (.t 70), none⟩, ⟨(some 18), .mv (.t 71), none⟩] none)
 (.seq (.seq (.reg [⟨(some 72), .mv (.t 1), none⟩, ⟨(some 73), .len (.t 72), none⟩, ⟨(some 74), .bin .neq (.t 73) (.k (.int .i64 4)), none⟩, ⟨(some 75), .mv (.t 74), none⟩, ⟨(some 76), .mv (.t 11), (some (75, false))⟩, ⟨(some 77), .len (.t 76), (some (75, false))⟩, ⟨(some 78), .bin .neq (.t 77) (.k (.int .i64 2)), (some (75, false))⟩, ⟨(some 79), .pick (.t 75) (.k (.bool true)) (.t 78), none⟩] none)
 (.cond (.t 79) (.seq (.reg [⟨(some 0), .mv (.k (.bool false)), none⟩] none)
 .ret) .skip))
 (.seq (.reg [⟨(some 80), .fa 7 (.t 3), none⟩, ⟨(some 81), .ld none (.t 80), none⟩, ⟨(some 82), .bin .eql (.t 81) (.k (.int .i64 2)), none⟩, ⟨(some 83), .mv (.t 82), none⟩, ⟨(some 84), .mv (.t 4), (some (83, true))⟩, ⟨(some 85), .bin .eql (.t 84) (.k (.int .i64 2)), (some (83, true))⟩, ⟨(some 86), .pick (.t 83) (.t 85) (.k (.bool false)), none⟩, ⟨(some 87), .mv (.t 86), none⟩, ⟨(some 88), .fa 7 (.t 5), (some (87, true))⟩, ⟨(some 89), .ld none (.t 88), (some (87, true))⟩, ⟨(some 90), .bin .eql (.t 89) (.k (.int .i64 1)), (some (87, true))⟩, ⟨(some 91), .pick (.t 87) (.t 90) (.k (.bool false)), none⟩, ⟨(some 92), .mv (.t 91), none⟩, ⟨(some 93), .fa 7 (.t 7), (some (92, true))⟩, ⟨(some 94), .ld none (.t 93), (some (92, true))⟩, ⟨(some 95), .bin .eql (.t 94) (.k (.int .i64 1)), (some (92, true))⟩, ⟨(some 96), .pick (.t 92) (.t 95) (.k (.bool false)), none⟩, ⟨(some 97), .mv (.t 96), none⟩, ⟨(some 98), .fa 7 (.t 9), (some (97, true))⟩, ⟨(some 99), .ld none (.t 98), (some (97, true))⟩, ⟨(some 100), .bin .eql (.t 99) (.k (.int .i64 3)), (some (97, true))⟩, ⟨(some 101), .pick (.t 97) (.t 100) (.k (.bool false)), none⟩, ⟨(some 102), .mv (.t 101), none⟩, ⟨(some 103), .mv (.t 11), (some (102, true))⟩, ⟨(some 104), .ixs 1 (.t 103) (.k (.int .i64 0)), (some (102, true))⟩, ⟨(some 105), .ld none (.t 104), (some (102, true))⟩, ⟨(some 106), .bin .eql (.t 105) (.k (.int .i64 7)), (some (102, true))⟩, ⟨(some 107), .pick (.t 102) (.t 106) (.k (.bool false)), none⟩, ⟨(some 108), .mv (.t 107), none⟩, ⟨(some 109), .mv (.t 11), (some (108, true))⟩, ⟨(some 110), .ixs 1 (.t 109) (.k (.int .i64 1)), (some (108, true))⟩, ⟨(some 111), .ld none (.t 110), (some (108, true))⟩, ⟨(some 112), .bin .eql (.t 111) (.k (.int .i64 8)), (some (108, true))⟩, ⟨(some 113), .pick (.t 108) (.t 112) (.k (.bool false)), none⟩, ⟨(some 114), .mv (.t 113), none⟩, ⟨(some 115), .fa 7 (.t 13), (some (114, true))⟩, ⟨(some 116), .ld none (.t 115), (some (114, true))⟩, ⟨(some 117), .bin .eql (.t 116) (.k (.int .i64 1)), (some (114, true))⟩, ⟨(some 118), .pick (.t 114) (.t 117) (.k (.bool false)), none⟩, ⟨(some 119), .mv (.t 118), none⟩, ⟨(some 120), .fa 6 (.t 13), (some (119, true))⟩, ⟨(some 121), .ld none (.t 120), (some (119, true))⟩, ⟨(some 122), .bin .eql (.t 121) (.k (.int .i64 7)), (some (119, true))⟩, ⟨(some 123), .pick (.t 119) (.t 122) (.k (.bool false)), none⟩, ⟨(some 124), .mv (.t 123), none⟩, ⟨(some 125), .fa 7 (.t 15), (some (124, true))⟩, ⟨(some 126), .ld none (.t 125), (some (124, true))⟩, ⟨(some 127), .bin .eql (.t 126) (.k (.int .i64 1)), (some (124, true))⟩, ⟨(some 128), .pick (.t 124) (.t 127) (.k (.bool false)), none⟩, ⟨(some 129), .mv (.t 128), none⟩, ⟨(some 130), .fa 6 (.t 15), (some (129, true))⟩, ⟨(some 131), .ld none (.t 130), (some (129, true))⟩, ⟨(some 132), .bin .eql (.t 131) (.k (.int .i64 8)), (some (129, true))⟩, ⟨(some 133), .pick (.t 129) (.t 132) (.k (.bool false)), none⟩, ⟨(some 134), .mv (.t 133), none⟩, ⟨(some 135), .fa 7 (.t 17), (some (134, true))⟩, ⟨(some 136), .ld none (.t 135), (some (134, true))⟩, ⟨(some 137), .bin .eql (.t 136) (.k (.int .i64 2)), (some (134, true))⟩, ⟨(some 138), .pick (.t 134) (.t 137) (.k (.bool false)), none⟩, ⟨(some 139), .mv (.t 138), none⟩, ⟨(some 140), .fa 6 (.t 17), (some (139, true))⟩, ⟨(some 141), .ld none (.t 140), (some (139, true))⟩, ⟨(some 142), .bin .eql (.t 141) (.k (.int .i64 0)), (some (139, true))⟩, ⟨(some 143), .pick (.t 139) (.t 142) (.k (.bool false)), none⟩, ⟨(some 144), .mv (.t 143), none⟩, ⟨(some 145), .mv (.t 12), (some (144, true))⟩, ⟨(some 146), .bld [(.int .i64 0), (.int .i64 0), (.int .i64 0), (.int .i64 0), (.int .u64 0), (.int .u64 0), (.int .i64 0), (.int .i64 0)] [], (some (144, true))⟩, ⟨(some 147), .call 211 (.k (.fn (.func 10) [] [])) [(.t 145), (.k (.int .i64 0)), (.k (.int .i64 2)), (.t 146)], (some (144, true))⟩, ⟨(some 148), .len (.t 147), (some (144, true))⟩, ⟨(some 149), .bin .eql (.t 148) (.k (.int .i64 0)), (some (144, true))⟩, ⟨(some 150), .pick (.t 144) (.t 149) (.k (.bool false)), none⟩, ⟨(some 0), .mv (.t 150), none⟩] none)
 .ret))))))))))))⟩
/-- besom/deque.Step -/
def m7 : MFn := ⟨2, 40, [.tmp 4, .cell 5 (some 8)], (.seq (.reg [⟨(some 3), .box 67 (.t 1), none⟩, ⟨(some 4), .mv (.k .nils), none⟩, ⟨(some 5), .alloc 69 [(.int .i64 0), (.int .i64 0), (.int .i64 0), (.int .i64 0), (.int .u64 0), (.int .u64 0), (.int .i64 0), (.int .i64 0)], none⟩] none)
 (.seq (.reg [⟨(some 7), .fa 0 (.t 3), none⟩, ⟨(some 8), .ld none (.t 7), none⟩, ⟨(some 9), .call 73 (.k (.fn (.func 19) [] [])) [(.t 8)], none⟩, ⟨(some 6), .mv (.t 9), none⟩] none)
 (.seq (.seq (.reg [⟨(some 10), .fa 7 (.t 3), none⟩, ⟨(some 11), .ld none (.t 10), none⟩, ⟨(some 12), .bin .neq (.t 11) (.k (.int .i64 0)), none⟩, ⟨(some 13), .mv (.t 12), none⟩, ⟨(some 14), .fa 1 (.t 3), (some (13, false))⟩, ⟨(some 15), .ld none (.t 14), (some (13, false))⟩, ⟨(some 16), .bin .lss (.t 15) (.k (.int .i64 0)), (some (13, false))⟩, ⟨(some 17), .pick (.t 13) (.k (.bool true)) (.t 16), none⟩, ⟨(some 18), .mv (.t 17), none⟩, ⟨(some 19), .fa 1 (.t 3), (some (18, false))⟩, ⟨(some 20), .ld none (.t 19), (some (18, false))⟩, ⟨(some 21), .mv (.t 6), (some (18, false))⟩, ⟨(some 22), .len (.t 21), (some (18, false))⟩, ⟨(some 23), .bin .geq (.t 20) (.t 22), (some (18, false))⟩, ⟨(some 24), .pick (.t 18) (.k (.bool true)) (.t 23), none⟩] none)
 (.cond (.t 24) (.seq (.reg [⟨(some 25), .mv (.t 0), none⟩, ⟨(some 26), .ld (some 8) (.t 3), none⟩, ⟨(some 4), .mv (.t 25), none⟩, ⟨none, .st 8 (.t 5) (.t 26), none⟩] (some []))
 .ret) .skip))
 (.seq (.reg [⟨(some 27), .mv (.t 6), none⟩, ⟨(some 28), .fa 1 (.t 3), none⟩, ⟨(some 29), .ld none (.t 28), none⟩, ⟨(some 30), .ixs 1 (.t 27) (.t 29), none⟩, ⟨(some 31), .ld none (.t 30), none⟩, ⟨(some 32), .mv (.t 0), none⟩, ⟨(some 33), .call 97 (.t 31) [(.t 3), (.t 32)], none⟩, ⟨(some 0), .mv (.t 33), none⟩] none)
 (.seq (.reg [⟨(some 34), .fa 1 (.t 3), none⟩, ⟨(some 35), .ld none (.t 34), none⟩, ⟨(some 36), .bin .add (.t 35) (.k (.int .i64 1)), none⟩, ⟨(some 37), .fa 1 (.t 3), none⟩, ⟨none, .st 1 (.t 37) (.t 36), none⟩] none)
 (.seq (.reg [⟨(some 38), .mv (.t 0), none⟩, ⟨(some 39), .ld (some 8) (.t 3), none⟩, ⟨(some 4), .mv (.t 38), none⟩, ⟨none, .st 8 (.t 5) (.t 39), none⟩] (some []))
 .ret))))))⟩
/-- besom/besomref07.Step -/
def m8 : MFn := ⟨2, 36, [.tmp 4, .cell 5 (some 8)], (.seq (.reg [⟨(some 3), .box 67 (.t 1), none⟩, ⟨(some 4), .mv (.k .nils), none⟩, ⟨(some 5), .alloc 69 [(.int .i64 0), (.int .i64 0), (.int .i64 0), (.int .i64 0), (.int .u64 0), (.int .u64 0), (.int .i64 0), (.int .i64 0)], none⟩] none)
 (.seq (.seq (.reg [⟨(some 6), .fa 7 (.t 3), none⟩, ⟨(some 7), .ld none (.t 6), none⟩, ⟨(some 8), .bin .neq (.t 7) (.k (.int .i64 0)), none⟩] none)
 (.cond (.t 8) (.seq (.reg [⟨(some 9), .mv (.t 0), none⟩, ⟨(some 10), .ld (some 8) (.t 3), none⟩, ⟨(some 4), .mv (.t 9), none⟩, ⟨none, .st 8 (.t 5) (.t 10), none⟩] (some []))
 .ret) .skip))
 (.seq (.seq (.reg [⟨(some 11), .fa 0 (.t 3), none⟩, ⟨(some 12), .ld none (.t 11), none⟩] none)
 (.block 0 (.seq (.reg [⟨(some 14), .bin .eql (.t 12) (.k (.int .i64 1)), none⟩, ⟨(some 13), .mv (.t 14), none⟩] none)
 (.cond (.t 13) (.seq (.reg [⟨(some 15), .mv (.t 0), none⟩, ⟨(some 16), .ld (some 8) (.t 3), none⟩, ⟨(some 17), .call 81 (.k (.fn (.func 20) [] [])) [(.t 15), (.t 16)], none⟩, ⟨(some 18), .ext (.t 17) 0, none⟩, ⟨(some 19), .ext (.t 17) 1, none⟩, ⟨(some 4), .mv (.t 18), none⟩, ⟨none, .st 8 (.t 5) (.t 19), none⟩] none)
 .ret) (.seq (.reg [⟨(some 21), .bin .eql (.t 12) (.k (.int .i64 2)), none⟩, ⟨(some 20), .mv (.t 21), none⟩] none)
 (.cond (.t 20) (.seq (.reg [⟨(some 22), .mv (.t 0), none⟩, ⟨(some 23), .ld (some 8) (.t 3), none⟩, ⟨(some 24), .call 88 (.k (.fn (.func 21) [] [])) [(.t 22), (.t 23)], none⟩, ⟨(some 25), .ext (.t 24) 0, none⟩, ⟨(some 26), .ext (.t 24) 1, none⟩, ⟨(some 4), .mv (.t 25), none⟩, ⟨none, .st 8 (.t 5) (.t 26), none⟩] none)
 .ret) (.seq (.reg [⟨(some 28), .bin .eql (.t 12) (.k (.int .i64 3)), none⟩, ⟨(some 27), .mv (.t 28), none⟩] none)
 (.cond (.t 27) (.seq (.reg [⟨(some 29), .mv (.t 0), none⟩, ⟨(some 30), .ld (some 8) (.t 3), none⟩, ⟨(some 31), .call 95 (.k (.fn (.func 22) [] [])) [(.t 29), (.t 30)], none⟩, ⟨(some 32), .ext (.t 31) 0, none⟩, ⟨(some 33), .ext (.t 31) 1, none⟩, ⟨(some 4), .mv (.t 32), none⟩, ⟨none, .st 8 (.t 5) (.t 33), none⟩] none)
 .ret) .skip))))))))
 (.seq (.reg [⟨(some 34), .mv (.t 0), none⟩, ⟨(some 35), .ld (some 8) (.t 3), none⟩, ⟨(some 4), .mv (.t 34), none⟩, ⟨none, .st 8 (.t 5) (.t 35), none⟩] (some []))
 .ret))))⟩
/-- besom/besomlaw07.refDeque -/
def m9 : MFn := ⟨1, 20, [.cell 2 (some 8)], (.seq (.reg [⟨(some 1), .box 65 (.t 0), none⟩, ⟨(some 2), .alloc 66 [(.int .i64 0), (.int .i64 0), (.int .i64 0), (.int .i64 0), (.int .u64 0), (.int .u64 0), (.int .i64 0), (.int .i64 0)], none⟩] none)
 (.seq (.reg [⟨(some 3), .fa 0 (.t 1), none⟩, ⟨(some 4), .ld none (.t 3), none⟩, ⟨(some 5), .fa 1 (.t 1), none⟩, ⟨(some 6), .ld none (.t 5), none⟩, ⟨(some 7), .fa 2 (.t 1), none⟩, ⟨(some 8), .ld none (.t 7), none⟩, ⟨(some 9), .fa 3 (.t 1), none⟩, ⟨(some 10), .ld none (.t 9), none⟩, ⟨(some 11), .fa 4 (.t 1), none⟩, ⟨(some 12), .ld none (.t 11), none⟩, ⟨(some 13), .fa 5 (.t 1), none⟩, ⟨(some 14), .ld none (.t 13), none⟩, ⟨(some 15), .fa 6 (.t 1), none⟩, ⟨(some 16), .ld none (.t 15), none⟩, ⟨(some 17), .fa 7 (.t 1), none⟩, ⟨(some 18), .ld none (.t 17), none⟩, ⟨(some 19), .bld [(.int .i64 0), (.int .i64 0), (.int .i64 0), (.int .i64 0), (.int .u64 0), (.int .u64 0), (.int .i64 0), (.int .i64 0)] [(0, 1, (.t 4)), (1, 1, (.t 6)), (2, 1, (.t 8)), (3, 1, (.t 10)), (4, 1, (.t 12)), (5, 1, (.t 14)), (6, 1, (.t 16)), (7, 1, (.t 18))], none⟩, ⟨none, .st 8 (.t 2) (.t 19), none⟩] none)
 .ret))⟩
/-- besom/deque.Items -/
def m10 : MFn := ⟨4, 76, [.tmp 8], (.seq (.reg [⟨(some 7), .box 71 (.t 3), none⟩, ⟨(some 8), .mv (.k .nils), none⟩] none)
 (.seq (.reg [⟨(some 14), .mv (.t 1), none⟩, ⟨(some 15), .mv (.t 2), none⟩, ⟨(some 16), .bld [(.int .i64 0), (.int .i64 0), (.int .i64 0), (.int .i64 0), (.int .u64 0), (.int .u64 0), (.int .i64 0), (.int .i64 0)] [(2, 1, (.t 14)), (3, 1, (.t 15))], none⟩, ⟨(some 9), .alloc 73 [(.int .i64 0), (.int .i64 0), (.int .i64 0), (.int .i64 0), (.int .u64 0), (.int .u64 0), (.int .i64 0), (.int .i64 0)], none⟩, ⟨none, .st 8 (.t 9) (.t 16), none⟩] none)
 (.seq (.reg [⟨(some 17), .mv (.t 0), none⟩, ⟨(some 18), .call 82 (.k (.fn (.func 24) [] [])) [(.t 9)], none⟩, ⟨(some 19), .call 83 (.k (.fn (.func 23) [] [])) [(.t 17), (.t 18)], none⟩, ⟨(some 20), .mv (.t 0), none⟩, ⟨(some 21), .call 85 (.k (.fn (.func 25) [] [])) [(.t 9)], none⟩, ⟨(some 22), .call 86 (.k (.fn (.func 23) [] [])) [(.t 20), (.t 21)], none⟩, ⟨(some 10), .mv (.t 19), none⟩, ⟨(some 11), .mv (.t 22), none⟩] none)
 (.seq (.seq (.reg [⟨(some 23), .fa 0 (.t 7), none⟩, ⟨(some 24), .ld none (.t 23), none⟩, ⟨(some 25), .bin .eql (.t 24) (.k (.int .i64 2)), none⟩, ⟨(some 26), .mv (.t 25), none⟩, ⟨(some 27), .fa 7 (.t 7), (some (26, true))⟩, ⟨(some 28), .ld none (.t 27), (some (26, true))⟩, ⟨(some 29), .bin .eql (.t 28) (.k (.int .i64 0)), (some (26, true))⟩, ⟨(some 30), .pick (.t 26) (.t 29) (.k (.bool false)), none⟩] none)
 (.cond (.t 30) (.seq (.reg [⟨(some 31), .fa 1 (.t 7), none⟩, ⟨(some 32), .ld none (.t 31), none⟩] none)
 (.block 0 (.seq (.seq (.reg [⟨(some 34), .bin .eql (.t 32) (.k (.int .i64 2)), none⟩, ⟨(some 33), .mv (.t 34), none⟩] none)
 (.cond (.t 33) .skip (.seq (.reg [⟨(some 35), .bin .eql (.t 32) (.k (.int .i64 4)), none⟩, ⟨(some 33), .mv (.t 35), none⟩] none)
 (.cond (.t 33) .skip (.reg [⟨(some 36), .bin .eql (.t 32) (.k (.int .i64 5)), none⟩, ⟨(some 33), .mv (.t 36), none⟩] none)))))
 (.cond (.t 33) (.reg [⟨(some 37), .mv (.t 11), none⟩, ⟨(some 38), .bin .add (.t 37) (.k (.int .u64 1)), none⟩, ⟨(some 11), .mv (.t 38), none⟩] none) (.seq (.reg [⟨(some 40), .bin .eql (.t 32) (.k (.int .i64 3)), none⟩, ⟨(some 39), .mv (.t 40), none⟩] none)
 (.cond (.t 39) (.seq (.reg [⟨(some 41), .fa 5 (.t 7), none⟩, ⟨(some 42), .ld none (.t 41), none⟩, ⟨(some 43), .fa 4 (.t 7), none⟩, ⟨(some 44), .ld none (.t 43), none⟩, ⟨(some 45), .bin .sub (.t 44) (.k (.int .u64 1)), none⟩, ⟨(some 46), .bin .eql (.t 42) (.t 45), none⟩] none)
 (.cond (.t 46) (.reg [⟨(some 47), .mv (.t 11), none⟩, ⟨(some 48), .bin .add (.t 47) (.k (.int .u64 1)), none⟩, ⟨(some 11), .mv (.t 48), none⟩] none) .skip)) .skip)))))) .skip))
 (.seq (.seq (.reg [⟨(some 49), .mv (.t 11), none⟩, ⟨(some 50), .mv (.t 10), none⟩, ⟨(some 51), .call 115 (.k (.fn (.func 26) [] [])) [(.t 49), (.t 50)], none⟩, ⟨(some 52), .un .not (.t 51), none⟩, ⟨(some 53), .mv (.t 52), none⟩, ⟨(some 54), .mv (.t 11), (some (53, false))⟩, ⟨(some 55), .mv (.t 10), (some (53, false))⟩, ⟨(some 56), .bin .sub (.t 54) (.t 55), (some (53, false))⟩, ⟨(some 57), .call 121 (.k (.fn (.func 27) [] [])) [(.t 9)], (some (53, false))⟩, ⟨(some 58), .mn (.t 57) (.k (.int .u64 64)), (some (53, false))⟩, ⟨(some 59), .bin .gtr (.t 56) (.t 58), (some (53, false))⟩, ⟨(some 60), .pick (.t 53) (.k (.bool true)) (.t 59), none⟩] none)
 (.cond (.t 60) (.seq (.reg [⟨(some 8), .mv (.k .nils), none⟩] none)
 .ret) .skip))
 (.seq (.reg [⟨(some 12), .mv (.k .nils), none⟩] none)
 (.seq (.seq (.reg [⟨(some 61), .mv (.t 10), none⟩, ⟨(some 13), .mv (.t 61), none⟩] none)
 (.block 1 (.loop (.seq (.seq (.reg [⟨(some 62), .mv (.t 13), none⟩, ⟨(some 63), .mv (.t 11), none⟩, ⟨(some 64), .bin .neq (.t 62) (.t 63), none⟩] none)
 (.cond (.t 64) .skip (.exit 1)))
 (.seq (.block 2 (.reg [⟨(some 67), .mv (.t 12), none⟩, ⟨(some 68), .mv (.t 0), none⟩, ⟨(some 69), .mv (.t 13), none⟩, ⟨(some 70), .call 134 (.k (.fn (.func 28) [] [])) [(.t 9), (.t 69)], none⟩, ⟨(some 71), .call 135 (.k (.fn (.func 23) [] [])) [(.t 68), (.t 70)], none⟩, ⟨(some 72), .conv .i64 (.t 71), none⟩, ⟨(some 73), .bslt 1 [(.t 72)], none⟩, ⟨(some 74), .app 138 1 8 (.t 67) (.t 73), none⟩, ⟨(some 12), .mv (.t 74), none⟩] none))
 (.reg [⟨(some 65), .mv (.t 13), none⟩, ⟨(some 66), .bin .add (.t 65) (.k (.int .u64 1)), none⟩, ⟨(some 13), .mv (.t 66), none⟩] none))))))
 (.seq (.reg [⟨(some 75), .mv (.t 12), none⟩, ⟨(some 8), .mv (.t 75), none⟩] none)
 .ret))))))))⟩
/-- besom/besomref07.Items -/
def m11 : MFn := ⟨4, 95, [.tmp 8], (.seq (.reg [⟨(some 7), .box 71 (.t 3), none⟩, ⟨(some 8), .mv (.k .nils), none⟩] none)
 (.seq (.reg [⟨(some 15), .mv (.t 1), none⟩, ⟨(some 16), .mv (.t 2), none⟩, ⟨(some 17), .bld [(.int .i64 0), (.int .i64 0), (.int .i64 0), (.int .i64 0), (.int .u64 0), (.int .u64 0), (.int .i64 0), (.int .i64 0)] [(2, 1, (.t 15)), (3, 1, (.t 16))], none⟩, ⟨(some 9), .alloc 73 [(.int .i64 0), (.int .i64 0), (.int .i64 0), (.int .i64 0), (.int .u64 0), (.int .u64 0), (.int .i64 0), (.int .i64 0)], none⟩, ⟨none, .st 8 (.t 9) (.t 17), none⟩] none)
 (.seq (.reg [⟨(some 18), .mv (.t 0), none⟩, ⟨(some 19), .mv (.t 1), none⟩, ⟨(some 20), .call 84 (.k (.fn (.func 29) [] [])) [(.t 18), (.t 19)], none⟩, ⟨(some 10), .mv (.t 20), none⟩] none)
 (.seq (.reg [⟨(some 21), .mv (.t 0), none⟩, ⟨(some 22), .mv (.t 1), none⟩, ⟨(some 23), .bin .add (.t 22) (.k (.int .i64 1)), none⟩, ⟨(some 24), .call 88 (.k (.fn (.func 29) [] [])) [(.t 21), (.t 23)], none⟩, ⟨(some 11), .mv (.t 24), none⟩] none)
 (.seq (.reg [⟨(some 25), .fa 0 (.t 7), none⟩, ⟨(some 26), .ld none (.t 25), none⟩, ⟨(some 27), .bin .eql (.t 26) (.k (.int .i64 2)), none⟩, ⟨(some 28), .mv (.t 27), none⟩, ⟨(some 29), .fa 7 (.t 7), (some (28, true))⟩, ⟨(some 30), .ld none (.t 29), (some (28, true))⟩, ⟨(some 31), .bin .eql (.t 30) (.k (.int .i64 0)), (some (28, true))⟩, ⟨(some 32), .pick (.t 28) (.t 31) (.k (.bool false)), none⟩, ⟨(some 12), .mv (.t 32), none⟩] none)
 (.seq (.seq (.reg [⟨(some 33), .mv (.t 12), none⟩, ⟨(some 34), .mv (.t 33), none⟩, ⟨(some 35), .fa 1 (.t 7), (some (34, true))⟩, ⟨(some 36), .ld none (.t 35), (some (34, true))⟩, ⟨(some 37), .bin .eql (.t 36) (.k (.int .i64 2)), (some (34, true))⟩, ⟨(some 38), .mv (.t 37), (some (34, true))⟩, ⟨(some 39), .fa 1 (.t 7), (some (38, false))⟩, ⟨(some 40), .ld none (.t 39), (some (38, false))⟩, ⟨(some 41), .bin .eql (.t 40) (.k (.int .i64 4)), (some (38, false))⟩, ⟨(some 42), .pick (.t 38) (.k (.bool true)) (.t 41), (some (34, true))⟩, ⟨(some 43), .mv (.t 42), (some (34, true))⟩, ⟨(some 44), .fa 1 (.t 7), (some (43, false))⟩, ⟨(some 45), .ld none (.t 44), (some (43, false))⟩, ⟨(some 46), .bin .eql (.t 45) (.k (.int .i64 5)), (some (43, false))⟩, ⟨(some 47), .pick (.t 43) (.k (.bool true)) (.t 46), (some (34, true))⟩, ⟨(some 48), .mv (.t 47), (some (34, true))⟩, ⟨(some 49), .fa 1 (.t 7), (some (48, false))⟩, ⟨(some 50), .ld none (.t 49), (some (48, false))⟩, ⟨(some 51), .bin .eql (.t 50) (.k (.int .i64 3)), (some (48, false))⟩, ⟨(some 52), .mv (.t 51), (some (48, false))⟩, ⟨(some 53), .fa 5 (.t 7), (some (52, true))⟩, ⟨(some 54), .ld none (.t 53), (some (52, true))⟩, ⟨(some 55), .fa 4 (.t 7), (some (52, true))⟩, ⟨(some 56), .ld none (.t 55), (some (52, true))⟩, ⟨(some 57), .bin .sub (.t 56) (.k (.int .u64 1)), (some (52, true))⟩, ⟨(some 58), .bin .eql (.t 54) (.t 57), (some (52, true))⟩, ⟨(some 59), .pick (.t 52) (.t 58) (.k (.bool false)), (some (48, false))⟩, ⟨(some 60), .pick (.t 48) (.k (.bool true)) (.t 59), (some (34, true))⟩, ⟨(some 61), .pick (.t 34) (.t 60) (.k (.bool false)), none⟩] none)
 (.cond (.t 61) (.reg [⟨(some 62), .mv (.t 11), none⟩, ⟨(some 63), .bin .add (.t 62) (.k (.int .u64 1)), none⟩, ⟨(some 11), .mv (.t 63), none⟩] none) .skip))
 (.seq (.seq (.reg [⟨(some 64), .mv (.t 11), none⟩, ⟨(some 65), .mv (.t 10), none⟩, ⟨(some 66), .bin .sub (.t 64) (.t 65), none⟩, ⟨(some 67), .conv .i64 (.t 66), none⟩, ⟨(some 68), .bin .leq (.t 67) (.k (.int .i64 0)), none⟩, ⟨(some 69), .mv (.t 68), none⟩, ⟨(some 70), .mv (.t 11), (some (69, false))⟩, ⟨(some 71), .mv (.t 10), (some (69, false))⟩, ⟨(some 72), .bin .sub (.t 70) (.t 71), (some (69, false))⟩, ⟨(some 73), .mv (.t 2), (some (69, false))⟩, ⟨(some 74), .mx (.t 73) (.k (.int .i64 1)), (some (69, false))⟩, ⟨(some 75), .mn (.t 74) (.k (.int .i64 64)), (some (69, false))⟩, ⟨(some 76), .conv .u64 (.t 75), (some (69, false))⟩, ⟨(some 77), .bin .gtr (.t 72) (.t 76), (some (69, false))⟩, ⟨(some 78), .pick (.t 69) (.k (.bool true)) (.t 77), none⟩] none)
 (.cond (.t 78) (.seq (.reg [⟨(some 8), .mv (.k .nils), none⟩] none)
 .ret) .skip))
 (.seq (.reg [⟨(some 13), .mv (.k .nils), none⟩] none)
 (.seq (.seq (.reg [⟨(some 79), .mv (.t 10), none⟩, ⟨(some 14), .mv (.t 79), none⟩] none)
 (.block 0 (.loop (.seq (.seq (.reg [⟨(some 80), .mv (.t 14), none⟩, ⟨(some 81), .mv (.t 11), none⟩, ⟨(some 82), .bin .neq (.t 80) (.t 81), none⟩] none)
 (.cond (.t 82) .skip (.exit 0)))
 (.seq (.block 1 (.reg [⟨(some 85), .mv (.t 13), none⟩, ⟨(some 86), .mv (.t 0), none⟩, ⟨(some 87), .ld (some 8) (.t 9), none⟩, ⟨(some 88), .mv (.t 14), none⟩, ⟨(some 89), .call 153 (.k (.fn (.func 30) [] [])) [(.t 87), (.t 88)], none⟩, ⟨(some 90), .call 154 (.k (.fn (.func 29) [] [])) [(.t 86), (.t 89)], none⟩, ⟨(some 91), .conv .i64 (.t 90), none⟩, ⟨(some 92), .bslt 1 [(.t 91)], none⟩, ⟨(some 93), .app 157 1 8 (.t 85) (.t 92), none⟩, ⟨(some 13), .mv (.t 93), none⟩] none))
 (.reg [⟨(some 83), .mv (.t 14), none⟩, ⟨(some 84), .bin .add (.t 83) (.k (.int .u64 1)), none⟩, ⟨(some 14), .mv (.t 84), none⟩] none))))))
 (.seq (.reg [⟨(some 94), .mv (.t 13), none⟩, ⟨(some 8), .mv (.t 94), none⟩] none)
 .ret))))))))))⟩
/-- besom/besomref05.Same -/
def m12 : MFn := ⟨2, 26, [.tmp 4], (.seq (.reg [⟨(some 4), .mv (.k (.bool false)), none⟩] none)
 (.seq (.seq (.reg [⟨(some 6), .mv (.t 0), none⟩, ⟨(some 7), .len (.t 6), none⟩, ⟨(some 8), .mv (.t 1), none⟩, ⟨(some 9), .len (.t 8), none⟩, ⟨(some 10), .bin .neq (.t 7) (.t 9), none⟩] none)
 (.cond (.t 10) (.seq (.reg [⟨(some 4), .mv (.k (.bool false)), none⟩] none)
 .ret) .skip))
 (.seq (.seq (.reg [⟨(some 5), .mv (.k (.int .i64 0)), none⟩] none)
 (.block 0 (.loop (.seq (.seq (.reg [⟨(some 11), .mv (.t 5), none⟩, ⟨(some 12), .mv (.t 0), none⟩, ⟨(some 13), .len (.t 12), none⟩, ⟨(some 14), .bin .lss (.t 11) (.t 13), none⟩] none)
 (.cond (.t 14) .skip (.exit 0)))
 (.seq (.block 1 (.seq (.reg [⟨(some 17), .mv (.t 0), none⟩, ⟨(some 18), .mv (.t 5), none⟩, ⟨(some 19), .ixs 1 (.t 17) (.t 18), none⟩, ⟨(some 20), .ld none (.t 19), none⟩, ⟨(some 21), .mv (.t 1), none⟩, ⟨(some 22), .mv (.t 5), none⟩, ⟨(some 23), .ixs 1 (.t 21) (.t 22), none⟩, ⟨(some 24), .ld none (.t 23), none⟩, ⟨(some 25), .bin .neq (.t 20) (.t 24), none⟩] (some [(2, 6), (3, 6), (2, 7), (3, 7)]))
 (.cond (.t 25) (.seq (.reg [⟨(some 4), .mv (.k (.bool false)), none⟩] none)
 .ret) .skip)))
 (.reg [⟨(some 15), .mv (.t 5), none⟩, ⟨(some 16), .bin .add (.t 15) (.k (.int .i64 1)), none⟩, ⟨(some 5), .mv (.t 16), none⟩] none))))))
 (.seq (.reg [⟨(some 4), .mv (.k (.bool true)), none⟩] none)
 .ret))))⟩
/-- besom/deque.Cells -/
def m13 : MFn := ⟨1, 14, [.tmp 2], (.seq (.reg [⟨(some 2), .mv (.k .nils), none⟩] none)
 (.seq (.reg [⟨(some 4), .mv (.t 0), none⟩, ⟨(some 5), .mx (.t 4) (.k (.int .i64 1)), none⟩, ⟨(some 6), .mn (.t 5) (.k (.int .i64 64)), none⟩, ⟨(some 7), .bin .add (.k (.int .i64 2)) (.t 6), none⟩, ⟨(some 8), .mks 72 1 8 (.int .u64 0) (.t 7), none⟩, ⟨(some 3), .mv (.t 8), none⟩] none)
 (.seq (.reg [⟨(some 9), .mv (.t 3), none⟩, ⟨(some 10), .mv (.t 3), none⟩, ⟨(some 11), .ixs 1 (.t 9) (.k (.int .i64 0)), none⟩, ⟨none, .st 1 (.t 11) (.k (.int .u64 1)), none⟩, ⟨(some 12), .ixs 1 (.t 10) (.k (.int .i64 1)), none⟩, ⟨none, .st 1 (.t 12) (.k (.int .u64 1)), none⟩] none)
 (.seq (.reg [⟨(some 13), .mv (.t 3), none⟩, ⟨(some 2), .mv (.t 13), none⟩] none)
 .ret))))⟩
/-- besom/besomref07.Cells -/
def m14 : MFn := ⟨1, 8, [.tmp 2], (.seq (.reg [⟨(some 2), .mv (.k .nils), none⟩] none)
 (.seq (.reg [⟨(some 3), .bslt 1 [(.k (.int .u64 1)), (.k (.int .u64 1))], none⟩, ⟨(some 4), .mv (.t 0), none⟩, ⟨(some 5), .mx (.t 4) (.k (.int .i64 1)), none⟩, ⟨(some 6), .mn (.t 5) (.k (.int .i64 64)), none⟩, ⟨(some 7), .appz 71 1 8 (.int .u64 0) (.t 3) (.t 6), none⟩, ⟨(some 2), .mv (.t 7), none⟩] none)
 .ret))⟩
/-- besom/deque.Start -/
def m15 : MFn := ⟨4, 14, [.cell 8 (some 8)], (.seq (.reg [⟨(some 8), .alloc 72 [(.int .i64 0), (.int .i64 0), (.int .i64 0), (.int .i64 0), (.int .u64 0), (.int .u64 0), (.int .i64 0), (.int .i64 0)], none⟩] none)
 (.seq (.reg [⟨(some 9), .mv (.t 0), none⟩, ⟨(some 10), .mv (.t 1), none⟩, ⟨(some 11), .mv (.t 2), none⟩, ⟨(some 12), .mv (.t 3), none⟩, ⟨(some 13), .bld [(.int .i64 0), (.int .i64 0), (.int .i64 0), (.int .i64 0), (.int .u64 0), (.int .u64 0), (.int .i64 0), (.int .i64 0)] [(0, 1, (.t 9)), (2, 1, (.t 10)), (3, 1, (.t 11)), (6, 1, (.t 12))], none⟩, ⟨none, .st 8 (.t 8) (.t 13), none⟩] none)
 .ret))⟩
/-- besom/besomref07.Start -/
def m16 : MFn := ⟨4, 14, [.cell 8 (some 8)], (.seq (.reg [⟨(some 8), .alloc 72 [(.int .i64 0), (.int .i64 0), (.int .i64 0), (.int .i64 0), (.int .u64 0), (.int .u64 0), (.int .i64 0), (.int .i64 0)], none⟩] none)
 (.seq (.reg [⟨(some 9), .mv (.t 0), none⟩, ⟨(some 10), .mv (.t 1), none⟩, ⟨(some 11), .mv (.t 2), none⟩, ⟨(some 12), .mv (.t 3), none⟩, ⟨(some 13), .bld [(.int .i64 0), (.int .i64 0), (.int .i64 0), (.int .i64 0), (.int .u64 0), (.int .u64 0), (.int .i64 0), (.int .i64 0)] [(0, 1, (.t 9)), (2, 1, (.t 10)), (3, 1, (.t 11)), (6, 1, (.t 12))], none⟩, ⟨none, .st 8 (.t 8) (.t 13), none⟩] none)
 .ret))⟩
/-- besom/besomlaw07.run -/
def m17 : MFn := ⟨3, 29, [.tmp 6, .cell 7 (some 8), .tmp 8], (.seq (.reg [⟨(some 4), .box 68 (.t 1), none⟩, ⟨(some 6), .mv (.k .nils), none⟩, ⟨(some 7), .alloc 71 [(.int .i64 0), (.int .i64 0), (.int .i64 0), (.int .i64 0), (.int .u64 0), (.int .u64 0), (.int .i64 0), (.int .i64 0)], none⟩, ⟨(some 8), .mv (.k (.int .i64 0)), none⟩] none)
 (.seq (.reg [⟨(some 9), .mv (.k (.int .i64 0)), none⟩] none)
 (.seq (.block 0 (.loop (.seq (.seq (.reg [⟨(some 10), .mv (.t 9), none⟩, ⟨(some 11), .mv (.t 2), none⟩, ⟨(some 12), .bin .lss (.t 10) (.t 11), none⟩, ⟨(some 13), .mv (.t 12), none⟩, ⟨(some 14), .fa 7 (.t 4), (some (13, true))⟩, ⟨(some 15), .ld none (.t 14), (some (13, true))⟩, ⟨(some 16), .bin .eql (.t 15) (.k (.int .i64 0)), (some (13, true))⟩, ⟨(some 17), .pick (.t 13) (.t 16) (.k (.bool false)), none⟩] none)
 (.cond (.t 17) .skip (.exit 0)))
 (.block 1 (.seq (.reg [⟨(some 19), .mv (.t 0), none⟩, ⟨(some 20), .ld (some 8) (.t 4), none⟩, ⟨(some 21), .call 85 (.k (.fn (.func 7) [] [])) [(.t 19), (.t 20)], none⟩, ⟨(some 18), .mv (.t 21), none⟩, ⟨(some 22), .ext (.t 18) 0, none⟩, ⟨(some 23), .ext (.t 18) 1, none⟩, ⟨(some 0), .mv (.t 22), none⟩, ⟨none, .st 8 (.t 4) (.t 23), none⟩] none)
 (.reg [⟨(some 24), .mv (.t 9), none⟩, ⟨(some 25), .bin .add (.t 24) (.k (.int .i64 1)), none⟩, ⟨(some 9), .mv (.t 25), none⟩] none))))))
 (.seq (.reg [⟨(some 26), .mv (.t 0), none⟩, ⟨(some 27), .ld (some 8) (.t 4), none⟩, ⟨(some 28), .mv (.t 9), none⟩, ⟨(some 6), .mv (.t 26), none⟩, ⟨none, .st 8 (.t 7) (.t 27), none⟩, ⟨(some 8), .mv (.t 28), none⟩] (some []))
 .ret))))⟩
/-- besom/mem.Same -/
def m18 : MFn := ⟨2, 8, [.tmp 4], (.seq (.reg [⟨(some 4), .mv (.k (.bool false)), none⟩] none)
 (.seq (.reg [⟨(some 5), .mv (.t 0), none⟩, ⟨(some 6), .mv (.t 1), none⟩, ⟨(some 7), .call 71 (.k (.fn (.func 31) [] [])) [(.t 5), (.t 6)], none⟩, ⟨(some 4), .mv (.t 7), none⟩] none)
 .ret))⟩
/-- besom/deque.steps -/
def m19 : MFn := ⟨1, 13, [.tmp 2], (.seq (.reg [⟨(some 2), .mv (.k .nils), none⟩] none)
 (.seq (.seq (.reg [⟨(some 3), .mv (.t 0), none⟩] none)
 (.block 0 (.seq (.reg [⟨(some 5), .bin .eql (.t 3) (.k (.int .i64 1)), none⟩, ⟨(some 4), .mv (.t 5), none⟩] none)
 (.cond (.t 4) (.seq (.reg [⟨(some 6), .bslt 1 [(.k (.fn (.func 32) [] [])), (.k (.fn (.func 33) [] [])), (.k (.fn (.func 34) [] [])), (.k (.fn (.func 35) [] []))], none⟩, ⟨(some 2), .mv (.t 6), none⟩] none)
 .ret) (.seq (.reg [⟨(some 8), .bin .eql (.t 3) (.k (.int .i64 2)), none⟩, ⟨(some 7), .mv (.t 8), none⟩] none)
 (.cond (.t 7) (.seq (.reg [⟨(some 9), .bslt 1 [(.k (.fn (.func 32) [] [])), (.k (.fn (.func 36) [] [])), (.k (.fn (.func 37) [] [])), (.k (.fn (.func 38) [] [])), (.k (.fn (.func 39) [] [])), (.k (.fn (.func 40) [] [])), (.k (.fn (.func 41) [] []))], none⟩, ⟨(some 2), .mv (.t 9), none⟩] none)
 .ret) (.seq (.reg [⟨(some 11), .bin .eql (.t 3) (.k (.int .i64 3)), none⟩, ⟨(some 10), .mv (.t 11), none⟩] none)
 (.cond (.t 10) (.seq (.reg [⟨(some 12), .bslt 1 [(.k (.fn (.func 42) [] [])), (.k (.fn (.func 43) [] [])), (.k (.fn (.func 44) [] [])), (.k (.fn (.func 45) [] []))], none⟩, ⟨(some 2), .mv (.t 12), none⟩] none)
 .ret) .skip))))))))
 (.seq (.reg [⟨(some 2), .mv (.k .nils), none⟩] none)
 .ret)))⟩
/-- besom/besomref07.push -/
def m20 : MFn := ⟨2, 64, [.tmp 4, .cell 5 (some 8)], (.seq (.reg [⟨(some 3), .box 67 (.t 1), none⟩, ⟨(some 4), .mv (.k .nils), none⟩, ⟨(some 5), .alloc 69 [(.int .i64 0), (.int .i64 0), (.int .i64 0), (.int .i64 0), (.int .u64 0), (.int .u64 0), (.int .i64 0), (.int .i64 0)], none⟩] none)
 (.seq (.seq (.reg [⟨(some 6), .fa 1 (.t 3), none⟩, ⟨(some 7), .ld none (.t 6), none⟩] none)
 (.block 0 (.seq (.reg [⟨(some 11), .bin .eql (.t 7) (.k (.int .i64 0)), none⟩, ⟨(some 10), .mv (.t 11), none⟩] none)
 (.cond (.t 10) (.reg [⟨(some 12), .mv (.t 0), none⟩, ⟨(some 13), .fa 2 (.t 3), none⟩, ⟨(some 14), .ld none (.t 13), none⟩, ⟨(some 15), .bin .add (.t 14) (.k (.int .i64 1)), none⟩, ⟨(some 16), .call 80 (.k (.fn (.func 29) [] [])) [(.t 12), (.t 15)], none⟩, ⟨(some 17), .fa 4 (.t 3), none⟩, ⟨none, .st 1 (.t 17) (.t 16), none⟩] none) (.seq (.reg [⟨(some 19), .bin .eql (.t 7) (.k (.int .i64 1)), none⟩, ⟨(some 18), .mv (.t 19), none⟩] none)
 (.cond (.t 18) (.seq (.reg [⟨(some 20), .mv (.t 0), none⟩, ⟨(some 21), .fa 2 (.t 3), none⟩, ⟨(some 22), .ld none (.t 21), none⟩, ⟨(some 23), .call 87 (.k (.fn (.func 29) [] [])) [(.t 20), (.t 22)], none⟩, ⟨(some 24), .fa 5 (.t 3), none⟩, ⟨none, .st 1 (.t 24) (.t 23), none⟩] none)
 (.seq (.reg [⟨(some 25), .fa 4 (.t 3), none⟩, ⟨(some 26), .ld none (.t 25), none⟩, ⟨(some 27), .fa 5 (.t 3), none⟩, ⟨(some 28), .ld none (.t 27), none⟩, ⟨(some 29), .bin .sub (.t 26) (.t 28), none⟩, ⟨(some 30), .fa 3 (.t 3), none⟩, ⟨(some 31), .ld none (.t 30), none⟩, ⟨(some 32), .mx (.t 31) (.k (.int .i64 1)), none⟩, ⟨(some 33), .conv .u64 (.t 32), none⟩, ⟨(some 34), .bin .geq (.t 29) (.t 33), none⟩] none)
 (.cond (.t 34) (.reg [⟨(some 35), .fa 7 (.t 3), none⟩, ⟨none, .st 1 (.t 35) (.k (.int .i64 3)), none⟩] none) .skip))) (.seq (.reg [⟨(some 37), .bin .eql (.t 7) (.k (.int .i64 2)), none⟩, ⟨(some 36), .mv (.t 37), none⟩] none)
 (.cond (.t 36) (.reg [⟨(some 38), .mv (.t 0), none⟩, ⟨(some 39), .ld (some 8) (.t 3), none⟩, ⟨(some 40), .fa 4 (.t 3), none⟩, ⟨(some 41), .ld none (.t 40), none⟩, ⟨(some 42), .call 106 (.k (.fn (.func 30) [] [])) [(.t 39), (.t 41)], none⟩, ⟨(some 43), .fa 6 (.t 3), none⟩, ⟨(some 44), .ld none (.t 43), none⟩, ⟨(some 45), .conv .u64 (.t 44), none⟩, ⟨(some 46), .call 110 (.k (.fn (.func 46) [] [])) [(.t 38), (.t 42), (.t 45)], none⟩, ⟨(some 0), .mv (.t 46), none⟩] (some [(1, 3), (1, 6), (3, 6), (4, 6)])) (.seq (.reg [⟨(some 48), .bin .eql (.t 7) (.k (.int .i64 3)), none⟩, ⟨(some 47), .mv (.t 48), none⟩] none)
 (.cond (.t 47) (.seq (.reg [⟨(some 49), .mv (.t 0), none⟩, ⟨(some 50), .fa 2 (.t 3), none⟩, ⟨(some 51), .ld none (.t 50), none⟩, ⟨(some 52), .bin .add (.t 51) (.k (.int .i64 1)), none⟩, ⟨(some 53), .fa 4 (.t 3), none⟩, ⟨(some 54), .ld none (.t 53), none⟩, ⟨(some 55), .bin .add (.t 54) (.k (.int .u64 1)), none⟩, ⟨(some 56), .call 120 (.k (.fn (.func 46) [] [])) [(.t 49), (.t 52), (.t 55)], none⟩, ⟨(some 0), .mv (.t 56), none⟩] none)
 (.reg [⟨(some 57), .fa 7 (.t 3), none⟩, ⟨none, .st 1 (.t 57) (.k (.int .i64 1)), none⟩] none)) (.seq (.reg [⟨(some 8), .mv (.t 0), none⟩, ⟨(some 9), .ld (some 8) (.t 3), none⟩, ⟨(some 4), .mv (.t 8), none⟩, ⟨none, .st 8 (.t 5) (.t 9), none⟩] (some []))
 .ret)))))))))))
 (.seq (.reg [⟨(some 58), .fa 1 (.t 3), none⟩, ⟨(some 59), .ld none (.t 58), none⟩, ⟨(some 60), .bin .add (.t 59) (.k (.int .i64 1)), none⟩, ⟨(some 61), .fa 1 (.t 3), none⟩, ⟨none, .st 1 (.t 61) (.t 60), none⟩] none)
 (.seq (.reg [⟨(some 62), .mv (.t 0), none⟩, ⟨(some 63), .ld (some 8) (.t 3), none⟩, ⟨(some 4), .mv (.t 62), none⟩, ⟨none, .st 8 (.t 5) (.t 63), none⟩] (some []))
 .ret))))⟩
/-- besom/besomref07.pop -/
def m21 : MFn := ⟨2, 108, [.tmp 4, .cell 5 (some 8)], (.seq (.reg [⟨(some 3), .box 67 (.t 1), none⟩, ⟨(some 4), .mv (.k .nils), none⟩, ⟨(some 5), .alloc 69 [(.int .i64 0), (.int .i64 0), (.int .i64 0), (.int .i64 0), (.int .u64 0), (.int .u64 0), (.int .i64 0), (.int .i64 0)], none⟩] none)
 (.seq (.reg [⟨(some 9), .fa 1 (.t 3), none⟩, ⟨(some 10), .ld none (.t 9), none⟩, ⟨(some 11), .bin .add (.t 10) (.k (.int .i64 1)), none⟩, ⟨(some 6), .mv (.t 11), none⟩] none)
 (.seq (.seq (.reg [⟨(some 12), .fa 1 (.t 3), none⟩, ⟨(some 13), .ld none (.t 12), none⟩] none)
 (.block 0 (.seq (.reg [⟨(some 17), .bin .eql (.t 13) (.k (.int .i64 0)), none⟩, ⟨(some 16), .mv (.t 17), none⟩] none)
 (.cond (.t 16) (.reg [⟨(some 18), .mv (.t 0), none⟩, ⟨(some 19), .fa 2 (.t 3), none⟩, ⟨(some 20), .ld none (.t 19), none⟩, ⟨(some 21), .bin .add (.t 20) (.k (.int .i64 1)), none⟩, ⟨(some 22), .call 86 (.k (.fn (.func 29) [] [])) [(.t 18), (.t 21)], none⟩, ⟨(some 23), .fa 4 (.t 3), none⟩, ⟨none, .st 1 (.t 23) (.t 22), none⟩] none) (.seq (.reg [⟨(some 25), .bin .eql (.t 13) (.k (.int .i64 1)), none⟩, ⟨(some 24), .mv (.t 25), none⟩] none)
 (.cond (.t 24) (.reg [⟨(some 26), .mv (.t 0), none⟩, ⟨(some 27), .fa 2 (.t 3), none⟩, ⟨(some 28), .ld none (.t 27), none⟩, ⟨(some 29), .bin .add (.t 28) (.k (.int .i64 1)), none⟩, ⟨(some 30), .fa 4 (.t 3), none⟩, ⟨(some 31), .ld none (.t 30), none⟩, ⟨(some 32), .bin .sub (.t 31) (.k (.int .u64 1)), none⟩, ⟨(some 33), .call 97 (.k (.fn (.func 46) [] [])) [(.t 26), (.t 29), (.t 32)], none⟩, ⟨(some 0), .mv (.t 33), none⟩] none) (.seq (.reg [⟨(some 35), .bin .eql (.t 13) (.k (.int .i64 2)), none⟩, ⟨(some 34), .mv (.t 35), none⟩] none)
 (.cond (.t 34) (.seq (.reg [⟨(some 36), .mv (.t 0), none⟩, ⟨(some 37), .fa 2 (.t 3), none⟩, ⟨(some 38), .ld none (.t 37), none⟩, ⟨(some 39), .call 103 (.k (.fn (.func 29) [] [])) [(.t 36), (.t 38)], none⟩, ⟨(some 40), .fa 5 (.t 3), none⟩, ⟨none, .st 1 (.t 40) (.t 39), none⟩] none)
 (.seq (.reg [⟨(some 41), .fa 5 (.t 3), none⟩, ⟨(some 42), .ld none (.t 41), none⟩, ⟨(some 43), .fa 4 (.t 3), none⟩, ⟨(some 44), .ld none (.t 43), none⟩, ⟨(some 45), .bin .sub (.t 44) (.k (.int .u64 1)), none⟩, ⟨(some 46), .bin .sub (.t 42) (.t 45), none⟩, ⟨(some 47), .conv .i64 (.t 46), none⟩, ⟨(some 48), .bin .gtr (.t 47) (.k (.int .i64 0)), none⟩] none)
 (.cond (.t 48) (.reg [⟨(some 6), .mv (.k (.int .i64 5)), none⟩] none) .skip))) (.seq (.reg [⟨(some 50), .bin .eql (.t 13) (.k (.int .i64 3)), none⟩, ⟨(some 49), .mv (.t 50), none⟩] none)
 (.cond (.t 49) (.seq (.reg [⟨(some 51), .mv (.t 0), none⟩, ⟨(some 52), .ld (some 8) (.t 3), none⟩, ⟨(some 53), .fa 4 (.t 3), none⟩, ⟨(some 54), .ld none (.t 53), none⟩, ⟨(some 55), .bin .sub (.t 54) (.k (.int .u64 1)), none⟩, ⟨(some 56), .call 120 (.k (.fn (.func 30) [] [])) [(.t 52), (.t 55)], none⟩, ⟨(some 57), .call 121 (.k (.fn (.func 29) [] [])) [(.t 51), (.t 56)], none⟩, ⟨(some 58), .conv .i64 (.t 57), none⟩, ⟨(some 59), .fa 6 (.t 3), none⟩, ⟨none, .st 1 (.t 59) (.t 58), none⟩] none)
 (.seq (.reg [⟨(some 60), .fa 5 (.t 3), none⟩, ⟨(some 61), .ld none (.t 60), none⟩, ⟨(some 62), .fa 4 (.t 3), none⟩, ⟨(some 63), .ld none (.t 62), none⟩, ⟨(some 64), .bin .sub (.t 63) (.k (.int .u64 1)), none⟩, ⟨(some 65), .bin .neq (.t 61) (.t 64), none⟩] none)
 (.cond (.t 65) (.reg [⟨(some 66), .fa 7 (.t 3), none⟩, ⟨none, .st 1 (.t 66) (.k (.int .i64 1)), none⟩] none) .skip))) (.seq (.reg [⟨(some 68), .bin .eql (.t 13) (.k (.int .i64 4)), none⟩, ⟨(some 67), .mv (.t 68), none⟩] none)
 (.cond (.t 67) (.seq (.reg [⟨(some 70), .mv (.t 0), none⟩, ⟨(some 71), .fa 2 (.t 3), none⟩, ⟨(some 72), .ld none (.t 71), none⟩, ⟨(some 73), .fa 5 (.t 3), none⟩, ⟨(some 74), .ld none (.t 73), none⟩, ⟨(some 75), .fa 5 (.t 3), none⟩, ⟨(some 76), .ld none (.t 75), none⟩, ⟨(some 77), .bin .add (.t 76) (.k (.int .u64 1)), none⟩, ⟨(some 78), .call 142 (.k (.fn (.func 47) [] [])) [(.t 70), (.t 72), (.t 74), (.t 77)], none⟩, ⟨(some 69), .mv (.t 78), none⟩, ⟨(some 79), .ext (.t 69) 0, none⟩, ⟨(some 80), .ext (.t 69) 1, none⟩, ⟨(some 7), .mv (.t 79), none⟩, ⟨(some 8), .mv (.t 80), none⟩] none)
 (.seq (.reg [⟨(some 81), .mv (.t 7), none⟩, ⟨(some 0), .mv (.t 81), none⟩] none)
 (.seq (.reg [⟨(some 82), .mv (.t 8), none⟩] none)
 (.cond (.t 82) (.reg [⟨(some 6), .mv (.k (.int .i64 6)), none⟩] none) .skip)))) (.seq (.reg [⟨(some 84), .bin .eql (.t 13) (.k (.int .i64 5)), none⟩, ⟨(some 83), .mv (.t 84), none⟩] none)
 (.cond (.t 83) (.seq (.reg [⟨(some 85), .mv (.t 0), none⟩, ⟨(some 86), .fa 2 (.t 3), none⟩, ⟨(some 87), .ld none (.t 86), none⟩, ⟨(some 88), .bin .add (.t 87) (.k (.int .i64 1)), none⟩, ⟨(some 89), .fa 4 (.t 3), none⟩, ⟨(some 90), .ld none (.t 89), none⟩, ⟨(some 91), .call 155 (.k (.fn (.func 46) [] [])) [(.t 85), (.t 88), (.t 90)], none⟩, ⟨(some 0), .mv (.t 91), none⟩] none)
 (.seq (.reg [⟨(some 92), .fa 7 (.t 3), none⟩, ⟨none, .st 1 (.t 92) (.k (.int .i64 2)), none⟩] none)
 (.reg [⟨(some 93), .fa 6 (.t 3), none⟩, ⟨none, .st 1 (.t 93) (.k (.int .i64 0)), none⟩] none))) (.seq (.reg [⟨(some 95), .bin .eql (.t 13) (.k (.int .i64 6)), none⟩, ⟨(some 94), .mv (.t 95), none⟩] none)
 (.cond (.t 94) (.seq (.reg [⟨(some 96), .mv (.t 0), none⟩, ⟨(some 97), .fa 2 (.t 3), none⟩, ⟨(some 98), .ld none (.t 97), none⟩, ⟨(some 99), .bin .add (.t 98) (.k (.int .i64 1)), none⟩, ⟨(some 100), .fa 4 (.t 3), none⟩, ⟨(some 101), .ld none (.t 100), none⟩, ⟨(some 102), .call 166 (.k (.fn (.func 46) [] [])) [(.t 96), (.t 99), (.t 101)], none⟩, ⟨(some 0), .mv (.t 102), none⟩] none)
 (.reg [⟨(some 103), .fa 7 (.t 3), none⟩, ⟨none, .st 1 (.t 103) (.k (.int .i64 1)), none⟩] none)) (.seq (.reg [⟨(some 14), .mv (.t 0), none⟩, ⟨(some 15), .ld (some 8) (.t 3), none⟩, ⟨(some 4), .mv (.t 14), none⟩, ⟨none, .st 8 (.t 5) (.t 15), none⟩] (some []))
 .ret)))))))))))))))))
 (.seq (.reg [⟨(some 104), .mv (.t 6), none⟩, ⟨(some 105), .fa 1 (.t 3), none⟩, ⟨none, .st 1 (.t 105) (.t 104), none⟩] none)
 (.seq (.reg [⟨(some 106), .mv (.t 0), none⟩, ⟨(some 107), .ld (some 8) (.t 3), none⟩, ⟨(some 4), .mv (.t 106), none⟩, ⟨none, .st 8 (.t 5) (.t 107), none⟩] (some []))
 .ret)))))⟩
/-- besom/besomref07.steal -/
def m22 : MFn := ⟨2, 71, [.tmp 4, .cell 5 (some 8)], (.seq (.reg [⟨(some 3), .box 67 (.t 1), none⟩, ⟨(some 4), .mv (.k .nils), none⟩, ⟨(some 5), .alloc 69 [(.int .i64 0), (.int .i64 0), (.int .i64 0), (.int .i64 0), (.int .u64 0), (.int .u64 0), (.int .i64 0), (.int .i64 0)], none⟩] none)
 (.seq (.seq (.reg [⟨(some 8), .fa 1 (.t 3), none⟩, ⟨(some 9), .ld none (.t 8), none⟩] none)
 (.block 0 (.seq (.reg [⟨(some 13), .bin .eql (.t 9) (.k (.int .i64 0)), none⟩, ⟨(some 12), .mv (.t 13), none⟩] none)
 (.cond (.t 12) (.reg [⟨(some 14), .mv (.t 0), none⟩, ⟨(some 15), .fa 2 (.t 3), none⟩, ⟨(some 16), .ld none (.t 15), none⟩, ⟨(some 17), .call 81 (.k (.fn (.func 29) [] [])) [(.t 14), (.t 16)], none⟩, ⟨(some 18), .fa 5 (.t 3), none⟩, ⟨none, .st 1 (.t 18) (.t 17), none⟩] none) (.seq (.reg [⟨(some 20), .bin .eql (.t 9) (.k (.int .i64 1)), none⟩, ⟨(some 19), .mv (.t 20), none⟩] none)
 (.cond (.t 19) (.seq (.reg [⟨(some 21), .mv (.t 0), none⟩, ⟨(some 22), .fa 2 (.t 3), none⟩, ⟨(some 23), .ld none (.t 22), none⟩, ⟨(some 24), .bin .add (.t 23) (.k (.int .i64 1)), none⟩, ⟨(some 25), .call 89 (.k (.fn (.func 29) [] [])) [(.t 21), (.t 24)], none⟩, ⟨(some 26), .fa 4 (.t 3), none⟩, ⟨none, .st 1 (.t 26) (.t 25), none⟩] none)
 (.seq (.reg [⟨(some 27), .fa 4 (.t 3), none⟩, ⟨(some 28), .ld none (.t 27), none⟩, ⟨(some 29), .fa 5 (.t 3), none⟩, ⟨(some 30), .ld none (.t 29), none⟩, ⟨(some 31), .bin .sub (.t 28) (.t 30), none⟩, ⟨(some 32), .conv .i64 (.t 31), none⟩, ⟨(some 33), .bin .leq (.t 32) (.k (.int .i64 0)), none⟩] none)
 (.cond (.t 33) (.reg [⟨(some 34), .fa 7 (.t 3), none⟩, ⟨none, .st 1 (.t 34) (.k (.int .i64 2)), none⟩] none) .skip))) (.seq (.reg [⟨(some 36), .bin .eql (.t 9) (.k (.int .i64 2)), none⟩, ⟨(some 35), .mv (.t 36), none⟩] none)
 (.cond (.t 35) (.reg [⟨(some 37), .mv (.t 0), none⟩, ⟨(some 38), .ld (some 8) (.t 3), none⟩, ⟨(some 39), .fa 5 (.t 3), none⟩, ⟨(some 40), .ld none (.t 39), none⟩, ⟨(some 41), .call 105 (.k (.fn (.func 30) [] [])) [(.t 38), (.t 40)], none⟩, ⟨(some 42), .call 106 (.k (.fn (.func 29) [] [])) [(.t 37), (.t 41)], none⟩, ⟨(some 43), .conv .i64 (.t 42), none⟩, ⟨(some 44), .fa 6 (.t 3), none⟩, ⟨none, .st 1 (.t 44) (.t 43), none⟩] none) (.seq (.reg [⟨(some 46), .bin .eql (.t 9) (.k (.int .i64 3)), none⟩, ⟨(some 45), .mv (.t 46), none⟩] none)
 (.cond (.t 45) (.seq (.reg [⟨(some 48), .mv (.t 0), none⟩, ⟨(some 49), .fa 2 (.t 3), none⟩, ⟨(some 50), .ld none (.t 49), none⟩, ⟨(some 51), .fa 5 (.t 3), none⟩, ⟨(some 52), .ld none (.t 51), none⟩, ⟨(some 53), .fa 5 (.t 3), none⟩, ⟨(some 54), .ld none (.t 53), none⟩, ⟨(some 55), .bin .add (.t 54) (.k (.int .u64 1)), none⟩, ⟨(some 56), .call 120 (.k (.fn (.func 47) [] [])) [(.t 48), (.t 50), (.t 52), (.t 55)], none⟩, ⟨(some 47), .mv (.t 56), none⟩, ⟨(some 57), .ext (.t 47) 0, none⟩, ⟨(some 58), .ext (.t 47) 1, none⟩, ⟨(some 6), .mv (.t 57), none⟩, ⟨(some 7), .mv (.t 58), none⟩] none)
 (.seq (.reg [⟨(some 59), .mv (.t 6), none⟩, ⟨(some 0), .mv (.t 59), none⟩] none)
 (.seq (.reg [⟨(some 60), .fa 7 (.t 3), none⟩, ⟨none, .st 1 (.t 60) (.k (.int .i64 1)), none⟩] none)
 (.seq (.reg [⟨(some 61), .mv (.t 7), none⟩, ⟨(some 62), .un .not (.t 61), none⟩] none)
 (.cond (.t 62) (.seq (.reg [⟨(some 63), .fa 7 (.t 3), none⟩, ⟨none, .st 1 (.t 63) (.k (.int .i64 4)), none⟩] none)
 (.reg [⟨(some 64), .fa 6 (.t 3), none⟩, ⟨none, .st 1 (.t 64) (.k (.int .i64 0)), none⟩] none)) .skip))))) (.seq (.reg [⟨(some 10), .mv (.t 0), none⟩, ⟨(some 11), .ld (some 8) (.t 3), none⟩, ⟨(some 4), .mv (.t 10), none⟩, ⟨none, .st 8 (.t 5) (.t 11), none⟩] (some []))
 .ret)))))))))))
 (.seq (.reg [⟨(some 65), .fa 1 (.t 3), none⟩, ⟨(some 66), .ld none (.t 65), none⟩, ⟨(some 67), .bin .add (.t 66) (.k (.int .i64 1)), none⟩, ⟨(some 68), .fa 1 (.t 3), none⟩, ⟨none, .st 1 (.t 68) (.t 67), none⟩] none)
 (.seq (.reg [⟨(some 69), .mv (.t 0), none⟩, ⟨(some 70), .ld (some 8) (.t 3), none⟩, ⟨(some 4), .mv (.t 69), none⟩, ⟨none, .st 8 (.t 5) (.t 70), none⟩] (some []))
 .ret))))⟩
/-- besom/deque.load -/
def m23 : MFn := ⟨2, 17, [.tmp 4], (.seq (.reg [⟨(some 4), .mv (.k (.int .u64 0)), none⟩] none)
 (.seq (.reg [⟨(some 9), .mv (.t 0), none⟩, ⟨(some 10), .mv (.t 1), none⟩, ⟨(some 11), .bld [(.int .i64 0), (.int .i64 0), (.int .u64 0), (.int .u64 0)] [(0, 1, (.k (.int .i64 1))), (1, 1, (.t 10))], none⟩, ⟨(some 12), .call 76 (.k (.fn (.func 48) [] [])) [(.t 9), (.t 11)], none⟩, ⟨(some 8), .mv (.t 12), none⟩, ⟨(some 13), .ext (.t 8) 0, none⟩, ⟨(some 14), .ext (.t 8) 1, none⟩, ⟨(some 15), .ext (.t 8) 2, none⟩, ⟨(some 5), .mv (.t 13), none⟩, ⟨(some 6), .mv (.t 14), none⟩, ⟨(some 7), .mv (.t 15), none⟩] none)
 (.seq (.reg [⟨(some 16), .mv (.t 6), none⟩, ⟨(some 4), .mv (.t 16), none⟩] none)
 .ret)))⟩
/-- (*besom/deque.Machine).top -/
def m24 : MFn := ⟨1, 7, [.tmp 2], (.seq (.reg [⟨(some 2), .mv (.k (.int .i64 0)), none⟩] none)
 (.seq (.reg [⟨(some 3), .mv (.t 0), none⟩, ⟨(some 4), .nilc (.t 3), none⟩, ⟨(some 5), .fa 2 (.t 4), none⟩, ⟨(some 6), .ld none (.t 5), none⟩, ⟨(some 2), .mv (.t 6), none⟩] none)
 .ret))⟩
/-- (*besom/deque.Machine).bottom -/
def m25 : MFn := ⟨1, 8, [.tmp 2], (.seq (.reg [⟨(some 2), .mv (.k (.int .i64 0)), none⟩] none)
 (.seq (.reg [⟨(some 3), .mv (.t 0), none⟩, ⟨(some 4), .nilc (.t 3), none⟩, ⟨(some 5), .fa 2 (.t 4), none⟩, ⟨(some 6), .ld none (.t 5), none⟩, ⟨(some 7), .bin .add (.t 6) (.k (.int .i64 1)), none⟩, ⟨(some 2), .mv (.t 7), none⟩] none)
 .ret))⟩
/-- besom/deque.above -/
def m26 : MFn := ⟨2, 10, [.tmp 4], (.seq (.reg [⟨(some 4), .mv (.k (.bool false)), none⟩] none)
 (.seq (.reg [⟨(some 5), .mv (.t 0), none⟩, ⟨(some 6), .mv (.t 1), none⟩, ⟨(some 7), .bin .sub (.t 5) (.t 6), none⟩, ⟨(some 8), .conv .i64 (.t 7), none⟩, ⟨(some 9), .bin .gtr (.t 8) (.k (.int .i64 0)), none⟩, ⟨(some 4), .mv (.t 9), none⟩] none)
 .ret))⟩
/-- (*besom/deque.Machine).size -/
def m27 : MFn := ⟨1, 9, [.tmp 2], (.seq (.reg [⟨(some 2), .mv (.k (.int .u64 0)), none⟩] none)
 (.seq (.reg [⟨(some 3), .mv (.t 0), none⟩, ⟨(some 4), .nilc (.t 3), none⟩, ⟨(some 5), .fa 3 (.t 4), none⟩, ⟨(some 6), .ld none (.t 5), none⟩, ⟨(some 7), .mx (.t 6) (.k (.int .i64 1)), none⟩, ⟨(some 8), .conv .u64 (.t 7), none⟩, ⟨(some 2), .mv (.t 8), none⟩] none)
 .ret))⟩
/-- (*besom/deque.Machine).place -/
def m28 : MFn := ⟨2, 16, [.tmp 4], (.seq (.reg [⟨(some 4), .mv (.k (.int .i64 0)), none⟩] none)
 (.seq (.reg [⟨(some 5), .mv (.t 0), none⟩, ⟨(some 6), .nilc (.t 5), none⟩, ⟨(some 7), .fa 2 (.t 6), none⟩, ⟨(some 8), .ld none (.t 7), none⟩, ⟨(some 9), .bin .add (.t 8) (.k (.int .i64 2)), none⟩, ⟨(some 10), .mv (.t 1), none⟩, ⟨(some 11), .mv (.t 0), none⟩, ⟨(some 12), .call 76 (.k (.fn (.func 27) [] [])) [(.t 11)], none⟩, ⟨(some 13), .bin .rem (.t 10) (.t 12), none⟩, ⟨(some 14), .conv .i64 (.t 13), none⟩, ⟨(some 15), .bin .add (.t 9) (.t 14), none⟩, ⟨(some 4), .mv (.t 15), none⟩] (some [(3, 7)]))
 .ret))⟩
/-- besom/besomref07.load -/
def m29 : MFn := ⟨2, 17, [.tmp 4], (.seq (.reg [⟨(some 4), .mv (.k (.int .u64 0)), none⟩] none)
 (.seq (.reg [⟨(some 9), .mv (.t 0), none⟩, ⟨(some 10), .mv (.t 1), none⟩, ⟨(some 11), .bld [(.int .i64 0), (.int .i64 0), (.int .u64 0), (.int .u64 0)] [(0, 1, (.k (.int .i64 1))), (1, 1, (.t 10))], none⟩, ⟨(some 12), .call 76 (.k (.fn (.func 49) [] [])) [(.t 9), (.t 11)], none⟩, ⟨(some 8), .mv (.t 12), none⟩, ⟨(some 13), .ext (.t 8) 0, none⟩, ⟨(some 14), .ext (.t 8) 1, none⟩, ⟨(some 15), .ext (.t 8) 2, none⟩, ⟨(some 5), .mv (.t 13), none⟩, ⟨(some 6), .mv (.t 14), none⟩, ⟨(some 7), .mv (.t 15), none⟩] none)
 (.seq (.reg [⟨(some 16), .mv (.t 6), none⟩, ⟨(some 4), .mv (.t 16), none⟩] none)
 .ret)))⟩
/-- besom/besomref07.place -/
def m30 : MFn := ⟨2, 16, [.tmp 4], (.seq (.reg [⟨(some 2), .box 66 (.t 0), none⟩, ⟨(some 4), .mv (.k (.int .i64 0)), none⟩] none)
 (.seq (.reg [⟨(some 5), .fa 2 (.t 2), none⟩, ⟨(some 6), .ld none (.t 5), none⟩, ⟨(some 7), .bin .add (.t 6) (.k (.int .i64 2)), none⟩, ⟨(some 8), .mv (.t 1), none⟩, ⟨(some 9), .fa 3 (.t 2), none⟩, ⟨(some 10), .ld none (.t 9), none⟩, ⟨(some 11), .mx (.t 10) (.k (.int .i64 1)), none⟩, ⟨(some 12), .conv .u64 (.t 11), none⟩, ⟨(some 13), .bin .rem (.t 8) (.t 12), none⟩, ⟨(some 14), .conv .i64 (.t 13), none⟩, ⟨(some 15), .bin .add (.t 7) (.t 14), none⟩, ⟨(some 4), .mv (.t 15), none⟩] (some [(1, 5)]))
 .ret))⟩
/-- slices.Equal[besom/mem.Mem,uint64] -/
def m31 : MFn := ⟨2, 26, [.tmp 4], (.seq (.reg [⟨(some 4), .mv (.k (.bool false)), none⟩] none)
 (.seq (.seq (.reg [⟨(some 6), .mv (.t 0), none⟩, ⟨(some 7), .len (.t 6), none⟩, ⟨(some 8), .mv (.t 1), none⟩, ⟨(some 9), .len (.t 8), none⟩, ⟨(some 10), .bin .neq (.t 7) (.t 9), none⟩] none)
 (.cond (.t 10) (.seq (.reg [⟨(some 4), .mv (.k (.bool false)), none⟩] none)
 .ret) .skip))
 (.seq (.seq (.reg [⟨(some 11), .mv (.t 0), none⟩, ⟨(some 12), .len (.t 11), none⟩, ⟨(some 13), .mv (.k (.int .i64 0)), none⟩] none)
 (.block 0 (.loop (.seq (.reg [⟨(some 14), .bin .lss (.t 13) (.t 12), none⟩] none)
 (.seq (.cond (.t 14) .skip (.exit 0))
 (.seq (.block 1 (.seq (.reg [⟨(some 15), .mv (.t 13), none⟩, ⟨(some 5), .mv (.t 15), none⟩] none)
 (.seq (.reg [⟨(some 16), .mv (.t 0), none⟩, ⟨(some 17), .mv (.t 5), none⟩, ⟨(some 18), .ixs 1 (.t 16) (.t 17), none⟩, ⟨(some 19), .ld none (.t 18), none⟩, ⟨(some 20), .mv (.t 1), none⟩, ⟨(some 21), .mv (.t 5), none⟩, ⟨(some 22), .ixs 1 (.t 20) (.t 21), none⟩, ⟨(some 23), .ld none (.t 22), none⟩, ⟨(some 24), .bin .neq (.t 19) (.t 23), none⟩] (some [(2, 6), (3, 6), (2, 7), (3, 7)]))
 (.cond (.t 24) (.seq (.reg [⟨(some 4), .mv (.k (.bool false)), none⟩] none)
 .ret) .skip))))
 (.reg [⟨(some 25), .bin .add (.t 13) (.k (.int .i64 1)), none⟩, ⟨(some 13), .mv (.t 25), none⟩] none)))))))
 (.seq (.reg [⟨(some 4), .mv (.k (.bool true)), none⟩] none)
 .ret))))⟩
/-- (*besom/deque.Machine).seeBottom -/
def m32 : MFn := ⟨2, 13, [.tmp 4], (.seq (.reg [⟨(some 4), .mv (.k .nils), none⟩] none)
 (.seq (.reg [⟨(some 5), .mv (.t 0), none⟩, ⟨(some 6), .mv (.t 1), none⟩, ⟨(some 7), .mv (.t 0), none⟩, ⟨(some 8), .call 72 (.k (.fn (.func 25) [] [])) [(.t 7)], none⟩, ⟨(some 9), .call 73 (.k (.fn (.func 23) [] [])) [(.t 6), (.t 8)], none⟩, ⟨(some 10), .nilc (.t 5), none⟩, ⟨(some 11), .fa 4 (.t 10), none⟩, ⟨none, .st 1 (.t 11) (.t 9), none⟩] none)
 (.seq (.reg [⟨(some 12), .mv (.t 1), none⟩, ⟨(some 4), .mv (.t 12), none⟩] none)
 .ret)))⟩
/-- (*besom/deque.Machine).room -/
def m33 : MFn := ⟨2, 27, [.tmp 4], (.seq (.reg [⟨(some 4), .mv (.k .nils), none⟩] none)
 (.seq (.seq (.reg [⟨(some 5), .mv (.t 0), none⟩, ⟨(some 6), .mv (.t 1), none⟩, ⟨(some 7), .mv (.t 0), none⟩, ⟨(some 8), .call 72 (.k (.fn (.func 24) [] [])) [(.t 7)], none⟩, ⟨(some 9), .call 73 (.k (.fn (.func 23) [] [])) [(.t 6), (.t 8)], none⟩, ⟨(some 10), .nilc (.t 5), none⟩, ⟨(some 11), .fa 5 (.t 10), none⟩, ⟨none, .st 1 (.t 11) (.t 9), none⟩] none)
 (.seq (.reg [⟨(some 12), .mv (.t 0), none⟩, ⟨(some 13), .nilc (.t 12), none⟩, ⟨(some 14), .fa 4 (.t 13), none⟩, ⟨(some 15), .ld none (.t 14), none⟩, ⟨(some 16), .mv (.t 0), none⟩, ⟨(some 17), .nilc (.t 16), none⟩, ⟨(some 18), .fa 5 (.t 17), none⟩, ⟨(some 19), .ld none (.t 18), none⟩, ⟨(some 20), .bin .sub (.t 15) (.t 19), none⟩, ⟨(some 21), .mv (.t 0), none⟩, ⟨(some 22), .call 86 (.k (.fn (.func 27) [] [])) [(.t 21)], none⟩, ⟨(some 23), .bin .geq (.t 20) (.t 22), none⟩] (some [(3, 7), (3, 10), (7, 10)]))
 (.cond (.t 23) (.reg [⟨(some 24), .mv (.t 0), none⟩, ⟨(some 25), .call 89 (.k (.fn (.func 50) [] [])) [(.t 24), (.k (.int .i64 3))], none⟩] none) .skip)))
 (.seq (.reg [⟨(some 26), .mv (.t 1), none⟩, ⟨(some 4), .mv (.t 26), none⟩] none)
 .ret)))⟩
/-- (*besom/deque.Machine).put -/
def m34 : MFn := ⟨2, 18, [.tmp 4], (.seq (.reg [⟨(some 4), .mv (.k .nils), none⟩] none)
 (.seq (.reg [⟨(some 5), .mv (.t 1), none⟩, ⟨(some 6), .mv (.t 0), none⟩, ⟨(some 7), .mv (.t 0), none⟩, ⟨(some 8), .nilc (.t 7), none⟩, ⟨(some 9), .fa 4 (.t 8), none⟩, ⟨(some 10), .ld none (.t 9), none⟩, ⟨(some 11), .call 75 (.k (.fn (.func 28) [] [])) [(.t 6), (.t 10)], none⟩, ⟨(some 12), .mv (.t 0), none⟩, ⟨(some 13), .nilc (.t 12), none⟩, ⟨(some 14), .fa 6 (.t 13), none⟩, ⟨(some 15), .ld none (.t 14), none⟩, ⟨(some 16), .conv .u64 (.t 15), none⟩, ⟨(some 17), .call 81 (.k (.fn (.func 51) [] [])) [(.t 5), (.t 11), (.t 16)], none⟩, ⟨(some 4), .mv (.t 17), none⟩] (some [(5, 10), (6, 10)]))
 .ret))⟩
/-- (*besom/deque.Machine).publish -/
def m35 : MFn := ⟨2, 16, [.tmp 4], (.seq (.reg [⟨(some 4), .mv (.k .nils), none⟩] none)
 (.seq (.reg [⟨(some 5), .mv (.t 0), none⟩, ⟨(some 6), .call 70 (.k (.fn (.func 50) [] [])) [(.t 5), (.k (.int .i64 1))], none⟩] none)
 (.seq (.reg [⟨(some 7), .mv (.t 1), none⟩, ⟨(some 8), .mv (.t 0), none⟩, ⟨(some 9), .call 73 (.k (.fn (.func 25) [] [])) [(.t 8)], none⟩, ⟨(some 10), .mv (.t 0), none⟩, ⟨(some 11), .nilc (.t 10), none⟩, ⟨(some 12), .fa 4 (.t 11), none⟩, ⟨(some 13), .ld none (.t 12), none⟩, ⟨(some 14), .bin .add (.t 13) (.k (.int .u64 1)), none⟩, ⟨(some 15), .call 79 (.k (.fn (.func 51) [] [])) [(.t 7), (.t 9), (.t 14)], none⟩, ⟨(some 4), .mv (.t 15), none⟩] (some [(2, 6)]))
 .ret)))⟩
/-- (*besom/deque.Machine).claim -/
def m36 : MFn := ⟨2, 14, [.tmp 4], (.seq (.reg [⟨(some 4), .mv (.k .nils), none⟩] none)
 (.seq (.reg [⟨(some 5), .mv (.t 1), none⟩, ⟨(some 6), .mv (.t 0), none⟩, ⟨(some 7), .call 71 (.k (.fn (.func 25) [] [])) [(.t 6)], none⟩, ⟨(some 8), .mv (.t 0), none⟩, ⟨(some 9), .nilc (.t 8), none⟩, ⟨(some 10), .fa 4 (.t 9), none⟩, ⟨(some 11), .ld none (.t 10), none⟩, ⟨(some 12), .bin .sub (.t 11) (.k (.int .u64 1)), none⟩, ⟨(some 13), .call 77 (.k (.fn (.func 51) [] [])) [(.t 5), (.t 7), (.t 12)], none⟩, ⟨(some 4), .mv (.t 13), none⟩] (some [(2, 6)]))
 .ret))⟩
/-- (*besom/deque.Machine).seeTop -/
def m37 : MFn := ⟨2, 26, [.tmp 4], (.seq (.reg [⟨(some 4), .mv (.k .nils), none⟩] none)
 (.seq (.seq (.reg [⟨(some 5), .mv (.t 0), none⟩, ⟨(some 6), .mv (.t 1), none⟩, ⟨(some 7), .mv (.t 0), none⟩, ⟨(some 8), .call 72 (.k (.fn (.func 24) [] [])) [(.t 7)], none⟩, ⟨(some 9), .call 73 (.k (.fn (.func 23) [] [])) [(.t 6), (.t 8)], none⟩, ⟨(some 10), .nilc (.t 5), none⟩, ⟨(some 11), .fa 5 (.t 10), none⟩, ⟨none, .st 1 (.t 11) (.t 9), none⟩] none)
 (.seq (.reg [⟨(some 12), .mv (.t 0), none⟩, ⟨(some 13), .nilc (.t 12), none⟩, ⟨(some 14), .fa 5 (.t 13), none⟩, ⟨(some 15), .ld none (.t 14), none⟩, ⟨(some 16), .mv (.t 0), none⟩, ⟨(some 17), .nilc (.t 16), none⟩, ⟨(some 18), .fa 4 (.t 17), none⟩, ⟨(some 19), .ld none (.t 18), none⟩, ⟨(some 20), .bin .sub (.t 19) (.k (.int .u64 1)), none⟩, ⟨(some 21), .call 85 (.k (.fn (.func 26) [] [])) [(.t 15), (.t 20)], none⟩] (some [(3, 7)]))
 (.cond (.t 21) (.reg [⟨(some 22), .mv (.t 0), none⟩, ⟨(some 23), .nilc (.t 22), none⟩, ⟨(some 24), .fa 1 (.t 23), none⟩, ⟨none, .st 1 (.t 24) (.k (.int .i64 4)), none⟩] none) .skip)))
 (.seq (.reg [⟨(some 25), .mv (.t 1), none⟩, ⟨(some 4), .mv (.t 25), none⟩] none)
 .ret)))⟩
/-- (*besom/deque.Machine).get -/
def m38 : MFn := ⟨2, 31, [.tmp 4], (.seq (.reg [⟨(some 4), .mv (.k .nils), none⟩] none)
 (.seq (.reg [⟨(some 5), .mv (.t 0), none⟩, ⟨(some 6), .mv (.t 1), none⟩, ⟨(some 7), .mv (.t 0), none⟩, ⟨(some 8), .mv (.t 0), none⟩, ⟨(some 9), .nilc (.t 8), none⟩, ⟨(some 10), .fa 4 (.t 9), none⟩, ⟨(some 11), .ld none (.t 10), none⟩, ⟨(some 12), .bin .sub (.t 11) (.k (.int .u64 1)), none⟩, ⟨(some 13), .call 77 (.k (.fn (.func 28) [] [])) [(.t 7), (.t 12)], none⟩, ⟨(some 14), .call 78 (.k (.fn (.func 23) [] [])) [(.t 6), (.t 13)], none⟩, ⟨(some 15), .conv .i64 (.t 14), none⟩, ⟨(some 16), .nilc (.t 5), none⟩, ⟨(some 17), .fa 6 (.t 16), none⟩, ⟨none, .st 1 (.t 17) (.t 15), none⟩] none)
 (.seq (.seq (.reg [⟨(some 18), .mv (.t 0), none⟩, ⟨(some 19), .nilc (.t 18), none⟩, ⟨(some 20), .fa 5 (.t 19), none⟩, ⟨(some 21), .ld none (.t 20), none⟩, ⟨(some 22), .mv (.t 0), none⟩, ⟨(some 23), .nilc (.t 22), none⟩, ⟨(some 24), .fa 4 (.t 23), none⟩, ⟨(some 25), .ld none (.t 24), none⟩, ⟨(some 26), .bin .sub (.t 25) (.k (.int .u64 1)), none⟩, ⟨(some 27), .bin .neq (.t 21) (.t 26), none⟩] (some [(3, 7)]))
 (.cond (.t 27) (.reg [⟨(some 28), .mv (.t 0), none⟩, ⟨(some 29), .call 93 (.k (.fn (.func 50) [] [])) [(.t 28), (.k (.int .i64 1))], none⟩] none) .skip))
 (.seq (.reg [⟨(some 30), .mv (.t 1), none⟩, ⟨(some 4), .mv (.t 30), none⟩] none)
 .ret))))⟩
/-- (*besom/deque.Machine).race -/
def m39 : MFn := ⟨2, 17, [.tmp 4], (.seq (.reg [⟨(some 4), .mv (.k .nils), none⟩] none)
 (.seq (.reg [⟨(some 7), .mv (.t 0), none⟩, ⟨(some 8), .mv (.t 1), none⟩, ⟨(some 9), .call 73 (.k (.fn (.func 52) [] [])) [(.t 7), (.t 8)], none⟩, ⟨(some 6), .mv (.t 9), none⟩, ⟨(some 10), .ext (.t 6) 0, none⟩, ⟨(some 11), .ext (.t 6) 1, none⟩, ⟨(some 1), .mv (.t 10), none⟩, ⟨(some 5), .mv (.t 11), none⟩] none)
 (.seq (.seq (.reg [⟨(some 12), .mv (.t 5), none⟩] none)
 (.cond (.t 12) (.reg [⟨(some 13), .mv (.t 0), none⟩, ⟨(some 14), .nilc (.t 13), none⟩, ⟨(some 15), .fa 1 (.t 14), none⟩, ⟨none, .st 1 (.t 15) (.k (.int .i64 5)), none⟩] none) .skip))
 (.seq (.reg [⟨(some 16), .mv (.t 1), none⟩, ⟨(some 4), .mv (.t 16), none⟩] none)
 .ret))))⟩
/-- (*besom/deque.Machine).fail -/
def m40 : MFn := ⟨2, 15, [.tmp 4], (.seq (.reg [⟨(some 4), .mv (.k .nils), none⟩] none)
 (.seq (.reg [⟨(some 5), .mv (.t 0), none⟩, ⟨(some 6), .call 70 (.k (.fn (.func 50) [] [])) [(.t 5), (.k (.int .i64 2))], none⟩] none)
 (.seq (.reg [⟨(some 7), .mv (.t 1), none⟩, ⟨(some 8), .mv (.t 0), none⟩, ⟨(some 9), .call 73 (.k (.fn (.func 25) [] [])) [(.t 8)], none⟩, ⟨(some 10), .mv (.t 0), none⟩, ⟨(some 11), .nilc (.t 10), none⟩, ⟨(some 12), .fa 4 (.t 11), none⟩, ⟨(some 13), .ld none (.t 12), none⟩, ⟨(some 14), .call 78 (.k (.fn (.func 51) [] [])) [(.t 7), (.t 9), (.t 13)], none⟩, ⟨(some 4), .mv (.t 14), none⟩] (some [(2, 6)]))
 .ret)))⟩
/-- (*besom/deque.Machine).won -/
def m41 : MFn := ⟨2, 15, [.tmp 4], (.seq (.reg [⟨(some 4), .mv (.k .nils), none⟩] none)
 (.seq (.reg [⟨(some 5), .mv (.t 0), none⟩, ⟨(some 6), .call 70 (.k (.fn (.func 50) [] [])) [(.t 5), (.k (.int .i64 1))], none⟩] none)
 (.seq (.reg [⟨(some 7), .mv (.t 1), none⟩, ⟨(some 8), .mv (.t 0), none⟩, ⟨(some 9), .call 73 (.k (.fn (.func 25) [] [])) [(.t 8)], none⟩, ⟨(some 10), .mv (.t 0), none⟩, ⟨(some 11), .nilc (.t 10), none⟩, ⟨(some 12), .fa 4 (.t 11), none⟩, ⟨(some 13), .ld none (.t 12), none⟩, ⟨(some 14), .call 78 (.k (.fn (.func 51) [] [])) [(.t 7), (.t 9), (.t 13)], none⟩, ⟨(some 4), .mv (.t 14), none⟩] (some [(2, 6)]))
 .ret)))⟩
/-- (*besom/deque.Machine).aim -/
def m42 : MFn := ⟨2, 13, [.tmp 4], (.seq (.reg [⟨(some 4), .mv (.k .nils), none⟩] none)
 (.seq (.reg [⟨(some 5), .mv (.t 0), none⟩, ⟨(some 6), .mv (.t 1), none⟩, ⟨(some 7), .mv (.t 0), none⟩, ⟨(some 8), .call 72 (.k (.fn (.func 24) [] [])) [(.t 7)], none⟩, ⟨(some 9), .call 73 (.k (.fn (.func 23) [] [])) [(.t 6), (.t 8)], none⟩, ⟨(some 10), .nilc (.t 5), none⟩, ⟨(some 11), .fa 5 (.t 10), none⟩, ⟨none, .st 1 (.t 11) (.t 9), none⟩] none)
 (.seq (.reg [⟨(some 12), .mv (.t 1), none⟩, ⟨(some 4), .mv (.t 12), none⟩] none)
 .ret)))⟩
/-- (*besom/deque.Machine).any -/
def m43 : MFn := ⟨2, 26, [.tmp 4], (.seq (.reg [⟨(some 4), .mv (.k .nils), none⟩] none)
 (.seq (.seq (.reg [⟨(some 5), .mv (.t 0), none⟩, ⟨(some 6), .mv (.t 1), none⟩, ⟨(some 7), .mv (.t 0), none⟩, ⟨(some 8), .call 72 (.k (.fn (.func 25) [] [])) [(.t 7)], none⟩, ⟨(some 9), .call 73 (.k (.fn (.func 23) [] [])) [(.t 6), (.t 8)], none⟩, ⟨(some 10), .nilc (.t 5), none⟩, ⟨(some 11), .fa 4 (.t 10), none⟩, ⟨none, .st 1 (.t 11) (.t 9), none⟩] none)
 (.seq (.reg [⟨(some 12), .mv (.t 0), none⟩, ⟨(some 13), .nilc (.t 12), none⟩, ⟨(some 14), .fa 4 (.t 13), none⟩, ⟨(some 15), .ld none (.t 14), none⟩, ⟨(some 16), .mv (.t 0), none⟩, ⟨(some 17), .nilc (.t 16), none⟩, ⟨(some 18), .fa 5 (.t 17), none⟩, ⟨(some 19), .ld none (.t 18), none⟩, ⟨(some 20), .call 84 (.k (.fn (.func 26) [] [])) [(.t 15), (.t 19)], none⟩, ⟨(some 21), .un .not (.t 20), none⟩] (some [(3, 7)]))
 (.cond (.t 21) (.reg [⟨(some 22), .mv (.t 0), none⟩, ⟨(some 23), .nilc (.t 22), none⟩, ⟨(some 24), .fa 7 (.t 23), none⟩, ⟨none, .st 1 (.t 24) (.k (.int .i64 2)), none⟩] none) .skip)))
 (.seq (.reg [⟨(some 25), .mv (.t 1), none⟩, ⟨(some 4), .mv (.t 25), none⟩] none)
 .ret)))⟩
/-- (*besom/deque.Machine).peek -/
def m44 : MFn := ⟨2, 18, [.tmp 4], (.seq (.reg [⟨(some 4), .mv (.k .nils), none⟩] none)
 (.seq (.reg [⟨(some 5), .mv (.t 0), none⟩, ⟨(some 6), .mv (.t 1), none⟩, ⟨(some 7), .mv (.t 0), none⟩, ⟨(some 8), .mv (.t 0), none⟩, ⟨(some 9), .nilc (.t 8), none⟩, ⟨(some 10), .fa 5 (.t 9), none⟩, ⟨(some 11), .ld none (.t 10), none⟩, ⟨(some 12), .call 76 (.k (.fn (.func 28) [] [])) [(.t 7), (.t 11)], none⟩, ⟨(some 13), .call 77 (.k (.fn (.func 23) [] [])) [(.t 6), (.t 12)], none⟩, ⟨(some 14), .conv .i64 (.t 13), none⟩, ⟨(some 15), .nilc (.t 5), none⟩, ⟨(some 16), .fa 6 (.t 15), none⟩, ⟨none, .st 1 (.t 16) (.t 14), none⟩] none)
 (.seq (.reg [⟨(some 17), .mv (.t 1), none⟩, ⟨(some 4), .mv (.t 17), none⟩] none)
 .ret)))⟩
/-- (*besom/deque.Machine).snatch -/
def m45 : MFn := ⟨2, 18, [.tmp 4], (.seq (.reg [⟨(some 4), .mv (.k .nils), none⟩] none)
 (.seq (.reg [⟨(some 7), .mv (.t 0), none⟩, ⟨(some 8), .mv (.t 1), none⟩, ⟨(some 9), .call 73 (.k (.fn (.func 52) [] [])) [(.t 7), (.t 8)], none⟩, ⟨(some 6), .mv (.t 9), none⟩, ⟨(some 10), .ext (.t 6) 0, none⟩, ⟨(some 11), .ext (.t 6) 1, none⟩, ⟨(some 1), .mv (.t 10), none⟩, ⟨(some 5), .mv (.t 11), none⟩] none)
 (.seq (.seq (.reg [⟨(some 12), .mv (.t 5), none⟩] none)
 (.cond (.t 12) (.reg [⟨(some 13), .mv (.t 0), none⟩, ⟨(some 14), .call 78 (.k (.fn (.func 50) [] [])) [(.t 13), (.k (.int .i64 1))], none⟩] none) (.reg [⟨(some 15), .mv (.t 0), none⟩, ⟨(some 16), .call 80 (.k (.fn (.func 50) [] [])) [(.t 15), (.k (.int .i64 4))], none⟩] none)))
 (.seq (.reg [⟨(some 17), .mv (.t 1), none⟩, ⟨(some 4), .mv (.t 17), none⟩] none)
 .ret))))⟩
/-- besom/besomref07.store -/
def m46 : MFn := ⟨3, 20, [.tmp 6], (.seq (.reg [⟨(some 6), .mv (.k .nils), none⟩] none)
 (.seq (.reg [⟨(some 11), .mv (.t 0), none⟩, ⟨(some 12), .mv (.t 1), none⟩, ⟨(some 13), .mv (.t 2), none⟩, ⟨(some 14), .bld [(.int .i64 0), (.int .i64 0), (.int .u64 0), (.int .u64 0)] [(0, 1, (.k (.int .i64 2))), (1, 1, (.t 12)), (2, 1, (.t 13))], none⟩, ⟨(some 15), .call 79 (.k (.fn (.func 49) [] [])) [(.t 11), (.t 14)], none⟩, ⟨(some 10), .mv (.t 15), none⟩, ⟨(some 16), .ext (.t 10) 0, none⟩, ⟨(some 17), .ext (.t 10) 1, none⟩, ⟨(some 18), .ext (.t 10) 2, none⟩, ⟨(some 7), .mv (.t 16), none⟩, ⟨(some 8), .mv (.t 17), none⟩, ⟨(some 9), .mv (.t 18), none⟩] none)
 (.seq (.reg [⟨(some 19), .mv (.t 7), none⟩, ⟨(some 6), .mv (.t 19), none⟩] none)
 .ret)))⟩
/-- besom/besomref07.swap -/
def m47 : MFn := ⟨4, 25, [.tmp 8, .tmp 9], (.seq (.reg [⟨(some 8), .mv (.k .nils), none⟩, ⟨(some 9), .mv (.k (.bool false)), none⟩] none)
 (.seq (.reg [⟨(some 14), .mv (.t 0), none⟩, ⟨(some 15), .mv (.t 1), none⟩, ⟨(some 16), .mv (.t 2), none⟩, ⟨(some 17), .mv (.t 3), none⟩, ⟨(some 18), .bld [(.int .i64 0), (.int .i64 0), (.int .u64 0), (.int .u64 0)] [(0, 1, (.k (.int .i64 3))), (1, 1, (.t 15)), (2, 1, (.t 16)), (3, 1, (.t 17))], none⟩, ⟨(some 19), .call 83 (.k (.fn (.func 49) [] [])) [(.t 14), (.t 18)], none⟩, ⟨(some 13), .mv (.t 19), none⟩, ⟨(some 20), .ext (.t 13) 0, none⟩, ⟨(some 21), .ext (.t 13) 1, none⟩, ⟨(some 22), .ext (.t 13) 2, none⟩, ⟨(some 10), .mv (.t 20), none⟩, ⟨(some 11), .mv (.t 21), none⟩, ⟨(some 12), .mv (.t 22), none⟩] none)
 (.seq (.reg [⟨(some 23), .mv (.t 10), none⟩, ⟨(some 24), .mv (.t 12), none⟩, ⟨(some 8), .mv (.t 23), none⟩, ⟨(some 9), .mv (.t 24), none⟩] none)
 .ret)))⟩
/-- besom/mem.Do -/
def m48 : MFn := ⟨2, 61, [.tmp 4, .tmp 5, .tmp 6], (.seq (.reg [⟨(some 3), .box 67 (.t 1), none⟩, ⟨(some 4), .mv (.k .nils), none⟩, ⟨(some 5), .mv (.k (.int .u64 0)), none⟩, ⟨(some 6), .mv (.k (.bool false)), none⟩] none)
 (.seq (.reg [⟨(some 11), .mkm 75, none⟩, ⟨none, .ins (.t 11) (.k (.int .i64 1)) (.k (.fn (.func 53) [] [])), none⟩, ⟨(some 12), .mkf (.func 54) [] [(.t 3)], none⟩, ⟨none, .ins (.t 11) (.k (.int .i64 2)) (.t 12), none⟩, ⟨(some 13), .mkf (.func 55) [] [(.t 3)], none⟩, ⟨none, .ins (.t 11) (.k (.int .i64 3)) (.t 13), none⟩, ⟨(some 14), .mkf (.func 56) [] [(.t 3)], none⟩, ⟨none, .ins (.t 11) (.k (.int .i64 4)) (.t 14), none⟩, ⟨(some 15), .mv (.t 11), none⟩, ⟨(some 16), .fa 0 (.t 3), none⟩, ⟨(some 17), .ld none (.t 16), none⟩, ⟨(some 18), .lkp .nilfn false (.t 15) (.t 17), none⟩, ⟨(some 7), .mv (.t 18), none⟩] none)
 (.seq (.seq (.reg [⟨(some 19), .fa 1 (.t 3), none⟩, ⟨(some 20), .ld none (.t 19), none⟩, ⟨(some 21), .bin .lss (.t 20) (.k (.int .i64 0)), none⟩, ⟨(some 22), .mv (.t 21), none⟩, ⟨(some 23), .fa 1 (.t 3), (some (22, false))⟩, ⟨(some 24), .ld none (.t 23), (some (22, false))⟩, ⟨(some 25), .mv (.t 0), (some (22, false))⟩, ⟨(some 26), .len (.t 25), (some (22, false))⟩, ⟨(some 27), .bin .geq (.t 24) (.t 26), (some (22, false))⟩, ⟨(some 28), .pick (.t 22) (.k (.bool true)) (.t 27), none⟩, ⟨(some 29), .mv (.t 28), none⟩, ⟨(some 30), .mv (.t 7), (some (29, false))⟩, ⟨(some 31), .isn 1 false (.t 30), (some (29, false))⟩, ⟨(some 32), .pick (.t 29) (.k (.bool true)) (.t 31), none⟩] none)
 (.cond (.t 32) (.seq (.reg [⟨(some 33), .mv (.t 0), none⟩, ⟨(some 4), .mv (.t 33), none⟩, ⟨(some 5), .mv (.k (.int .u64 0)), none⟩, ⟨(some 6), .mv (.k (.bool false)), none⟩] none)
 .ret) .skip))
 (.seq (.reg [⟨(some 34), .mv (.t 0), none⟩, ⟨(some 35), .fa 1 (.t 3), none⟩, ⟨(some 36), .ld none (.t 35), none⟩, ⟨(some 37), .ixs 1 (.t 34) (.t 36), none⟩, ⟨(some 38), .ld none (.t 37), none⟩, ⟨(some 8), .mv (.t 38), none⟩] none)
 (.seq (.reg [⟨(some 40), .mv (.t 7), none⟩, ⟨(some 41), .mv (.t 8), none⟩, ⟨(some 42), .call 106 (.t 40) [(.t 41)], none⟩, ⟨(some 39), .mv (.t 42), none⟩, ⟨(some 43), .ext (.t 39) 0, none⟩, ⟨(some 44), .ext (.t 39) 1, none⟩, ⟨(some 9), .mv (.t 43), none⟩, ⟨(some 10), .mv (.t 44), none⟩] none)
 (.seq (.seq (.reg [⟨(some 45), .mv (.t 10), none⟩, ⟨(some 46), .mv (.t 45), none⟩, ⟨(some 47), .mv (.t 8), (some (46, true))⟩, ⟨(some 48), .mv (.t 9), (some (46, true))⟩, ⟨(some 49), .bin .neq (.t 47) (.t 48), (some (46, true))⟩, ⟨(some 50), .pick (.t 46) (.t 49) (.k (.bool false)), none⟩] none)
 (.cond (.t 50) (.seq (.reg [⟨(some 51), .mv (.t 0), none⟩, ⟨(some 52), .call 116 (.k (.fn (.func 57) [] [])) [(.t 51)], none⟩, ⟨(some 0), .mv (.t 52), none⟩] none)
 (.reg [⟨(some 53), .mv (.t 0), none⟩, ⟨(some 54), .fa 1 (.t 3), none⟩, ⟨(some 55), .ld none (.t 54), none⟩, ⟨(some 56), .mv (.t 9), none⟩, ⟨(some 57), .ixs 1 (.t 53) (.t 55), none⟩, ⟨none, .st 1 (.t 57) (.t 56), none⟩] none)) .skip))
 (.seq (.reg [⟨(some 58), .mv (.t 0), none⟩, ⟨(some 59), .mv (.t 8), none⟩, ⟨(some 60), .mv (.t 10), none⟩, ⟨(some 4), .mv (.t 58), none⟩, ⟨(some 5), .mv (.t 59), none⟩, ⟨(some 6), .mv (.t 60), none⟩] none)
 .ret)))))))⟩
/-- besom/besomref05.Do -/
def m49 : MFn := ⟨2, 83, [.tmp 4, .tmp 5, .tmp 6], (.seq (.reg [⟨(some 3), .box 67 (.t 1), none⟩, ⟨(some 4), .mv (.k .nils), none⟩, ⟨(some 5), .mv (.k (.int .u64 0)), none⟩, ⟨(some 6), .mv (.k (.bool false)), none⟩] none)
 (.seq (.seq (.reg [⟨(some 9), .fa 1 (.t 3), none⟩, ⟨(some 10), .ld none (.t 9), none⟩, ⟨(some 11), .bin .lss (.t 10) (.k (.int .i64 0)), none⟩, ⟨(some 12), .mv (.t 11), none⟩, ⟨(some 13), .fa 1 (.t 3), (some (12, false))⟩, ⟨(some 14), .ld none (.t 13), (some (12, false))⟩, ⟨(some 15), .mv (.t 0), (some (12, false))⟩, ⟨(some 16), .len (.t 15), (some (12, false))⟩, ⟨(some 17), .bin .geq (.t 14) (.t 16), (some (12, false))⟩, ⟨(some 18), .pick (.t 12) (.k (.bool true)) (.t 17), none⟩, ⟨(some 19), .mv (.t 18), none⟩, ⟨(some 20), .fa 0 (.t 3), (some (19, false))⟩, ⟨(some 21), .ld none (.t 20), (some (19, false))⟩, ⟨(some 22), .bin .lss (.t 21) (.k (.int .i64 1)), (some (19, false))⟩, ⟨(some 23), .pick (.t 19) (.k (.bool true)) (.t 22), none⟩, ⟨(some 24), .mv (.t 23), none⟩, ⟨(some 25), .fa 0 (.t 3), (some (24, false))⟩, ⟨(some 26), .ld none (.t 25), (some (24, false))⟩, ⟨(some 27), .bin .gtr (.t 26) (.k (.int .i64 4)), (some (24, false))⟩, ⟨(some 28), .pick (.t 24) (.k (.bool true)) (.t 27), none⟩] none)
 (.cond (.t 28) (.seq (.reg [⟨(some 29), .mv (.t 0), none⟩, ⟨(some 4), .mv (.t 29), none⟩, ⟨(some 5), .mv (.k (.int .u64 0)), none⟩, ⟨(some 6), .mv (.k (.bool false)), none⟩] none)
 .ret) .skip))
 (.seq (.reg [⟨(some 30), .mv (.t 0), none⟩, ⟨(some 31), .fa 1 (.t 3), none⟩, ⟨(some 32), .ld none (.t 31), none⟩, ⟨(some 33), .ixs 1 (.t 30) (.t 32), none⟩, ⟨(some 34), .ld none (.t 33), none⟩, ⟨(some 7), .mv (.t 34), none⟩] none)
 (.seq (.seq (.reg [⟨(some 35), .fa 0 (.t 3), none⟩, ⟨(some 36), .ld none (.t 35), none⟩, ⟨(some 37), .bin .eql (.t 36) (.k (.int .i64 1)), none⟩] none)
 (.cond (.t 37) (.seq (.reg [⟨(some 38), .mv (.t 0), none⟩, ⟨(some 39), .mv (.t 7), none⟩, ⟨(some 4), .mv (.t 38), none⟩, ⟨(some 5), .mv (.t 39), none⟩, ⟨(some 6), .mv (.k (.bool true)), none⟩] none)
 .ret) .skip))
 (.seq (.seq (.reg [⟨(some 40), .fa 0 (.t 3), none⟩, ⟨(some 41), .ld none (.t 40), none⟩, ⟨(some 42), .bin .eql (.t 41) (.k (.int .i64 3)), none⟩, ⟨(some 43), .mv (.t 42), none⟩, ⟨(some 44), .mv (.t 7), (some (43, true))⟩, ⟨(some 45), .fa 2 (.t 3), (some (43, true))⟩, ⟨(some 46), .ld none (.t 45), (some (43, true))⟩, ⟨(some 47), .bin .neq (.t 44) (.t 46), (some (43, true))⟩, ⟨(some 48), .pick (.t 43) (.t 47) (.k (.bool false)), none⟩] none)
 (.cond (.t 48) (.seq (.reg [⟨(some 49), .mv (.t 0), none⟩, ⟨(some 50), .mv (.t 7), none⟩, ⟨(some 4), .mv (.t 49), none⟩, ⟨(some 5), .mv (.t 50), none⟩, ⟨(some 6), .mv (.k (.bool false)), none⟩] none)
 .ret) .skip))
 (.seq (.reg [⟨(some 51), .mv (.t 0), none⟩, ⟨(some 52), .app 116 1 8 (.k .nils) (.t 51), none⟩, ⟨(some 8), .mv (.t 52), none⟩] none)
 (.seq (.seq (.reg [⟨(some 53), .fa 0 (.t 3), none⟩, ⟨(some 54), .ld none (.t 53), none⟩] none)
 (.block 0 (.seq (.reg [⟨(some 56), .bin .eql (.t 54) (.k (.int .i64 2)), none⟩, ⟨(some 55), .mv (.t 56), none⟩] none)
 (.cond (.t 55) (.reg [⟨(some 57), .mv (.t 8), none⟩, ⟨(some 58), .fa 1 (.t 3), none⟩, ⟨(some 59), .ld none (.t 58), none⟩, ⟨(some 60), .fa 2 (.t 3), none⟩, ⟨(some 61), .ld none (.t 60), none⟩, ⟨(some 62), .ixs 1 (.t 57) (.t 59), none⟩, ⟨none, .st 1 (.t 62) (.t 61), none⟩] none) (.seq (.reg [⟨(some 64), .bin .eql (.t 54) (.k (.int .i64 3)), none⟩, ⟨(some 63), .mv (.t 64), none⟩] none)
 (.cond (.t 63) (.reg [⟨(some 65), .mv (.t 8), none⟩, ⟨(some 66), .fa 1 (.t 3), none⟩, ⟨(some 67), .ld none (.t 66), none⟩, ⟨(some 68), .fa 3 (.t 3), none⟩, ⟨(some 69), .ld none (.t 68), none⟩, ⟨(some 70), .ixs 1 (.t 65) (.t 67), none⟩, ⟨none, .st 1 (.t 70) (.t 69), none⟩] none) (.seq (.reg [⟨(some 72), .bin .eql (.t 54) (.k (.int .i64 4)), none⟩, ⟨(some 71), .mv (.t 72), none⟩] none)
 (.cond (.t 71) (.reg [⟨(some 73), .mv (.t 8), none⟩, ⟨(some 74), .fa 1 (.t 3), none⟩, ⟨(some 75), .ld none (.t 74), none⟩, ⟨(some 76), .mv (.t 7), none⟩, ⟨(some 77), .fa 2 (.t 3), none⟩, ⟨(some 78), .ld none (.t 77), none⟩, ⟨(some 79), .bin .add (.t 76) (.t 78), none⟩, ⟨(some 80), .ixs 1 (.t 73) (.t 75), none⟩, ⟨none, .st 1 (.t 80) (.t 79), none⟩] none) .skip))))))))
 (.seq (.reg [⟨(some 81), .mv (.t 8), none⟩, ⟨(some 82), .mv (.t 7), none⟩, ⟨(some 4), .mv (.t 81), none⟩, ⟨(some 5), .mv (.t 82), none⟩, ⟨(some 6), .mv (.k (.bool true)), none⟩] none)
 .ret))))))))⟩
/-- (*besom/deque.Machine).end -/
def m50 : MFn := ⟨2, 20, [], (.seq (.reg [⟨(some 4), .mv (.t 0), none⟩, ⟨(some 5), .mv (.t 1), none⟩, ⟨(some 6), .nilc (.t 4), none⟩, ⟨(some 7), .fa 7 (.t 6), none⟩, ⟨none, .st 1 (.t 7) (.t 5), none⟩] none)
 (.seq (.reg [⟨(some 8), .mv (.t 1), none⟩, ⟨(some 9), .bin .neq (.t 8) (.k (.int .i64 1)), none⟩, ⟨(some 10), .mv (.t 9), none⟩, ⟨(some 11), .mv (.t 0), (some (10, true))⟩, ⟨(some 12), .nilc (.t 11), (some (10, true))⟩, ⟨(some 13), .fa 0 (.t 12), (some (10, true))⟩, ⟨(some 14), .ld none (.t 13), (some (10, true))⟩, ⟨(some 15), .bin .neq (.t 14) (.k (.int .i64 1)), (some (10, true))⟩, ⟨(some 16), .pick (.t 10) (.t 15) (.k (.bool false)), none⟩] none)
 (.cond (.t 16) (.reg [⟨(some 17), .mv (.t 0), none⟩, ⟨(some 18), .nilc (.t 17), none⟩, ⟨(some 19), .fa 6 (.t 18), none⟩, ⟨none, .st 1 (.t 19) (.k (.int .i64 0)), none⟩] none) .skip)))⟩
/-- besom/deque.store -/
def m51 : MFn := ⟨3, 17, [.tmp 6], (.seq (.reg [⟨(some 6), .mv (.k .nils), none⟩] none)
 (.seq (.reg [⟨(some 8), .mv (.t 0), none⟩, ⟨(some 9), .mv (.t 1), none⟩, ⟨(some 10), .mv (.t 2), none⟩, ⟨(some 11), .bld [(.int .i64 0), (.int .i64 0), (.int .u64 0), (.int .u64 0)] [(0, 1, (.k (.int .i64 2))), (1, 1, (.t 9)), (2, 1, (.t 10))], none⟩, ⟨(some 12), .call 76 (.k (.fn (.func 48) [] [])) [(.t 8), (.t 11)], none⟩, ⟨(some 7), .mv (.t 12), none⟩, ⟨(some 13), .ext (.t 7) 0, none⟩, ⟨(some 14), .ext (.t 7) 1, none⟩, ⟨(some 15), .ext (.t 7) 2, none⟩, ⟨(some 0), .mv (.t 13), none⟩] none)
 (.seq (.reg [⟨(some 16), .mv (.t 0), none⟩, ⟨(some 6), .mv (.t 16), none⟩] none)
 .ret)))⟩
/-- (*besom/deque.Machine).take -/
def m52 : MFn := ⟨2, 28, [.tmp 4, .tmp 5], (.seq (.reg [⟨(some 4), .mv (.k .nils), none⟩, ⟨(some 5), .mv (.k (.bool false)), none⟩] none)
 (.seq (.reg [⟨(some 9), .mv (.t 1), none⟩, ⟨(some 10), .mv (.t 0), none⟩, ⟨(some 11), .call 75 (.k (.fn (.func 24) [] [])) [(.t 10)], none⟩, ⟨(some 12), .mv (.t 0), none⟩, ⟨(some 13), .nilc (.t 12), none⟩, ⟨(some 14), .fa 5 (.t 13), none⟩, ⟨(some 15), .ld none (.t 14), none⟩, ⟨(some 16), .mv (.t 0), none⟩, ⟨(some 17), .nilc (.t 16), none⟩, ⟨(some 18), .fa 5 (.t 17), none⟩, ⟨(some 19), .ld none (.t 18), none⟩, ⟨(some 20), .bin .add (.t 19) (.k (.int .u64 1)), none⟩, ⟨(some 21), .bld [(.int .i64 0), (.int .i64 0), (.int .u64 0), (.int .u64 0)] [(0, 1, (.k (.int .i64 3))), (1, 1, (.t 11)), (2, 1, (.t 15)), (3, 1, (.t 20))], none⟩, ⟨(some 22), .call 86 (.k (.fn (.func 48) [] [])) [(.t 9), (.t 21)], none⟩, ⟨(some 8), .mv (.t 22), none⟩, ⟨(some 23), .ext (.t 8) 0, none⟩, ⟨(some 24), .ext (.t 8) 1, none⟩, ⟨(some 25), .ext (.t 8) 2, none⟩, ⟨(some 1), .mv (.t 23), none⟩, ⟨(some 6), .mv (.t 24), none⟩, ⟨(some 7), .mv (.t 25), none⟩] (some [(2, 6), (2, 10), (6, 10)]))
 (.seq (.reg [⟨(some 26), .mv (.t 1), none⟩, ⟨(some 27), .mv (.t 7), none⟩, ⟨(some 4), .mv (.t 26), none⟩, ⟨(some 5), .mv (.t 27), none⟩] none)
 .ret)))⟩
/-- besom/mem.Do$1 -/
def m53 : MFn := ⟨1, 5, [.tmp 2, .tmp 3], (.seq (.reg [⟨(some 2), .mv (.k (.int .u64 0)), none⟩, ⟨(some 3), .mv (.k (.bool false)), none⟩] none)
 (.seq (.reg [⟨(some 4), .mv (.t 0), none⟩, ⟨(some 2), .mv (.t 4), none⟩, ⟨(some 3), .mv (.k (.bool true)), none⟩] none)
 .ret))⟩
/-- besom/mem.Do$2 -/
def m54 : MFn := ⟨2, 7, [.tmp 3, .tmp 4], (.seq (.reg [⟨(some 3), .mv (.k (.int .u64 0)), none⟩, ⟨(some 4), .mv (.k (.bool false)), none⟩] none)
 (.seq (.reg [⟨(some 5), .fa 2 (.t 1), none⟩, ⟨(some 6), .ld none (.t 5), none⟩, ⟨(some 3), .mv (.t 6), none⟩, ⟨(some 4), .mv (.k (.bool true)), none⟩] none)
 .ret))⟩
/-- besom/mem.Do$3 -/
def m55 : MFn := ⟨2, 11, [.tmp 3, .tmp 4], (.seq (.reg [⟨(some 3), .mv (.k (.int .u64 0)), none⟩, ⟨(some 4), .mv (.k (.bool false)), none⟩] none)
 (.seq (.reg [⟨(some 5), .fa 3 (.t 1), none⟩, ⟨(some 6), .ld none (.t 5), none⟩, ⟨(some 7), .mv (.t 0), none⟩, ⟨(some 8), .fa 2 (.t 1), none⟩, ⟨(some 9), .ld none (.t 8), none⟩, ⟨(some 10), .bin .eql (.t 7) (.t 9), none⟩, ⟨(some 3), .mv (.t 6), none⟩, ⟨(some 4), .mv (.t 10), none⟩] (some [(1, 4)]))
 .ret))⟩
/-- besom/mem.Do$4 -/
def m56 : MFn := ⟨2, 9, [.tmp 3, .tmp 4], (.seq (.reg [⟨(some 3), .mv (.k (.int .u64 0)), none⟩, ⟨(some 4), .mv (.k (.bool false)), none⟩] none)
 (.seq (.reg [⟨(some 5), .mv (.t 0), none⟩, ⟨(some 6), .fa 2 (.t 1), none⟩, ⟨(some 7), .ld none (.t 6), none⟩, ⟨(some 8), .bin .add (.t 5) (.t 7), none⟩, ⟨(some 3), .mv (.t 8), none⟩, ⟨(some 4), .mv (.k (.bool true)), none⟩] none)
 .ret))⟩
/-- slices.Clone[besom/mem.Mem,uint64] -/
def m57 : MFn := ⟨1, 8, [.tmp 2], (.seq (.reg [⟨(some 2), .mv (.k .nils), none⟩] none)
 (.seq (.seq (.reg [⟨(some 3), .mv (.t 0), none⟩, ⟨(some 4), .isn 0 false (.t 3), none⟩] none)
 (.cond (.t 4) (.seq (.reg [⟨(some 2), .mv (.k .nils), none⟩] none)
 .ret) .skip))
 (.seq (.reg [⟨(some 5), .bslt 1 [], none⟩, ⟨(some 6), .mv (.t 0), none⟩, ⟨(some 7), .app 71 1 8 (.t 5) (.t 6), none⟩, ⟨(some 2), .mv (.t 7), none⟩] none)
 .ret)))⟩

theorem low3 : lowFn Try.prog Try.f3 = some m3 := by kernel_rfl
theorem low4 : lowFn Try.prog Try.f4 = some m4 := by kernel_rfl
theorem low5 : lowFn Try.prog Try.f5 = some m5 := by kernel_rfl
theorem low6 : lowFn Try.prog Try.f6 = some m6 := by kernel_rfl
theorem low7 : lowFn Try.prog Try.f7 = some m7 := by kernel_rfl
theorem low8 : lowFn Try.prog Try.f8 = some m8 := by kernel_rfl
theorem low9 : lowFn Try.prog Try.f9 = some m9 := by kernel_rfl
theorem low10 : lowFn Try.prog Try.f10 = some m10 := by kernel_rfl
theorem low11 : lowFn Try.prog Try.f11 = some m11 := by kernel_rfl
theorem low12 : lowFn Try.prog Try.f12 = some m12 := by kernel_rfl
theorem low13 : lowFn Try.prog Try.f13 = some m13 := by kernel_rfl
theorem low14 : lowFn Try.prog Try.f14 = some m14 := by kernel_rfl
theorem low15 : lowFn Try.prog Try.f15 = some m15 := by kernel_rfl
theorem low16 : lowFn Try.prog Try.f16 = some m16 := by kernel_rfl
theorem low17 : lowFn Try.prog Try.f17 = some m17 := by kernel_rfl
theorem low18 : lowFn Try.prog Try.f18 = some m18 := by kernel_rfl
theorem low19 : lowFn Try.prog Try.f19 = some m19 := by kernel_rfl
theorem low20 : lowFn Try.prog Try.f20 = some m20 := by kernel_rfl
theorem low21 : lowFn Try.prog Try.f21 = some m21 := by kernel_rfl
theorem low22 : lowFn Try.prog Try.f22 = some m22 := by kernel_rfl
theorem low23 : lowFn Try.prog Try.f23 = some m23 := by kernel_rfl
theorem low24 : lowFn Try.prog Try.f24 = some m24 := by kernel_rfl
theorem low25 : lowFn Try.prog Try.f25 = some m25 := by kernel_rfl
theorem low26 : lowFn Try.prog Try.f26 = some m26 := by kernel_rfl
theorem low27 : lowFn Try.prog Try.f27 = some m27 := by kernel_rfl
theorem low28 : lowFn Try.prog Try.f28 = some m28 := by kernel_rfl
theorem low29 : lowFn Try.prog Try.f29 = some m29 := by kernel_rfl
theorem low30 : lowFn Try.prog Try.f30 = some m30 := by kernel_rfl
theorem low31 : lowFn Try.prog Try.f31 = some m31 := by kernel_rfl
theorem low32 : lowFn Try.prog Try.f32 = some m32 := by kernel_rfl
theorem low33 : lowFn Try.prog Try.f33 = some m33 := by kernel_rfl
theorem low34 : lowFn Try.prog Try.f34 = some m34 := by kernel_rfl
theorem low35 : lowFn Try.prog Try.f35 = some m35 := by kernel_rfl
theorem low36 : lowFn Try.prog Try.f36 = some m36 := by kernel_rfl
theorem low37 : lowFn Try.prog Try.f37 = some m37 := by kernel_rfl
theorem low38 : lowFn Try.prog Try.f38 = some m38 := by kernel_rfl
theorem low39 : lowFn Try.prog Try.f39 = some m39 := by kernel_rfl
theorem low40 : lowFn Try.prog Try.f40 = some m40 := by kernel_rfl
theorem low41 : lowFn Try.prog Try.f41 = some m41 := by kernel_rfl
theorem low42 : lowFn Try.prog Try.f42 = some m42 := by kernel_rfl
theorem low43 : lowFn Try.prog Try.f43 = some m43 := by kernel_rfl
theorem low44 : lowFn Try.prog Try.f44 = some m44 := by kernel_rfl
theorem low45 : lowFn Try.prog Try.f45 = some m45 := by kernel_rfl
theorem low46 : lowFn Try.prog Try.f46 = some m46 := by kernel_rfl
theorem low47 : lowFn Try.prog Try.f47 = some m47 := by kernel_rfl
theorem low48 : lowFn Try.prog Try.f48 = some m48 := by kernel_rfl
theorem low49 : lowFn Try.prog Try.f49 = some m49 := by kernel_rfl
theorem low50 : lowFn Try.prog Try.f50 = some m50 := by kernel_rfl
theorem low51 : lowFn Try.prog Try.f51 = some m51 := by kernel_rfl
theorem low52 : lowFn Try.prog Try.f52 = some m52 := by kernel_rfl
theorem low53 : lowFn Try.prog Try.f53 = some m53 := by kernel_rfl
theorem low54 : lowFn Try.prog Try.f54 = some m54 := by kernel_rfl
theorem low55 : lowFn Try.prog Try.f55 = some m55 := by kernel_rfl
theorem low56 : lowFn Try.prog Try.f56 = some m56 := by kernel_rfl
theorem low57 : lowFn Try.prog Try.f57 = some m57 := by kernel_rfl
end Go.Nx
