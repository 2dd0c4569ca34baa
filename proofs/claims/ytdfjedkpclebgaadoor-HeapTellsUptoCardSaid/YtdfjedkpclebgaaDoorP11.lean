/-
  A part of the machine, and of what is walked.
-/
import Derived.Test.YtdfjedkpclebgaaDoorP10
import Derived.Test.YtdfjedkpclebgaaDoorRows
section
set_option linter.unusedVariables false
namespace Go.Nx
open Go.RowKit Go.Proofs

def m3 : MFn := ⟨4, 85, [.tmp 8], (.seq (.reg [⟨(some 4), .box 68 (.t 0), none⟩, ⟨(some 8), .mv (.k (.bool false)), none⟩] none)
 (.seq (.reg [⟨(some 17), .call 81 (.k (.fn (.func 6) [] [])) [], none⟩, ⟨(some 9), .mv (.t 17), none⟩] none)
 (.seq (.seq (.reg [⟨(some 18), .mv (.t 9), none⟩, ⟨(some 19), .un .not (.t 18), none⟩] none)
 (.cond (.t 19) (.seq (.reg [⟨(some 8), .mv (.k (.bool false)), none⟩] none)
 .ret) .skip))
 (.seq (.seq (.reg [⟨(some 20), .ld (some 2) (.t 4), none⟩, ⟨(some 21), .call 85 (.k (.fn (.func 7) [] [])) [(.t 20)], none⟩, ⟨(some 22), .un .not (.t 21), none⟩] none)
 (.cond (.t 22) (.seq (.reg [⟨(some 23), .mv (.t 9), none⟩, ⟨(some 8), .mv (.t 23), none⟩] none)
 .ret) .skip))
 (.seq (.reg [⟨(some 24), .mv (.t 2), none⟩, ⟨(some 25), .bin .rem (.t 24) (.k (.int .u8 8)), none⟩, ⟨(some 26), .conv .i64 (.t 25), none⟩, ⟨(some 27), .bin .add (.t 26) (.k (.int .i64 1)), none⟩, ⟨(some 10), .mv (.t 27), none⟩] none)
 (.seq (.reg [⟨(some 28), .ld (some 2) (.t 4), none⟩, ⟨(some 29), .mv (.t 1), none⟩, ⟨(some 30), .call 94 (.k (.fn (.func 8) [] [])) [(.t 28), (.t 29)], none⟩, ⟨(some 11), .mv (.t 30), none⟩] none)
 (.seq (.reg [⟨(some 32), .ld (some 2) (.t 4), none⟩, ⟨(some 33), .mv (.t 10), none⟩, ⟨(some 34), .mv (.t 3), none⟩, ⟨(some 35), .bin .rem (.t 34) (.k (.int .u8 4)), none⟩, ⟨(some 36), .conv .i64 (.t 35), none⟩, ⟨(some 37), .call 101 (.k (.fn (.func 9) [] [])) [(.t 32), (.t 33), (.t 36)], none⟩, ⟨(some 31), .mv (.t 37), none⟩, ⟨(some 38), .ext (.t 31) 0, none⟩, ⟨(some 39), .ext (.t 31) 1, none⟩, ⟨(some 12), .mv (.t 38), none⟩, ⟨(some 13), .mv (.t 39), none⟩] none)
 (.seq (.reg [⟨(some 41), .ld (some 2) (.t 4), none⟩, ⟨(some 42), .mv (.t 10), none⟩, ⟨(some 43), .mv (.t 3), none⟩, ⟨(some 44), .bin .rem (.t 43) (.k (.int .u8 4)), none⟩, ⟨(some 45), .conv .i64 (.t 44), none⟩, ⟨(some 46), .call 110 (.k (.fn (.func 10) [] [])) [(.t 41), (.t 42), (.t 45), (.k (.int .i64 0))], none⟩, ⟨(some 40), .mv (.t 46), none⟩, ⟨(some 47), .ext (.t 40) 0, none⟩, ⟨(some 48), .ext (.t 40) 1, none⟩, ⟨(some 14), .alloc 78 [(.int .i64 0), .nils], none⟩, ⟨none, .st 2 (.t 14) (.t 47), none⟩, ⟨(some 15), .mv (.t 48), none⟩] none)
 (.seq (.reg [⟨(some 49), .ld (some 2) (.t 14), none⟩, ⟨(some 50), .mv (.t 1), none⟩, ⟨(some 51), .call 115 (.k (.fn (.func 8) [] [])) [(.t 49), (.t 50)], none⟩, ⟨(some 16), .mv (.t 51), none⟩] none)
 (.seq (.seq (.reg [⟨(some 52), .mv (.t 13), none⟩, ⟨(some 53), .un .not (.t 52), none⟩, ⟨(some 54), .mv (.t 53), none⟩, ⟨(some 55), .mv (.t 12), (some (54, false))⟩, ⟨(some 56), .bin .eql (.t 55) (.k (.int .i64 0)), (some (54, false))⟩, ⟨(some 57), .pick (.t 54) (.k (.bool true)) (.t 56), none⟩, ⟨(some 58), .mv (.t 57), none⟩, ⟨(some 59), .mv (.t 11), (some (58, false))⟩, ⟨(some 60), .mv (.t 10), (some (58, false))⟩, ⟨(some 61), .call 125 (.k (.fn (.func 11) [] [])) [(.t 59), (.t 60)], (some (58, false))⟩, ⟨(some 62), .un .not (.t 61), (some (58, false))⟩, ⟨(some 63), .pick (.t 58) (.k (.bool true)) (.t 62), none⟩] none)
 (.cond (.t 63) (.seq (.reg [⟨(some 64), .mv (.t 9), none⟩, ⟨(some 65), .mv (.t 64), none⟩, ⟨(some 66), .mv (.t 11), (some (65, true))⟩, ⟨(some 67), .mv (.t 16), (some (65, true))⟩, ⟨(some 68), .bin .eql (.t 66) (.t 67), (some (65, true))⟩, ⟨(some 69), .pick (.t 65) (.t 68) (.k (.bool false)), none⟩, ⟨(some 8), .mv (.t 69), none⟩] none)
 .ret) .skip))
 (.seq (.reg [⟨(some 70), .mv (.t 9), none⟩, ⟨(some 71), .mv (.t 70), none⟩, ⟨(some 72), .mv (.t 16), (some (71, true))⟩, ⟨(some 73), .mv (.t 11), (some (71, true))⟩, ⟨(some 74), .call 138 (.k (.fn (.func 12) [] [])) [(.t 72), (.t 73)], (some (71, true))⟩, ⟨(some 75), .pick (.t 71) (.t 74) (.k (.bool false)), none⟩, ⟨(some 76), .mv (.t 75), none⟩, ⟨(some 77), .mv (.t 16), (some (76, true))⟩, ⟨(some 78), .mv (.t 11), (some (76, true))⟩, ⟨(some 79), .bin .eql (.t 77) (.t 78), (some (76, true))⟩, ⟨(some 80), .mv (.t 16), (some (76, true))⟩, ⟨(some 81), .mv (.t 12), (some (76, true))⟩, ⟨(some 82), .call 146 (.k (.fn (.func 11) [] [])) [(.t 80), (.t 81)], (some (76, true))⟩, ⟨(some 83), .binb .eql (.t 79) (.t 82), (some (76, true))⟩, ⟨(some 84), .pick (.t 76) (.t 83) (.k (.bool false)), none⟩, ⟨(some 8), .mv (.t 84), none⟩] none)
 .ret)))))))))))⟩
def m5 : MFn := ⟨7, 165, [.tmp 14], (.seq (.reg [⟨(some 7), .box 71 (.t 0), none⟩, ⟨(some 8), .box 72 (.t 1), none⟩, ⟨(some 14), .mv (.k (.bool false)), none⟩] none)
 (.seq (.reg [⟨(some 35), .call 99 (.k (.fn (.func 17) [] [])) [], none⟩, ⟨(some 15), .mv (.t 35), none⟩] none)
 (.seq (.seq (.reg [⟨(some 36), .mv (.t 15), none⟩, ⟨(some 37), .un .not (.t 36), none⟩] none)
 (.cond (.t 37) (.seq (.reg [⟨(some 14), .mv (.k (.bool false)), none⟩] none)
 .ret) .skip))
 (.seq (.reg [⟨(some 38), .ld (some 2) (.t 7), none⟩, ⟨(some 39), .call 103 (.k (.fn (.func 18) [] [])) [(.t 38)], none⟩, ⟨(some 16), .alloc 80 [(.int .i64 0), .nils], none⟩, ⟨none, .st 2 (.t 16) (.t 39), none⟩] none)
 (.seq (.reg [⟨(some 41), .ld (some 2) (.t 7), none⟩, ⟨(some 42), .mv (.t 2), none⟩, ⟨(some 43), .mv (.t 3), none⟩, ⟨(some 44), .call 108 (.k (.fn (.func 9) [] [])) [(.t 41), (.t 42), (.t 43)], none⟩, ⟨(some 40), .mv (.t 44), none⟩, ⟨(some 45), .ext (.t 40) 0, none⟩, ⟨(some 46), .ext (.t 40) 1, none⟩, ⟨(some 17), .mv (.t 45), none⟩, ⟨(some 18), .mv (.t 46), none⟩] none)
 (.seq (.reg [⟨(some 48), .ld (some 2) (.t 16), none⟩, ⟨(some 49), .mv (.t 2), none⟩, ⟨(some 50), .mv (.t 3), none⟩, ⟨(some 51), .call 115 (.k (.fn (.func 19) [] [])) [(.t 48), (.t 49), (.t 50)], none⟩, ⟨(some 47), .mv (.t 51), none⟩, ⟨(some 52), .ext (.t 47) 0, none⟩, ⟨(some 53), .ext (.t 47) 1, none⟩, ⟨(some 19), .mv (.t 52), none⟩, ⟨(some 20), .mv (.t 53), none⟩] none)
 (.seq (.reg [⟨(some 55), .ld (some 2) (.t 7), none⟩, ⟨(some 56), .mv (.t 2), none⟩, ⟨(some 57), .mv (.t 3), none⟩, ⟨(some 58), .mv (.t 4), none⟩, ⟨(some 59), .call 123 (.k (.fn (.func 10) [] [])) [(.t 55), (.t 56), (.t 57), (.t 58)], none⟩, ⟨(some 54), .mv (.t 59), none⟩, ⟨(some 60), .ext (.t 54) 0, none⟩, ⟨(some 61), .ext (.t 54) 1, none⟩, ⟨(some 21), .alloc 85 [(.int .i64 0), .nils], none⟩, ⟨none, .st 2 (.t 21) (.t 60), none⟩, ⟨(some 22), .mv (.t 61), none⟩] none)
 (.seq (.reg [⟨(some 63), .ld (some 2) (.t 16), none⟩, ⟨(some 64), .mv (.t 2), none⟩, ⟨(some 65), .mv (.t 3), none⟩, ⟨(some 66), .mv (.t 4), none⟩, ⟨(some 67), .call 131 (.k (.fn (.func 20) [] [])) [(.t 63), (.t 64), (.t 65), (.t 66)], none⟩, ⟨(some 62), .mv (.t 67), none⟩, ⟨(some 68), .ext (.t 62) 0, none⟩, ⟨(some 69), .ext (.t 62) 1, none⟩, ⟨(some 23), .alloc 87 [(.int .i64 0), .nils], none⟩, ⟨none, .st 2 (.t 23) (.t 68), none⟩, ⟨(some 24), .mv (.t 69), none⟩] none)
 (.seq (.reg [⟨(some 71), .ld (some 2) (.t 7), none⟩, ⟨(some 72), .mv (.t 5), none⟩, ⟨(some 73), .call 137 (.k (.fn (.func 21) [] [])) [(.t 71), (.t 72)], none⟩, ⟨(some 70), .mv (.t 73), none⟩, ⟨(some 74), .ext (.t 70) 0, none⟩, ⟨(some 75), .ext (.t 70) 1, none⟩, ⟨(some 76), .ext (.t 70) 2, none⟩, ⟨(some 25), .alloc 89 [(.int .i64 0), .nils], none⟩, ⟨none, .st 2 (.t 25) (.t 74), none⟩, ⟨(some 26), .mv (.t 75), none⟩, ⟨(some 27), .mv (.t 76), none⟩] none)
 (.seq (.reg [⟨(some 78), .ld (some 2) (.t 16), none⟩, ⟨(some 79), .mv (.t 5), none⟩, ⟨(some 80), .call 144 (.k (.fn (.func 22) [] [])) [(.t 78), (.t 79)], none⟩, ⟨(some 77), .mv (.t 80), none⟩, ⟨(some 81), .ext (.t 77) 0, none⟩, ⟨(some 82), .ext (.t 77) 1, none⟩, ⟨(some 83), .ext (.t 77) 2, none⟩, ⟨(some 28), .alloc 92 [(.int .i64 0), .nils], none⟩, ⟨none, .st 2 (.t 28) (.t 81), none⟩, ⟨(some 29), .mv (.t 82), none⟩, ⟨(some 30), .mv (.t 83), none⟩] none)
 (.seq (.reg [⟨(some 85), .mv (.t 6), none⟩, ⟨(some 86), .call 150 (.k (.fn (.func 23) [] [])) [(.t 85)], none⟩, ⟨(some 84), .mv (.t 86), none⟩, ⟨(some 87), .ext (.t 84) 0, none⟩, ⟨(some 88), .ext (.t 84) 1, none⟩, ⟨(some 31), .alloc 95 [(.int .i64 0), .nils], none⟩, ⟨none, .st 2 (.t 31) (.t 87), none⟩, ⟨(some 32), .mv (.t 88), none⟩] none)
 (.seq (.reg [⟨(some 90), .mv (.t 6), none⟩, ⟨(some 91), .call 155 (.k (.fn (.func 24) [] [])) [(.t 90)], none⟩, ⟨(some 89), .mv (.t 91), none⟩, ⟨(some 92), .ext (.t 89) 0, none⟩, ⟨(some 93), .ext (.t 89) 1, none⟩, ⟨(some 33), .alloc 97 [(.int .i64 0), .nils], none⟩, ⟨none, .st 2 (.t 33) (.t 92), none⟩, ⟨(some 34), .mv (.t 93), none⟩] none)
 (.seq (.seq (.reg [⟨(some 94), .mv (.t 17), none⟩, ⟨(some 95), .mv (.t 19), none⟩, ⟨(some 96), .bin .neq (.t 94) (.t 95), none⟩, ⟨(some 97), .mv (.t 96), none⟩, ⟨(some 98), .mv (.t 18), (some (97, false))⟩, ⟨(some 99), .mv (.t 20), (some (97, false))⟩, ⟨(some 100), .binb .neq (.t 98) (.t 99), (some (97, false))⟩, ⟨(some 101), .pick (.t 97) (.k (.bool true)) (.t 100), none⟩, ⟨(some 102), .mv (.t 101), none⟩, ⟨(some 103), .ld (some 2) (.t 21), (some (102, false))⟩, ⟨(some 104), .ld (some 2) (.t 23), (some (102, false))⟩, ⟨(some 105), .call 169 (.k (.fn (.func 25) [] [])) [(.t 103), (.t 104)], (some (102, false))⟩, ⟨(some 106), .un .not (.t 105), (some (102, false))⟩, ⟨(some 107), .pick (.t 102) (.k (.bool true)) (.t 106), none⟩, ⟨(some 108), .mv (.t 107), none⟩, ⟨(some 109), .mv (.t 22), (some (108, false))⟩, ⟨(some 110), .mv (.t 24), (some (108, false))⟩, ⟨(some 111), .binb .neq (.t 109) (.t 110), (some (108, false))⟩, ⟨(some 112), .pick (.t 108) (.k (.bool true)) (.t 111), none⟩, ⟨(some 113), .mv (.t 112), none⟩, ⟨(some 114), .ld (some 2) (.t 25), (some (113, false))⟩, ⟨(some 115), .ld (some 2) (.t 28), (some (113, false))⟩, ⟨(some 116), .call 180 (.k (.fn (.func 25) [] [])) [(.t 114), (.t 115)], (some (113, false))⟩, ⟨(some 117), .un .not (.t 116), (some (113, false))⟩, ⟨(some 118), .pick (.t 113) (.k (.bool true)) (.t 117), none⟩, ⟨(some 119), .mv (.t 118), none⟩, ⟨(some 120), .mv (.t 26), (some (119, false))⟩, ⟨(some 121), .mv (.t 29), (some (119, false))⟩, ⟨(some 122), .bin .neq (.t 120) (.t 121), (some (119, false))⟩, ⟨(some 123), .pick (.t 119) (.k (.bool true)) (.t 122), none⟩, ⟨(some 124), .mv (.t 123), none⟩, ⟨(some 125), .mv (.t 27), (some (124, false))⟩, ⟨(some 126), .mv (.t 30), (some (124, false))⟩, ⟨(some 127), .bin .neq (.t 125) (.t 126), (some (124, false))⟩, ⟨(some 128), .pick (.t 124) (.k (.bool true)) (.t 127), none⟩, ⟨(some 129), .mv (.t 128), none⟩, ⟨(some 130), .ld (some 2) (.t 31), (some (129, false))⟩, ⟨(some 131), .ld (some 2) (.t 33), (some (129, false))⟩, ⟨(some 132), .call 196 (.k (.fn (.func 25) [] [])) [(.t 130), (.t 131)], (some (129, false))⟩, ⟨(some 133), .un .not (.t 132), (some (129, false))⟩, ⟨(some 134), .pick (.t 129) (.k (.bool true)) (.t 133), none⟩, ⟨(some 135), .mv (.t 134), none⟩, ⟨(some 136), .mv (.t 32), (some (135, false))⟩, ⟨(some 137), .mv (.t 34), (some (135, false))⟩, ⟨(some 138), .bin .neq (.t 136) (.t 137), (some (135, false))⟩, ⟨(some 139), .pick (.t 135) (.k (.bool true)) (.t 138), none⟩] none)
 (.cond (.t 139) (.seq (.reg [⟨(some 14), .mv (.k (.bool false)), none⟩] none)
 .ret) .skip))
 (.seq (.reg [⟨(some 140), .mv (.t 15), none⟩, ⟨(some 141), .mv (.t 140), none⟩, ⟨(some 142), .ld (some 2) (.t 7), (some (141, true))⟩, ⟨(some 143), .call 207 (.k (.fn (.func 7) [] [])) [(.t 142)], (some (141, true))⟩, ⟨(some 144), .ld (some 2) (.t 16), (some (141, true))⟩, ⟨(some 145), .call 209 (.k (.fn (.func 26) [] [])) [(.t 144)], (some (141, true))⟩, ⟨(some 146), .binb .eql (.t 143) (.t 145), (some (141, true))⟩, ⟨(some 147), .pick (.t 141) (.t 146) (.k (.bool false)), none⟩, ⟨(some 148), .mv (.t 147), none⟩, ⟨(some 149), .ld (some 2) (.t 7), (some (148, true))⟩, ⟨(some 150), .ld (some 2) (.t 8), (some (148, true))⟩, ⟨(some 151), .call 215 (.k (.fn (.func 27) [] [])) [(.t 149), (.t 150)], (some (148, true))⟩, ⟨(some 152), .ld (some 2) (.t 16), (some (148, true))⟩, ⟨(some 153), .ld (some 2) (.t 8), (some (148, true))⟩, ⟨(some 154), .call 218 (.k (.fn (.func 18) [] [])) [(.t 153)], (some (148, true))⟩, ⟨(some 155), .call 219 (.k (.fn (.func 28) [] [])) [(.t 152), (.t 154)], (some (148, true))⟩, ⟨(some 156), .binb .eql (.t 151) (.t 155), (some (148, true))⟩, ⟨(some 157), .pick (.t 148) (.t 156) (.k (.bool false)), none⟩, ⟨(some 158), .mv (.t 157), none⟩, ⟨(some 159), .ld (some 2) (.t 7), (some (158, true))⟩, ⟨(some 160), .call 224 (.k (.fn (.func 29) [] [])) [(.t 159)], (some (158, true))⟩, ⟨(some 161), .ld (some 2) (.t 16), (some (158, true))⟩, ⟨(some 162), .call 226 (.k (.fn (.func 30) [] [])) [(.t 161)], (some (158, true))⟩, ⟨(some 163), .bin .eql (.t 160) (.t 162), (some (158, true))⟩, ⟨(some 164), .pick (.t 158) (.t 163) (.k (.bool false)), none⟩, ⟨(some 14), .mv (.t 164), none⟩] (some [(2, 4), (3, 4), (9, 10), (9, 12), (10, 12), (11, 12), (9, 13), (10, 13), (11, 13), (12, 13), (12, 14), (19, 21), (20, 21)]))
 .ret))))))))))))))⟩
def m7 : MFn := ⟨1, 26, [.tmp 2], (.seq (.reg [⟨(some 1), .box 65 (.t 0), none⟩, ⟨(some 2), .mv (.k (.bool false)), none⟩] none)
 (.seq (.reg [⟨(some 4), .mkf (.func 33) [] [(.t 1)], none⟩, ⟨(some 3), .mv (.t 4), none⟩] none)
 (.seq (.reg [⟨(some 5), .fa 0 (.t 1), none⟩, ⟨(some 6), .ld none (.t 5), none⟩, ⟨(some 7), .bin .geq (.t 6) (.k (.int .i64 1)), none⟩, ⟨(some 8), .mv (.t 7), none⟩, ⟨(some 9), .fa 0 (.t 1), (some (8, true))⟩, ⟨(some 10), .ld none (.t 9), (some (8, true))⟩, ⟨(some 11), .bin .leq (.t 10) (.k (.int .i64 4)), (some (8, true))⟩, ⟨(some 12), .pick (.t 8) (.t 11) (.k (.bool false)), none⟩, ⟨(some 13), .mv (.t 12), none⟩, ⟨(some 14), .fa 1 (.t 1), (some (13, true))⟩, ⟨(some 15), .ld none (.t 14), (some (13, true))⟩, ⟨(some 16), .len (.t 15), (some (13, true))⟩, ⟨(some 17), .bin .leq (.t 16) (.k (.int .i64 64)), (some (13, true))⟩, ⟨(some 18), .pick (.t 13) (.t 17) (.k (.bool false)), none⟩, ⟨(some 19), .mv (.t 18), none⟩, ⟨(some 20), .fa 1 (.t 1), (some (19, true))⟩, ⟨(some 21), .ld none (.t 20), (some (19, true))⟩, ⟨(some 22), .mv (.t 3), (some (19, true))⟩, ⟨(some 23), .call 87 (.k (.fn (.func 36) [] [])) [(.t 21), (.t 22)], (some (19, true))⟩, ⟨(some 24), .un .not (.t 23), (some (19, true))⟩, ⟨(some 25), .pick (.t 19) (.t 24) (.k (.bool false)), none⟩, ⟨(some 2), .mv (.t 25), none⟩] none)
 .ret)))⟩
def m9 : MFn := ⟨3, 22, [.tmp 6, .tmp 7], (.seq (.reg [⟨(some 3), .box 67 (.t 0), none⟩, ⟨(some 6), .mv (.k (.int .i64 0)), none⟩, ⟨(some 7), .mv (.k (.bool false)), none⟩] none)
 (.seq (.seq (.reg [⟨(some 8), .ld (some 2) (.t 3), none⟩, ⟨(some 9), .mv (.t 1), none⟩, ⟨(some 10), .mv (.t 2), none⟩, ⟨(some 11), .call 75 (.k (.fn (.func 40) [] [])) [(.t 8), (.t 9), (.t 10)], none⟩, ⟨(some 12), .un .not (.t 11), none⟩] none)
 (.cond (.t 12) (.seq (.reg [⟨(some 6), .mv (.k (.int .i64 0)), none⟩, ⟨(some 7), .mv (.k (.bool false)), none⟩] none)
 .ret) .skip))
 (.seq (.reg [⟨(some 13), .fa 1 (.t 3), none⟩, ⟨(some 14), .ld none (.t 13), none⟩, ⟨(some 15), .mv (.t 1), none⟩, ⟨(some 16), .bin .sub (.t 15) (.k (.int .i64 1)), none⟩, ⟨(some 17), .ixs 1 (.t 14) (.t 16), none⟩, ⟨(some 18), .ld none (.t 17), none⟩, ⟨(some 19), .mv (.t 2), none⟩, ⟨(some 20), .ixs 1 (.t 18) (.t 19), none⟩, ⟨(some 21), .ld none (.t 20), none⟩, ⟨(some 6), .mv (.t 21), none⟩, ⟨(some 7), .mv (.k (.bool true)), none⟩] none)
 .ret)))⟩
def m10 : MFn := ⟨4, 53, [.cell 8 (some 2), .tmp 9], (.seq (.reg [⟨(some 4), .box 68 (.t 0), none⟩, ⟨(some 8), .alloc 72 [(.int .i64 0), .nils], none⟩, ⟨(some 9), .mv (.k (.bool false)), none⟩] none)
 (.seq (.seq (.reg [⟨(some 10), .ld (some 2) (.t 4), none⟩, ⟨(some 11), .mv (.t 1), none⟩, ⟨(some 12), .mv (.t 2), none⟩, ⟨(some 13), .call 77 (.k (.fn (.func 40) [] [])) [(.t 10), (.t 11), (.t 12)], none⟩, ⟨(some 14), .un .not (.t 13), none⟩, ⟨(some 15), .mv (.t 14), none⟩, ⟨(some 16), .mv (.t 3), (some (15, false))⟩, ⟨(some 17), .bin .lss (.t 16) (.k (.int .i64 0)), (some (15, false))⟩, ⟨(some 18), .pick (.t 15) (.k (.bool true)) (.t 17), none⟩, ⟨(some 19), .mv (.t 18), none⟩, ⟨(some 20), .mv (.t 3), (some (19, false))⟩, ⟨(some 21), .fa 1 (.t 4), (some (19, false))⟩, ⟨(some 22), .ld none (.t 21), (some (19, false))⟩, ⟨(some 23), .len (.t 22), (some (19, false))⟩, ⟨(some 24), .bin .gtr (.t 20) (.t 23), (some (19, false))⟩, ⟨(some 25), .pick (.t 19) (.k (.bool true)) (.t 24), none⟩] none)
 (.cond (.t 25) (.seq (.reg [⟨(some 26), .ld (some 2) (.t 4), none⟩, ⟨none, .st 2 (.t 8) (.t 26), none⟩, ⟨(some 9), .mv (.k (.bool false)), none⟩] none)
 .ret) .skip))
 (.seq (.reg [⟨(some 27), .fa 1 (.t 4), none⟩, ⟨(some 28), .ld none (.t 27), none⟩, ⟨(some 29), .call 93 (.k (.fn (.func 41) [] [])) [(.t 28)], none⟩, ⟨(some 30), .fa 1 (.t 4), none⟩, ⟨none, .st 1 (.t 30) (.t 29), none⟩] none)
 (.seq (.reg [⟨(some 31), .fa 1 (.t 4), none⟩, ⟨(some 32), .ld none (.t 31), none⟩, ⟨(some 33), .mv (.t 1), none⟩, ⟨(some 34), .bin .sub (.t 33) (.k (.int .i64 1)), none⟩, ⟨(some 35), .fa 1 (.t 4), none⟩, ⟨(some 36), .ld none (.t 35), none⟩, ⟨(some 37), .mv (.t 1), none⟩, ⟨(some 38), .bin .sub (.t 37) (.k (.int .i64 1)), none⟩, ⟨(some 39), .ixs 1 (.t 36) (.t 38), none⟩, ⟨(some 40), .ld none (.t 39), none⟩, ⟨(some 41), .call 105 (.k (.fn (.func 42) [] [])) [(.t 40)], none⟩, ⟨(some 42), .ixs 1 (.t 32) (.t 34), none⟩, ⟨none, .st 1 (.t 42) (.t 41), none⟩] (some [(1, 5), (1, 8), (1, 9), (1, 10)]))
 (.seq (.reg [⟨(some 43), .fa 1 (.t 4), none⟩, ⟨(some 44), .ld none (.t 43), none⟩, ⟨(some 45), .mv (.t 1), none⟩, ⟨(some 46), .bin .sub (.t 45) (.k (.int .i64 1)), none⟩, ⟨(some 47), .ixs 1 (.t 44) (.t 46), none⟩, ⟨(some 48), .ld none (.t 47), none⟩, ⟨(some 49), .mv (.t 2), none⟩, ⟨(some 50), .mv (.t 3), none⟩, ⟨(some 51), .ixs 1 (.t 48) (.t 49), none⟩, ⟨none, .st 1 (.t 51) (.t 50), none⟩] none)
 (.seq (.reg [⟨(some 52), .ld (some 2) (.t 4), none⟩, ⟨none, .st 2 (.t 8) (.t 52), none⟩, ⟨(some 9), .mv (.k (.bool true)), none⟩] none)
 .ret))))))⟩
def m16 : MFn := ⟨2, 10, [.tmp 4], (.seq (.reg [⟨(some 4), .mv (.k .nils), none⟩] none)
 (.seq (.reg [⟨(some 5), .mv (.t 0), none⟩, ⟨(some 6), .mv (.t 1), none⟩, ⟨(some 7), .bslt 1 [(.t 5), (.t 6)], none⟩, ⟨(some 8), .call 72 (.k (.fn (.func 53) [] [])) [(.t 7)], none⟩, ⟨(some 9), .call 73 (.k (.fn (.func 52) [] [])) [(.t 8)], none⟩, ⟨(some 4), .mv (.t 9), none⟩] none)
 .ret))⟩
def m17 : MFn := ⟨0, 163, [.tmp 0], (.seq (.reg [⟨(some 0), .mv (.k (.bool false)), none⟩] none)
 (.seq (.reg [⟨(some 25), .call 89 (.k (.fn (.func 23) [] [])) [(.k (.str ⟨#[50, 124, 50, 44, 48, 124, 49, 44, 50]⟩))], none⟩, ⟨(some 24), .mv (.t 25), none⟩, ⟨(some 26), .ext (.t 24) 0, none⟩, ⟨(some 27), .ext (.t 24) 1, none⟩, ⟨(some 1), .alloc 65 [(.int .i64 0), .nils], none⟩, ⟨none, .st 2 (.t 1) (.t 26), none⟩, ⟨(some 2), .mv (.t 27), none⟩] none)
 (.seq (.reg [⟨(some 29), .call 93 (.k (.fn (.func 23) [] [])) [(.k (.str ⟨#[50, 124, 50, 44, 48, 124, 49, 44, 51]⟩))], none⟩, ⟨(some 28), .mv (.t 29), none⟩, ⟨(some 30), .ext (.t 28) 0, none⟩, ⟨(some 31), .ext (.t 28) 1, none⟩, ⟨(some 3), .alloc 67 [(.int .i64 0), .nils], none⟩, ⟨none, .st 2 (.t 3) (.t 30), none⟩, ⟨(some 4), .mv (.t 31), none⟩] none)
 (.seq (.reg [⟨(some 33), .call 97 (.k (.fn (.func 23) [] [])) [(.k (.str ⟨#[63]⟩))], none⟩, ⟨(some 32), .mv (.t 33), none⟩, ⟨(some 34), .ext (.t 32) 0, none⟩, ⟨(some 35), .ext (.t 32) 1, none⟩, ⟨(some 5), .alloc 69 [(.int .i64 0), .nils], none⟩, ⟨none, .st 2 (.t 5) (.t 34), none⟩, ⟨(some 6), .mv (.t 35), none⟩] none)
 (.seq (.reg [⟨(some 37), .ld (some 2) (.t 1), none⟩, ⟨(some 38), .call 102 (.k (.fn (.func 9) [] [])) [(.t 37), (.k (.int .i64 1)), (.k (.int .i64 0))], none⟩, ⟨(some 36), .mv (.t 38), none⟩, ⟨(some 39), .ext (.t 36) 0, none⟩, ⟨(some 40), .ext (.t 36) 1, none⟩, ⟨(some 7), .mv (.t 39), none⟩, ⟨(some 8), .mv (.t 40), none⟩] none)
 (.seq (.reg [⟨(some 42), .ld (some 2) (.t 1), none⟩, ⟨(some 43), .call 107 (.k (.fn (.func 9) [] [])) [(.t 42), (.k (.int .i64 3)), (.k (.int .i64 0))], none⟩, ⟨(some 41), .mv (.t 43), none⟩, ⟨(some 44), .ext (.t 41) 0, none⟩, ⟨(some 45), .ext (.t 41) 1, none⟩, ⟨(some 9), .mv (.t 44), none⟩, ⟨(some 10), .mv (.t 45), none⟩] none)
 (.seq (.reg [⟨(some 47), .ld (some 2) (.t 1), none⟩, ⟨(some 48), .call 112 (.k (.fn (.func 10) [] [])) [(.t 47), (.k (.int .i64 2)), (.k (.int .i64 1)), (.k (.int .i64 1))], none⟩, ⟨(some 46), .mv (.t 48), none⟩, ⟨(some 49), .ext (.t 46) 0, none⟩, ⟨(some 50), .ext (.t 46) 1, none⟩, ⟨(some 11), .alloc 75 [(.int .i64 0), .nils], none⟩, ⟨none, .st 2 (.t 11) (.t 49), none⟩, ⟨(some 12), .mv (.t 50), none⟩] none)
 (.seq (.reg [⟨(some 52), .ld (some 2) (.t 1), none⟩, ⟨(some 53), .call 117 (.k (.fn (.func 10) [] [])) [(.t 52), (.k (.int .i64 2)), (.k (.int .i64 1)), (.k (.int .i64 3))], none⟩, ⟨(some 51), .mv (.t 53), none⟩, ⟨(some 54), .ext (.t 51) 0, none⟩, ⟨(some 55), .ext (.t 51) 1, none⟩, ⟨(some 13), .alloc 77 [(.int .i64 0), .nils], none⟩, ⟨none, .st 2 (.t 13) (.t 54), none⟩, ⟨(some 14), .mv (.t 55), none⟩] none)
 (.seq (.reg [⟨(some 57), .ld (some 2) (.t 1), none⟩, ⟨(some 58), .call 122 (.k (.fn (.func 21) [] [])) [(.t 57), (.k (.int .i64 3))], none⟩, ⟨(some 56), .mv (.t 58), none⟩, ⟨(some 59), .ext (.t 56) 0, none⟩, ⟨(some 60), .ext (.t 56) 1, none⟩, ⟨(some 61), .ext (.t 56) 2, none⟩, ⟨(some 15), .alloc 79 [(.int .i64 0), .nils], none⟩, ⟨none, .st 2 (.t 15) (.t 59), none⟩, ⟨(some 16), .mv (.t 60), none⟩, ⟨(some 17), .mv (.t 61), none⟩] none)
 (.seq (.reg [⟨(some 63), .ld (some 2) (.t 1), none⟩, ⟨(some 64), .call 128 (.k (.fn (.func 21) [] [])) [(.t 63), (.k (.int .i64 2))], none⟩, ⟨(some 62), .mv (.t 64), none⟩, ⟨(some 65), .ext (.t 62) 0, none⟩, ⟨(some 66), .ext (.t 62) 1, none⟩, ⟨(some 67), .ext (.t 62) 2, none⟩, ⟨(some 18), .alloc 82 [(.int .i64 0), .nils], none⟩, ⟨none, .st 2 (.t 18) (.t 65), none⟩, ⟨(some 19), .mv (.t 66), none⟩, ⟨(some 20), .mv (.t 67), none⟩] none)
 (.seq (.reg [⟨(some 69), .bld [(.int .i64 0), .nils] [], none⟩, ⟨(some 70), .call 134 (.k (.fn (.func 21) [] [])) [(.t 69), (.k (.int .i64 2))], none⟩, ⟨(some 68), .mv (.t 70), none⟩, ⟨(some 71), .ext (.t 68) 0, none⟩, ⟨(some 72), .ext (.t 68) 1, none⟩, ⟨(some 73), .ext (.t 68) 2, none⟩, ⟨(some 21), .alloc 85 [(.int .i64 0), .nils], none⟩, ⟨none, .st 2 (.t 21) (.t 71), none⟩, ⟨(some 22), .mv (.t 72), none⟩, ⟨(some 23), .mv (.t 73), none⟩] none)
 (.seq (.seq (.reg [⟨(some 74), .fa 1 (.t 1), none⟩, ⟨(some 75), .ld none (.t 74), none⟩, ⟨(some 76), .len (.t 75), none⟩, ⟨(some 77), .bin .neq (.t 76) (.k (.int .i64 2)), none⟩, ⟨(some 78), .mv (.t 77), none⟩, ⟨(some 79), .fa 1 (.t 15), (some (78, false))⟩, ⟨(some 80), .ld none (.t 79), (some (78, false))⟩, ⟨(some 81), .len (.t 80), (some (78, false))⟩, ⟨(some 82), .bin .neq (.t 81) (.k (.int .i64 3)), (some (78, false))⟩, ⟨(some 83), .pick (.t 78) (.k (.bool true)) (.t 82), none⟩] none)
 (.cond (.t 83) (.seq (.reg [⟨(some 0), .mv (.k (.bool false)), none⟩] none)
 .ret) .skip))
 (.seq (.reg [⟨(some 84), .mv (.t 2), none⟩, ⟨(some 85), .bin .eql (.t 84) (.k (.int .i64 0)), none⟩, ⟨(some 86), .mv (.t 85), none⟩, ⟨(some 87), .mv (.t 4), (some (86, true))⟩, ⟨(some 88), .bin .eql (.t 87) (.k (.int .i64 2)), (some (86, true))⟩, ⟨(some 89), .pick (.t 86) (.t 88) (.k (.bool false)), none⟩, ⟨(some 90), .mv (.t 89), none⟩, ⟨(some 91), .mv (.t 6), (some (90, true))⟩, ⟨(some 92), .bin .eql (.t 91) (.k (.int .i64 2)), (some (90, true))⟩, ⟨(some 93), .pick (.t 90) (.t 92) (.k (.bool false)), none⟩, ⟨(some 94), .mv (.t 93), none⟩, ⟨(some 95), .mv (.t 7), (some (94, true))⟩, ⟨(some 96), .bin .eql (.t 95) (.k (.int .i64 2)), (some (94, true))⟩, ⟨(some 97), .pick (.t 94) (.t 96) (.k (.bool false)), none⟩, ⟨(some 98), .mv (.t 97), none⟩, ⟨(some 99), .mv (.t 8), (some (98, true))⟩, ⟨(some 100), .pick (.t 98) (.t 99) (.k (.bool false)), none⟩, ⟨(some 101), .mv (.t 100), none⟩, ⟨(some 102), .mv (.t 10), (some (101, true))⟩, ⟨(some 103), .un .not (.t 102), (some (101, true))⟩, ⟨(some 104), .pick (.t 101) (.t 103) (.k (.bool false)), none⟩, ⟨(some 105), .mv (.t 104), none⟩, ⟨(some 106), .mv (.t 12), (some (105, true))⟩, ⟨(some 107), .pick (.t 105) (.t 106) (.k (.bool false)), none⟩, ⟨(some 108), .mv (.t 107), none⟩, ⟨(some 109), .ld (some 2) (.t 11), (some (108, true))⟩, ⟨(some 110), .call 174 (.k (.fn (.func 29) [] [])) [(.t 109)], (some (108, true))⟩, ⟨(some 111), .bin .eql (.t 110) (.k (.str ⟨#[50, 124, 50, 44, 48, 124, 49, 44, 49]⟩)), (some (108, true))⟩, ⟨(some 112), .pick (.t 108) (.t 111) (.k (.bool false)), none⟩, ⟨(some 113), .mv (.t 112), none⟩, ⟨(some 114), .ld (some 2) (.t 1), (some (113, true))⟩, ⟨(some 115), .call 179 (.k (.fn (.func 29) [] [])) [(.t 114)], (some (113, true))⟩, ⟨(some 116), .bin .eql (.t 115) (.k (.str ⟨#[50, 124, 50, 44, 48, 124, 49, 44, 50]⟩)), (some (113, true))⟩, ⟨(some 117), .pick (.t 113) (.t 116) (.k (.bool false)), none⟩, ⟨(some 118), .mv (.t 117), none⟩, ⟨(some 119), .mv (.t 14), (some (118, true))⟩, ⟨(some 120), .un .not (.t 119), (some (118, true))⟩, ⟨(some 121), .pick (.t 118) (.t 120) (.k (.bool false)), none⟩, ⟨(some 122), .mv (.t 121), none⟩, ⟨(some 123), .mv (.t 16), (some (122, true))⟩, ⟨(some 124), .bin .eql (.t 123) (.k (.int .i64 3)), (some (122, true))⟩, ⟨(some 125), .pick (.t 122) (.t 124) (.k (.bool false)), none⟩, ⟨(some 126), .mv (.t 125), none⟩, ⟨(some 127), .mv (.t 17), (some (126, true))⟩, ⟨(some 128), .bin .eql (.t 127) (.k (.int .i64 0)), (some (126, true))⟩, ⟨(some 129), .pick (.t 126) (.t 128) (.k (.bool false)), none⟩, ⟨(some 130), .mv (.t 129), none⟩, ⟨(some 131), .ld (some 2) (.t 15), (some (130, true))⟩, ⟨(some 132), .call 196 (.k (.fn (.func 29) [] [])) [(.t 131)], (some (130, true))⟩, ⟨(some 133), .bin .eql (.t 132) (.k (.str ⟨#[50, 124, 50, 44, 48, 124, 49, 44, 50, 124, 48, 44, 48]⟩)), (some (130, true))⟩, ⟨(some 134), .pick (.t 130) (.t 133) (.k (.bool false)), none⟩, ⟨(some 135), .mv (.t 134), none⟩, ⟨(some 136), .mv (.t 20), (some (135, true))⟩, ⟨(some 137), .bin .eql (.t 136) (.k (.int .i64 4)), (some (135, true))⟩, ⟨(some 138), .pick (.t 135) (.t 137) (.k (.bool false)), none⟩, ⟨(some 139), .mv (.t 138), none⟩, ⟨(some 140), .mv (.t 23), (some (139, true))⟩, ⟨(some 141), .bin .eql (.t 140) (.k (.int .i64 1)), (some (139, true))⟩, ⟨(some 142), .pick (.t 139) (.t 141) (.k (.bool false)), none⟩, ⟨(some 143), .mv (.t 142), none⟩, ⟨(some 144), .ld (some 2) (.t 1), (some (143, true))⟩, ⟨(some 145), .call 209 (.k (.fn (.func 7) [] [])) [(.t 144)], (some (143, true))⟩, ⟨(some 146), .pick (.t 143) (.t 145) (.k (.bool false)), none⟩, ⟨(some 147), .mv (.t 146), none⟩, ⟨(some 148), .bld [(.int .i64 0), .nils] [], (some (147, true))⟩, ⟨(some 149), .call 213 (.k (.fn (.func 29) [] [])) [(.t 148)], (some (147, true))⟩, ⟨(some 150), .bin .eql (.t 149) (.k (.str ⟨#[63]⟩)), (some (147, true))⟩, ⟨(some 151), .pick (.t 147) (.t 150) (.k (.bool false)), none⟩, ⟨(some 152), .mv (.t 151), none⟩, ⟨(some 153), .ld (some 2) (.t 1), (some (152, true))⟩, ⟨(some 154), .ld (some 2) (.t 1), (some (152, true))⟩, ⟨(some 155), .call 219 (.k (.fn (.func 27) [] [])) [(.t 153), (.t 154)], (some (152, true))⟩, ⟨(some 156), .pick (.t 152) (.t 155) (.k (.bool false)), none⟩, ⟨(some 157), .mv (.t 156), none⟩, ⟨(some 158), .ld (some 2) (.t 1), (some (157, true))⟩, ⟨(some 159), .ld (some 2) (.t 11), (some (157, true))⟩, ⟨(some 160), .call 224 (.k (.fn (.func 27) [] [])) [(.t 158), (.t 159)], (some (157, true))⟩, ⟨(some 161), .un .not (.t 160), (some (157, true))⟩, ⟨(some 162), .pick (.t 157) (.t 161) (.k (.bool false)), none⟩, ⟨(some 0), .mv (.t 162), none⟩] none)
 .ret)))))))))))))⟩
def m18 : MFn := ⟨1, 8, [.cell 2 (some 2)], (.seq (.reg [⟨(some 1), .box 65 (.t 0), none⟩, ⟨(some 2), .alloc 66 [(.int .i64 0), .nils], none⟩] none)
 (.seq (.reg [⟨(some 3), .fa 0 (.t 1), none⟩, ⟨(some 4), .ld none (.t 3), none⟩, ⟨(some 5), .fa 1 (.t 1), none⟩, ⟨(some 6), .ld none (.t 5), none⟩, ⟨(some 7), .bld [(.int .i64 0), .nils] [(0, 1, (.t 4)), (1, 1, (.t 6))], none⟩, ⟨none, .st 2 (.t 2) (.t 7), none⟩] none)
 .ret))⟩
def m19 : MFn := ⟨3, 22, [.tmp 6, .tmp 7], (.seq (.reg [⟨(some 3), .box 67 (.t 0), none⟩, ⟨(some 6), .mv (.k (.int .i64 0)), none⟩, ⟨(some 7), .mv (.k (.bool false)), none⟩] none)
 (.seq (.seq (.reg [⟨(some 8), .ld (some 2) (.t 3), none⟩, ⟨(some 9), .mv (.t 1), none⟩, ⟨(some 10), .mv (.t 2), none⟩, ⟨(some 11), .call 75 (.k (.fn (.func 54) [] [])) [(.t 8), (.t 9), (.t 10)], none⟩, ⟨(some 12), .un .not (.t 11), none⟩] none)
 (.cond (.t 12) (.seq (.reg [⟨(some 6), .mv (.k (.int .i64 0)), none⟩, ⟨(some 7), .mv (.k (.bool false)), none⟩] none)
 .ret) .skip))
 (.seq (.reg [⟨(some 13), .fa 1 (.t 3), none⟩, ⟨(some 14), .ld none (.t 13), none⟩, ⟨(some 15), .mv (.t 1), none⟩, ⟨(some 16), .bin .sub (.t 15) (.k (.int .i64 1)), none⟩, ⟨(some 17), .ixs 1 (.t 14) (.t 16), none⟩, ⟨(some 18), .ld none (.t 17), none⟩, ⟨(some 19), .mv (.t 2), none⟩, ⟨(some 20), .ixs 1 (.t 18) (.t 19), none⟩, ⟨(some 21), .ld none (.t 20), none⟩, ⟨(some 6), .mv (.t 21), none⟩, ⟨(some 7), .mv (.k (.bool true)), none⟩] none)
 .ret)))⟩
def m20 : MFn := ⟨4, 40, [.cell 8 (some 2), .tmp 9], (.seq (.reg [⟨(some 4), .box 68 (.t 0), none⟩, ⟨(some 8), .alloc 72 [(.int .i64 0), .nils], none⟩, ⟨(some 9), .mv (.k (.bool false)), none⟩] none)
 (.seq (.seq (.reg [⟨(some 11), .ld (some 2) (.t 4), none⟩, ⟨(some 12), .mv (.t 1), none⟩, ⟨(some 13), .mv (.t 2), none⟩, ⟨(some 14), .call 78 (.k (.fn (.func 54) [] [])) [(.t 11), (.t 12), (.t 13)], none⟩, ⟨(some 15), .un .not (.t 14), none⟩, ⟨(some 16), .mv (.t 15), none⟩, ⟨(some 17), .mv (.t 3), (some (16, false))⟩, ⟨(some 18), .bin .lss (.t 17) (.k (.int .i64 0)), (some (16, false))⟩, ⟨(some 19), .pick (.t 16) (.k (.bool true)) (.t 18), none⟩, ⟨(some 20), .mv (.t 19), none⟩, ⟨(some 21), .mv (.t 3), (some (20, false))⟩, ⟨(some 22), .fa 1 (.t 4), (some (20, false))⟩, ⟨(some 23), .ld none (.t 22), (some (20, false))⟩, ⟨(some 24), .len (.t 23), (some (20, false))⟩, ⟨(some 25), .bin .gtr (.t 21) (.t 24), (some (20, false))⟩, ⟨(some 26), .pick (.t 20) (.k (.bool true)) (.t 25), none⟩] none)
 (.cond (.t 26) (.seq (.reg [⟨(some 27), .ld (some 2) (.t 4), none⟩, ⟨none, .st 2 (.t 8) (.t 27), none⟩, ⟨(some 9), .mv (.k (.bool false)), none⟩] none)
 .ret) .skip))
 (.seq (.reg [⟨(some 28), .ld (some 2) (.t 4), none⟩, ⟨(some 29), .call 93 (.k (.fn (.func 55) [] [])) [(.t 28)], none⟩, ⟨(some 10), .alloc 74 [(.int .i64 0), .nils], none⟩, ⟨none, .st 2 (.t 10) (.t 29), none⟩] none)
 (.seq (.reg [⟨(some 30), .fa 1 (.t 10), none⟩, ⟨(some 31), .ld none (.t 30), none⟩, ⟨(some 32), .mv (.t 1), none⟩, ⟨(some 33), .bin .sub (.t 32) (.k (.int .i64 1)), none⟩, ⟨(some 34), .ixs 1 (.t 31) (.t 33), none⟩, ⟨(some 35), .ld none (.t 34), none⟩, ⟨(some 36), .mv (.t 2), none⟩, ⟨(some 37), .mv (.t 3), none⟩, ⟨(some 38), .ixs 1 (.t 35) (.t 36), none⟩, ⟨none, .st 1 (.t 38) (.t 37), none⟩] none)
 (.seq (.reg [⟨(some 39), .ld (some 2) (.t 10), none⟩, ⟨none, .st 2 (.t 8) (.t 39), none⟩, ⟨(some 9), .mv (.k (.bool true)), none⟩] none)
 .ret)))))⟩
def m21 : MFn := ⟨2, 31, [.cell 4 (some 2), .tmp 5, .tmp 6], (.seq (.reg [⟨(some 2), .box 66 (.t 0), none⟩, ⟨(some 4), .alloc 68 [(.int .i64 0), .nils], none⟩, ⟨(some 5), .mv (.k (.int .i64 0)), none⟩, ⟨(some 6), .mv (.k (.int .i64 0)), none⟩] none)
 (.seq (.seq (.reg [⟨(some 7), .ld (some 2) (.t 2), none⟩, ⟨(some 8), .call 72 (.k (.fn (.func 7) [] [])) [(.t 7)], none⟩, ⟨(some 9), .un .not (.t 8), none⟩] none)
 (.cond (.t 9) (.seq (.reg [⟨(some 10), .ld (some 2) (.t 2), none⟩, ⟨none, .st 2 (.t 4) (.t 10), none⟩, ⟨(some 5), .mv (.k (.int .i64 0)), none⟩, ⟨(some 6), .mv (.k (.int .i64 1)), none⟩] none)
 .ret) .skip))
 (.seq (.seq (.reg [⟨(some 11), .fa 1 (.t 2), none⟩, ⟨(some 12), .ld none (.t 11), none⟩, ⟨(some 13), .len (.t 12), none⟩, ⟨(some 14), .mv (.t 1), none⟩, ⟨(some 15), .mn (.t 14) (.k (.int .i64 64)), none⟩, ⟨(some 16), .bin .geq (.t 13) (.t 15), none⟩] none)
 (.cond (.t 16) (.seq (.reg [⟨(some 17), .ld (some 2) (.t 2), none⟩, ⟨none, .st 2 (.t 4) (.t 17), none⟩, ⟨(some 5), .mv (.k (.int .i64 0)), none⟩, ⟨(some 6), .mv (.k (.int .i64 4)), none⟩] none)
 .ret) .skip))
 (.seq (.reg [⟨(some 18), .fa 1 (.t 2), none⟩, ⟨(some 19), .ld none (.t 18), none⟩, ⟨(some 20), .call 84 (.k (.fn (.func 56) [] [])) [(.t 19)], none⟩, ⟨(some 21), .fa 0 (.t 2), none⟩, ⟨(some 22), .ld none (.t 21), none⟩, ⟨(some 23), .mks 87 1 8 (.int .i64 0) (.t 22), none⟩, ⟨(some 24), .bslt 1 [(.t 23)], none⟩, ⟨(some 25), .app 89 1 24 (.t 20) (.t 24), none⟩, ⟨(some 26), .fa 1 (.t 2), none⟩, ⟨none, .st 1 (.t 26) (.t 25), none⟩] (some [(1, 4), (2, 4), (1, 5), (2, 5), (1, 6), (2, 6)]))
 (.seq (.reg [⟨(some 27), .ld (some 2) (.t 2), none⟩, ⟨(some 28), .fa 1 (.t 2), none⟩, ⟨(some 29), .ld none (.t 28), none⟩, ⟨(some 30), .len (.t 29), none⟩, ⟨none, .st 2 (.t 4) (.t 27), none⟩, ⟨(some 5), .mv (.t 30), none⟩, ⟨(some 6), .mv (.k (.int .i64 0)), none⟩] (some [(0, 2), (0, 3), (2, 4), (3, 4)]))
 .ret)))))⟩
def m22 : MFn := ⟨2, 38, [.cell 4 (some 2), .tmp 5, .tmp 6], (.seq (.reg [⟨(some 2), .box 66 (.t 0), none⟩, ⟨(some 4), .alloc 68 [(.int .i64 0), .nils], none⟩, ⟨(some 5), .mv (.k (.int .i64 0)), none⟩, ⟨(some 6), .mv (.k (.int .i64 0)), none⟩] none)
 (.seq (.seq (.reg [⟨(some 8), .ld (some 2) (.t 2), none⟩, ⟨(some 9), .call 73 (.k (.fn (.func 26) [] [])) [(.t 8)], none⟩, ⟨(some 10), .un .not (.t 9), none⟩] none)
 (.cond (.t 10) (.seq (.reg [⟨(some 11), .ld (some 2) (.t 2), none⟩, ⟨none, .st 2 (.t 4) (.t 11), none⟩, ⟨(some 5), .mv (.k (.int .i64 0)), none⟩, ⟨(some 6), .mv (.k (.int .i64 1)), none⟩] none)
 .ret) .skip))
 (.seq (.seq (.reg [⟨(some 12), .fa 1 (.t 2), none⟩, ⟨(some 13), .ld none (.t 12), none⟩, ⟨(some 14), .len (.t 13), none⟩, ⟨(some 15), .mv (.t 1), none⟩, ⟨(some 16), .bin .geq (.t 14) (.t 15), none⟩, ⟨(some 17), .mv (.t 16), none⟩, ⟨(some 18), .fa 1 (.t 2), (some (17, false))⟩, ⟨(some 19), .ld none (.t 18), (some (17, false))⟩, ⟨(some 20), .len (.t 19), (some (17, false))⟩, ⟨(some 21), .bin .geq (.t 20) (.k (.int .i64 64)), (some (17, false))⟩, ⟨(some 22), .pick (.t 17) (.k (.bool true)) (.t 21), none⟩] none)
 (.cond (.t 22) (.seq (.reg [⟨(some 23), .ld (some 2) (.t 2), none⟩, ⟨none, .st 2 (.t 4) (.t 23), none⟩, ⟨(some 5), .mv (.k (.int .i64 0)), none⟩, ⟨(some 6), .mv (.k (.int .i64 4)), none⟩] none)
 .ret) .skip))
 (.seq (.reg [⟨(some 24), .ld (some 2) (.t 2), none⟩, ⟨(some 25), .call 89 (.k (.fn (.func 55) [] [])) [(.t 24)], none⟩, ⟨(some 7), .alloc 71 [(.int .i64 0), .nils], none⟩, ⟨none, .st 2 (.t 7) (.t 25), none⟩] none)
 (.seq (.reg [⟨(some 26), .fa 1 (.t 7), none⟩, ⟨(some 27), .ld none (.t 26), none⟩, ⟨(some 28), .fa 0 (.t 2), none⟩, ⟨(some 29), .ld none (.t 28), none⟩, ⟨(some 30), .mks 94 1 8 (.int .i64 0) (.t 29), none⟩, ⟨(some 31), .bslt 1 [(.t 30)], none⟩, ⟨(some 32), .app 96 1 24 (.t 27) (.t 31), none⟩, ⟨(some 33), .fa 1 (.t 7), none⟩, ⟨none, .st 1 (.t 33) (.t 32), none⟩] (some [(1, 3), (1, 4), (1, 5)]))
 (.seq (.reg [⟨(some 34), .ld (some 2) (.t 7), none⟩, ⟨(some 35), .fa 1 (.t 7), none⟩, ⟨(some 36), .ld none (.t 35), none⟩, ⟨(some 37), .len (.t 36), none⟩, ⟨none, .st 2 (.t 4) (.t 34), none⟩, ⟨(some 5), .mv (.t 37), none⟩, ⟨(some 6), .mv (.k (.int .i64 0)), none⟩] (some [(0, 2), (0, 3), (2, 4), (3, 4)]))
 .ret))))))⟩
def m23 : MFn := ⟨1, 53, [.cell 2 (some 2), .cell 3 none], (.seq (.reg [⟨(some 2), .alloc 66 [(.int .i64 0), .nils], none⟩, ⟨(some 3), .alloc 67 [(.int .i64 0)], none⟩] none)
 (.seq (.reg [⟨(some 11), .mkf (.func 57) [] [(.t 2), (.t 3)], none⟩, ⟨none, .stop, none⟩] none)
 (.seq (.reg [⟨(some 12), .mv (.t 0), none⟩, ⟨(some 13), .call 77 (.k (.fn (.func 58) [] [])) [(.t 12), (.k (.str ⟨#[124]⟩))], none⟩, ⟨(some 4), .mv (.t 13), none⟩] none)
 (.seq (.reg [⟨(some 14), .mv (.t 4), none⟩, ⟨(some 15), .ixs 1 (.t 14) (.k (.int .i64 0)), none⟩, ⟨(some 16), .ld none (.t 15), none⟩, ⟨(some 17), .call 81 (.k (.fn (.func 59) [] [])) [(.t 16)], none⟩, ⟨(some 18), .bld [(.int .i64 0), .nils] [(0, 1, (.t 17))], none⟩, ⟨(some 5), .alloc 69 [(.int .i64 0), .nils], none⟩, ⟨none, .st 2 (.t 5) (.t 18), none⟩] none)
 (.seq (.seq (.reg [⟨(some 19), .mv (.t 4), none⟩, ⟨(some 20), .sll 1 (.t 19) (some (.k (.int .i64 1))) none, none⟩, ⟨(some 21), .len (.t 20), none⟩, ⟨(some 22), .mv (.k (.int .i64 0)), none⟩] none)
 (.block 0 (.loop (.seq (.reg [⟨(some 23), .bin .lss (.t 22) (.t 21), none⟩] none)
 (.seq (.cond (.t 23) .skip (.exit 0))
 (.seq (.block 1 (.seq (.reg [⟨(some 24), .ixs 1 (.t 20) (.t 22), none⟩, ⟨(some 25), .ld none (.t 24), none⟩, ⟨(some 7), .mv (.t 25), none⟩] none)
 (.seq (.reg [⟨(some 8), .mv (.k .nils), none⟩] none)
 (.seq (.seq (.reg [⟨(some 26), .mv (.t 7), none⟩, ⟨(some 27), .call 91 (.k (.fn (.func 58) [] [])) [(.t 26), (.k (.str ⟨#[44]⟩))], none⟩, ⟨(some 28), .len (.t 27), none⟩, ⟨(some 29), .mv (.k (.int .i64 0)), none⟩] none)
 (.block 2 (.loop (.seq (.reg [⟨(some 30), .bin .lss (.t 29) (.t 28), none⟩] none)
 (.seq (.cond (.t 30) .skip (.exit 2))
 (.seq (.block 3 (.seq (.reg [⟨(some 31), .ixs 1 (.t 27) (.t 29), none⟩, ⟨(some 32), .ld none (.t 31), none⟩, ⟨(some 10), .mv (.t 32), none⟩] none)
 (.reg [⟨(some 33), .mv (.t 8), none⟩, ⟨(some 34), .mv (.t 10), none⟩, ⟨(some 35), .call 99 (.k (.fn (.func 59) [] [])) [(.t 34)], none⟩, ⟨(some 36), .bslt 1 [(.t 35)], none⟩, ⟨(some 37), .app 101 1 8 (.t 33) (.t 36), none⟩, ⟨(some 8), .mv (.t 37), none⟩] none)))
 (.reg [⟨(some 38), .bin .add (.t 29) (.k (.int .i64 1)), none⟩, ⟨(some 29), .mv (.t 38), none⟩] none)))))))
 (.reg [⟨(some 39), .fa 1 (.t 5), none⟩, ⟨(some 40), .ld none (.t 39), none⟩, ⟨(some 41), .mv (.t 8), none⟩, ⟨(some 42), .bslt 1 [(.t 41)], none⟩, ⟨(some 43), .app 107 1 24 (.t 40) (.t 42), none⟩, ⟨(some 44), .fa 1 (.t 5), none⟩, ⟨none, .st 1 (.t 44) (.t 43), none⟩] none)))))
 (.reg [⟨(some 45), .bin .add (.t 22) (.k (.int .i64 1)), none⟩, ⟨(some 22), .mv (.t 45), none⟩] none)))))))
 (.seq (.seq (.reg [⟨(some 46), .ld (some 2) (.t 5), none⟩, ⟨(some 47), .call 111 (.k (.fn (.func 29) [] [])) [(.t 46)], none⟩, ⟨(some 48), .mv (.t 0), none⟩, ⟨(some 49), .bin .neq (.t 47) (.t 48), none⟩] none)
 (.cond (.t 49) (.reg [⟨(some 50), .mv (.t 0), none⟩, ⟨(some 51), .mki 97 (.t 50), none⟩, ⟨none, .pan (.t 51), none⟩] none) .skip))
 (.seq (.reg [⟨(some 52), .ld (some 2) (.t 5), none⟩, ⟨none, .st 2 (.t 2) (.t 52), none⟩, ⟨none, .st 1 (.t 3) (.k (.int .i64 0)), none⟩] none)
 .ret)))))))⟩
def m24 : MFn := ⟨1, 58, [.cell 2 (some 2), .tmp 3], (.seq (.reg [⟨(some 2), .alloc 66 [(.int .i64 0), .nils], none⟩, ⟨(some 3), .mv (.k (.int .i64 0)), none⟩] none)
 (.seq (.reg [⟨(some 10), .mv (.t 0), none⟩, ⟨(some 11), .call 75 (.k (.fn (.func 60) [] [])) [(.t 10), (.k (.int .u8 124))], none⟩, ⟨(some 4), .mv (.t 11), none⟩] none)
 (.seq (.reg [⟨(some 12), .mv (.t 4), none⟩, ⟨(some 13), .ixs 1 (.t 12) (.k (.int .i64 0)), none⟩, ⟨(some 14), .ld none (.t 13), none⟩, ⟨(some 15), .call 79 (.k (.fn (.func 61) [] [])) [(.t 14)], none⟩, ⟨(some 16), .bld [(.int .i64 0), .nils] [(0, 1, (.t 15))], none⟩, ⟨(some 5), .alloc 69 [(.int .i64 0), .nils], none⟩, ⟨none, .st 2 (.t 5) (.t 16), none⟩] none)
 (.seq (.seq (.reg [⟨(some 6), .mv (.k (.int .i64 1)), none⟩] none)
 (.block 0 (.loop (.seq (.seq (.reg [⟨(some 17), .mv (.t 6), none⟩, ⟨(some 18), .mv (.t 4), none⟩, ⟨(some 19), .len (.t 18), none⟩, ⟨(some 20), .bin .lss (.t 17) (.t 19), none⟩] none)
 (.cond (.t 20) .skip (.exit 0)))
 (.seq (.block 1 (.seq (.reg [⟨(some 23), .mv (.t 4), none⟩, ⟨(some 24), .mv (.t 6), none⟩, ⟨(some 25), .ixs 1 (.t 23) (.t 24), none⟩, ⟨(some 26), .ld none (.t 25), none⟩, ⟨(some 27), .call 91 (.k (.fn (.func 60) [] [])) [(.t 26), (.k (.int .u8 44))], none⟩, ⟨(some 7), .mv (.t 27), none⟩] none)
 (.seq (.reg [⟨(some 8), .mv (.k .nils), none⟩] none)
 (.seq (.seq (.reg [⟨(some 9), .mv (.k (.int .i64 0)), none⟩] none)
 (.block 2 (.loop (.seq (.seq (.reg [⟨(some 28), .mv (.t 9), none⟩, ⟨(some 29), .mv (.t 7), none⟩, ⟨(some 30), .len (.t 29), none⟩, ⟨(some 31), .bin .lss (.t 28) (.t 30), none⟩] none)
 (.cond (.t 31) .skip (.exit 2)))
 (.seq (.block 3 (.reg [⟨(some 34), .mv (.t 8), none⟩, ⟨(some 35), .mv (.t 7), none⟩, ⟨(some 36), .mv (.t 9), none⟩, ⟨(some 37), .ixs 1 (.t 35) (.t 36), none⟩, ⟨(some 38), .ld none (.t 37), none⟩, ⟨(some 39), .call 103 (.k (.fn (.func 61) [] [])) [(.t 38)], none⟩, ⟨(some 40), .bslt 1 [(.t 39)], none⟩, ⟨(some 41), .app 105 1 8 (.t 34) (.t 40), none⟩, ⟨(some 8), .mv (.t 41), none⟩] none))
 (.reg [⟨(some 32), .mv (.t 9), none⟩, ⟨(some 33), .bin .add (.t 32) (.k (.int .i64 1)), none⟩, ⟨(some 9), .mv (.t 33), none⟩] none))))))
 (.reg [⟨(some 42), .fa 1 (.t 5), none⟩, ⟨(some 43), .ld none (.t 42), none⟩, ⟨(some 44), .mv (.t 8), none⟩, ⟨(some 45), .bslt 1 [(.t 44)], none⟩, ⟨(some 46), .app 110 1 24 (.t 43) (.t 45), none⟩, ⟨(some 47), .fa 1 (.t 5), none⟩, ⟨none, .st 1 (.t 47) (.t 46), none⟩] none)))))
 (.reg [⟨(some 21), .mv (.t 6), none⟩, ⟨(some 22), .bin .add (.t 21) (.k (.int .i64 1)), none⟩, ⟨(some 6), .mv (.t 22), none⟩] none))))))
 (.seq (.seq (.reg [⟨(some 48), .ld (some 2) (.t 5), none⟩, ⟨(some 49), .call 113 (.k (.fn (.func 30) [] [])) [(.t 48)], none⟩, ⟨(some 50), .mv (.t 0), none⟩, ⟨(some 51), .bin .neq (.t 49) (.t 50), none⟩, ⟨(some 52), .mv (.t 51), none⟩, ⟨(some 53), .mv (.t 0), (some (52, false))⟩, ⟨(some 54), .bin .eql (.t 53) (.k (.str ⟨#[63]⟩)), (some (52, false))⟩, ⟨(some 55), .pick (.t 52) (.k (.bool true)) (.t 54), none⟩] none)
 (.cond (.t 55) (.seq (.reg [⟨(some 56), .bld [(.int .i64 0), .nils] [], none⟩, ⟨none, .st 2 (.t 2) (.t 56), none⟩, ⟨(some 3), .mv (.k (.int .i64 2)), none⟩] none)
 .ret) .skip))
 (.seq (.reg [⟨(some 57), .ld (some 2) (.t 5), none⟩, ⟨none, .st 2 (.t 2) (.t 57), none⟩, ⟨(some 3), .mv (.k (.int .i64 0)), none⟩] none)
 .ret))))))⟩
def m25 : MFn := ⟨2, 9, [.tmp 4], (.seq (.reg [⟨(some 2), .box 66 (.t 0), none⟩, ⟨(some 3), .box 67 (.t 1), none⟩, ⟨(some 4), .mv (.k (.bool false)), none⟩] none)
 (.seq (.reg [⟨(some 5), .ld (some 2) (.t 2), none⟩, ⟨(some 6), .call 70 (.k (.fn (.func 18) [] [])) [(.t 5)], none⟩, ⟨(some 7), .ld (some 2) (.t 3), none⟩, ⟨(some 8), .call 72 (.k (.fn (.func 28) [] [])) [(.t 6), (.t 7)], none⟩, ⟨(some 4), .mv (.t 8), none⟩] (some [(0, 2), (1, 2)]))
 .ret))⟩
def m26 : MFn := ⟨1, 68, [.tmp 2], (.seq (.reg [⟨(some 1), .box 65 (.t 0), none⟩, ⟨(some 2), .mv (.k (.bool false)), none⟩] none)
 (.seq (.seq (.reg [⟨(some 5), .fa 0 (.t 1), none⟩, ⟨(some 6), .ld none (.t 5), none⟩, ⟨(some 7), .bin .lss (.t 6) (.k (.int .i64 1)), none⟩, ⟨(some 8), .mv (.t 7), none⟩, ⟨(some 9), .fa 0 (.t 1), (some (8, false))⟩, ⟨(some 10), .ld none (.t 9), (some (8, false))⟩, ⟨(some 11), .bin .gtr (.t 10) (.k (.int .i64 4)), (some (8, false))⟩, ⟨(some 12), .pick (.t 8) (.k (.bool true)) (.t 11), none⟩, ⟨(some 13), .mv (.t 12), none⟩, ⟨(some 14), .fa 1 (.t 1), (some (13, false))⟩, ⟨(some 15), .ld none (.t 14), (some (13, false))⟩, ⟨(some 16), .len (.t 15), (some (13, false))⟩, ⟨(some 17), .bin .gtr (.t 16) (.k (.int .i64 64)), (some (13, false))⟩, ⟨(some 18), .pick (.t 13) (.k (.bool true)) (.t 17), none⟩] none)
 (.cond (.t 18) (.seq (.reg [⟨(some 2), .mv (.k (.bool false)), none⟩] none)
 .ret) .skip))
 (.seq (.seq (.reg [⟨(some 3), .mv (.k (.int .i64 0)), none⟩] none)
 (.block 0 (.loop (.seq (.seq (.reg [⟨(some 19), .mv (.t 3), none⟩, ⟨(some 20), .fa 1 (.t 1), none⟩, ⟨(some 21), .ld none (.t 20), none⟩, ⟨(some 22), .len (.t 21), none⟩, ⟨(some 23), .bin .lss (.t 19) (.t 22), none⟩] none)
 (.cond (.t 23) .skip (.exit 0)))
 (.seq (.block 1 (.seq (.seq (.reg [⟨(some 26), .fa 1 (.t 1), none⟩, ⟨(some 27), .ld none (.t 26), none⟩, ⟨(some 28), .mv (.t 3), none⟩, ⟨(some 29), .ixs 1 (.t 27) (.t 28), none⟩, ⟨(some 30), .ld none (.t 29), none⟩, ⟨(some 31), .len (.t 30), none⟩, ⟨(some 32), .fa 0 (.t 1), none⟩, ⟨(some 33), .ld none (.t 32), none⟩, ⟨(some 34), .bin .neq (.t 31) (.t 33), none⟩] (some [(1, 7), (3, 7), (4, 7), (5, 7)]))
 (.cond (.t 34) (.seq (.reg [⟨(some 2), .mv (.k (.bool false)), none⟩] none)
 .ret) .skip))
 (.seq (.reg [⟨(some 4), .mv (.k (.int .i64 0)), none⟩] none)
 (.block 2 (.loop (.seq (.seq (.reg [⟨(some 35), .mv (.t 4), none⟩, ⟨(some 36), .fa 1 (.t 1), none⟩, ⟨(some 37), .ld none (.t 36), none⟩, ⟨(some 38), .mv (.t 3), none⟩, ⟨(some 39), .ixs 1 (.t 37) (.t 38), none⟩, ⟨(some 40), .ld none (.t 39), none⟩, ⟨(some 41), .len (.t 40), none⟩, ⟨(some 42), .bin .lss (.t 35) (.t 41), none⟩] none)
 (.cond (.t 42) .skip (.exit 2)))
 (.seq (.block 3 (.seq (.reg [⟨(some 45), .fa 1 (.t 1), none⟩, ⟨(some 46), .ld none (.t 45), none⟩, ⟨(some 47), .mv (.t 3), none⟩, ⟨(some 48), .ixs 1 (.t 46) (.t 47), none⟩, ⟨(some 49), .ld none (.t 48), none⟩, ⟨(some 50), .mv (.t 4), none⟩, ⟨(some 51), .ixs 1 (.t 49) (.t 50), none⟩, ⟨(some 52), .ld none (.t 51), none⟩, ⟨(some 53), .bin .lss (.t 52) (.k (.int .i64 0)), none⟩, ⟨(some 54), .mv (.t 53), none⟩, ⟨(some 55), .fa 1 (.t 1), (some (54, false))⟩, ⟨(some 56), .ld none (.t 55), (some (54, false))⟩, ⟨(some 57), .mv (.t 3), (some (54, false))⟩, ⟨(some 58), .ixs 1 (.t 56) (.t 57), (some (54, false))⟩, ⟨(some 59), .ld none (.t 58), (some (54, false))⟩, ⟨(some 60), .mv (.t 4), (some (54, false))⟩, ⟨(some 61), .ixs 1 (.t 59) (.t 60), (some (54, false))⟩, ⟨(some 62), .ld none (.t 61), (some (54, false))⟩, ⟨(some 63), .fa 1 (.t 1), (some (54, false))⟩, ⟨(some 64), .ld none (.t 63), (some (54, false))⟩, ⟨(some 65), .len (.t 64), (some (54, false))⟩, ⟨(some 66), .bin .gtr (.t 62) (.t 65), (some (54, false))⟩, ⟨(some 67), .pick (.t 54) (.k (.bool true)) (.t 66), none⟩] (some [(11, 19), (13, 19), (14, 19), (16, 19), (17, 19), (11, 20), (13, 20), (14, 20), (16, 20), (17, 20)]))
 (.cond (.t 67) (.seq (.reg [⟨(some 2), .mv (.k (.bool false)), none⟩] none)
 .ret) .skip)))
 (.reg [⟨(some 43), .mv (.t 4), none⟩, ⟨(some 44), .bin .add (.t 43) (.k (.int .i64 1)), none⟩, ⟨(some 4), .mv (.t 44), none⟩] none))))))))
 (.reg [⟨(some 24), .mv (.t 3), none⟩, ⟨(some 25), .bin .add (.t 24) (.k (.int .i64 1)), none⟩, ⟨(some 3), .mv (.t 25), none⟩] none))))))
 (.seq (.reg [⟨(some 2), .mv (.k (.bool true)), none⟩] none)
 .ret))))⟩
def m27 : MFn := ⟨2, 17, [.tmp 4], (.seq (.reg [⟨(some 2), .box 66 (.t 0), none⟩, ⟨(some 3), .box 67 (.t 1), none⟩, ⟨(some 4), .mv (.k (.bool false)), none⟩] none)
 (.seq (.reg [⟨(some 5), .fa 0 (.t 2), none⟩, ⟨(some 6), .ld none (.t 5), none⟩, ⟨(some 7), .fa 0 (.t 3), none⟩, ⟨(some 8), .ld none (.t 7), none⟩, ⟨(some 9), .bin .eql (.t 6) (.t 8), none⟩, ⟨(some 10), .mv (.t 9), none⟩, ⟨(some 11), .fa 1 (.t 2), (some (10, true))⟩, ⟨(some 12), .ld none (.t 11), (some (10, true))⟩, ⟨(some 13), .fa 1 (.t 3), (some (10, true))⟩, ⟨(some 14), .ld none (.t 13), (some (10, true))⟩, ⟨(some 15), .call 79 (.k (.fn (.func 62) [] [])) [(.t 12), (.t 14), (.k (.fn (.func 63) [] []))], (some (10, true))⟩, ⟨(some 16), .pick (.t 10) (.t 15) (.k (.bool false)), none⟩, ⟨(some 4), .mv (.t 16), none⟩] none)
 .ret))⟩
def m28 : MFn := ⟨2, 68, [.tmp 4], (.seq (.reg [⟨(some 2), .box 66 (.t 0), none⟩, ⟨(some 3), .box 67 (.t 1), none⟩, ⟨(some 4), .mv (.k (.bool false)), none⟩] none)
 (.seq (.seq (.reg [⟨(some 7), .fa 0 (.t 2), none⟩, ⟨(some 8), .ld none (.t 7), none⟩, ⟨(some 9), .fa 0 (.t 3), none⟩, ⟨(some 10), .ld none (.t 9), none⟩, ⟨(some 11), .bin .neq (.t 8) (.t 10), none⟩, ⟨(some 12), .mv (.t 11), none⟩, ⟨(some 13), .fa 1 (.t 2), (some (12, false))⟩, ⟨(some 14), .ld none (.t 13), (some (12, false))⟩, ⟨(some 15), .len (.t 14), (some (12, false))⟩, ⟨(some 16), .fa 1 (.t 3), (some (12, false))⟩, ⟨(some 17), .ld none (.t 16), (some (12, false))⟩, ⟨(some 18), .len (.t 17), (some (12, false))⟩, ⟨(some 19), .bin .neq (.t 15) (.t 18), (some (12, false))⟩, ⟨(some 20), .pick (.t 12) (.k (.bool true)) (.t 19), none⟩] none)
 (.cond (.t 20) (.seq (.reg [⟨(some 4), .mv (.k (.bool false)), none⟩] none)
 .ret) .skip))
 (.seq (.seq (.reg [⟨(some 5), .mv (.k (.int .i64 0)), none⟩] none)
 (.block 0 (.loop (.seq (.seq (.reg [⟨(some 21), .mv (.t 5), none⟩, ⟨(some 22), .fa 1 (.t 2), none⟩, ⟨(some 23), .ld none (.t 22), none⟩, ⟨(some 24), .len (.t 23), none⟩, ⟨(some 25), .bin .lss (.t 21) (.t 24), none⟩] none)
 (.cond (.t 25) .skip (.exit 0)))
 (.seq (.block 1 (.seq (.seq (.reg [⟨(some 28), .fa 1 (.t 2), none⟩, ⟨(some 29), .ld none (.t 28), none⟩, ⟨(some 30), .mv (.t 5), none⟩, ⟨(some 31), .ixs 1 (.t 29) (.t 30), none⟩, ⟨(some 32), .ld none (.t 31), none⟩, ⟨(some 33), .len (.t 32), none⟩, ⟨(some 34), .fa 1 (.t 3), none⟩, ⟨(some 35), .ld none (.t 34), none⟩, ⟨(some 36), .mv (.t 5), none⟩, ⟨(some 37), .ixs 1 (.t 35) (.t 36), none⟩, ⟨(some 38), .ld none (.t 37), none⟩, ⟨(some 39), .len (.t 38), none⟩, ⟨(some 40), .bin .neq (.t 33) (.t 39), none⟩] (some [(1, 7), (3, 7), (4, 7), (5, 7), (1, 9), (3, 9), (4, 9), (5, 9), (1, 10), (3, 10), (4, 10), (5, 10), (1, 11), (3, 11), (4, 11), (5, 11)]))
 (.cond (.t 40) (.seq (.reg [⟨(some 4), .mv (.k (.bool false)), none⟩] none)
 .ret) .skip))
 (.seq (.reg [⟨(some 6), .mv (.k (.int .i64 0)), none⟩] none)
 (.block 2 (.loop (.seq (.seq (.reg [⟨(some 41), .mv (.t 6), none⟩, ⟨(some 42), .fa 1 (.t 2), none⟩, ⟨(some 43), .ld none (.t 42), none⟩, ⟨(some 44), .mv (.t 5), none⟩, ⟨(some 45), .ixs 1 (.t 43) (.t 44), none⟩, ⟨(some 46), .ld none (.t 45), none⟩, ⟨(some 47), .len (.t 46), none⟩, ⟨(some 48), .bin .lss (.t 41) (.t 47), none⟩] none)
 (.cond (.t 48) .skip (.exit 2)))
 (.seq (.block 3 (.seq (.reg [⟨(some 51), .fa 1 (.t 2), none⟩, ⟨(some 52), .ld none (.t 51), none⟩, ⟨(some 53), .mv (.t 5), none⟩, ⟨(some 54), .ixs 1 (.t 52) (.t 53), none⟩, ⟨(some 55), .ld none (.t 54), none⟩, ⟨(some 56), .mv (.t 6), none⟩, ⟨(some 57), .ixs 1 (.t 55) (.t 56), none⟩, ⟨(some 58), .ld none (.t 57), none⟩, ⟨(some 59), .fa 1 (.t 3), none⟩, ⟨(some 60), .ld none (.t 59), none⟩, ⟨(some 61), .mv (.t 5), none⟩, ⟨(some 62), .ixs 1 (.t 60) (.t 61), none⟩, ⟨(some 63), .ld none (.t 62), none⟩, ⟨(some 64), .mv (.t 6), none⟩, ⟨(some 65), .ixs 1 (.t 63) (.t 64), none⟩, ⟨(some 66), .ld none (.t 65), none⟩, ⟨(some 67), .bin .neq (.t 58) (.t 66), none⟩] (some [(1, 9), (3, 9), (4, 9), (6, 9), (7, 9), (1, 11), (3, 11), (4, 11), (6, 11), (7, 11), (1, 12), (3, 12), (4, 12), (6, 12), (7, 12), (1, 14), (3, 14), (4, 14), (6, 14), (7, 14), (1, 15), (3, 15), (4, 15), (6, 15), (7, 15)]))
 (.cond (.t 67) (.seq (.reg [⟨(some 4), .mv (.k (.bool false)), none⟩] none)
 .ret) .skip)))
 (.reg [⟨(some 49), .mv (.t 6), none⟩, ⟨(some 50), .bin .add (.t 49) (.k (.int .i64 1)), none⟩, ⟨(some 6), .mv (.t 50), none⟩] none))))))))
 (.reg [⟨(some 26), .mv (.t 5), none⟩, ⟨(some 27), .bin .add (.t 26) (.k (.int .i64 1)), none⟩, ⟨(some 5), .mv (.t 27), none⟩] none))))))
 (.seq (.reg [⟨(some 4), .mv (.k (.bool true)), none⟩] none)
 .ret))))⟩
def m29 : MFn := ⟨1, 41, [.tmp 2], (.seq (.reg [⟨(some 1), .box 65 (.t 0), none⟩, ⟨(some 2), .mv (.k (.str ⟨#[]⟩)), none⟩] none)
 (.seq (.seq (.reg [⟨(some 9), .ld (some 2) (.t 1), none⟩, ⟨(some 10), .call 74 (.k (.fn (.func 7) [] [])) [(.t 9)], none⟩, ⟨(some 11), .un .not (.t 10), none⟩] none)
 (.cond (.t 11) (.seq (.reg [⟨(some 2), .mv (.k (.str ⟨#[63]⟩)), none⟩] none)
 .ret) .skip))
 (.seq (.reg [⟨(some 12), .fa 0 (.t 1), none⟩, ⟨(some 13), .ld none (.t 12), none⟩, ⟨(some 14), .call 78 (.k (.fn (.func 64) [] [])) [(.t 13)], none⟩, ⟨(some 3), .mv (.t 14), none⟩] none)
 (.seq (.seq (.reg [⟨(some 15), .fa 1 (.t 1), none⟩, ⟨(some 16), .ld none (.t 15), none⟩, ⟨(some 17), .len (.t 16), none⟩, ⟨(some 18), .mv (.k (.int .i64 0)), none⟩] none)
 (.block 0 (.loop (.seq (.reg [⟨(some 19), .bin .lss (.t 18) (.t 17), none⟩] none)
 (.seq (.cond (.t 19) .skip (.exit 0))
 (.seq (.block 1 (.seq (.reg [⟨(some 20), .ixs 1 (.t 16) (.t 18), none⟩, ⟨(some 21), .ld none (.t 20), none⟩, ⟨(some 5), .mv (.t 21), none⟩] none)
 (.seq (.reg [⟨(some 6), .mv (.k .nils), none⟩] none)
 (.seq (.seq (.reg [⟨(some 22), .mv (.t 5), none⟩, ⟨(some 23), .len (.t 22), none⟩, ⟨(some 24), .mv (.k (.int .i64 0)), none⟩] none)
 (.block 2 (.loop (.seq (.reg [⟨(some 25), .bin .lss (.t 24) (.t 23), none⟩] none)
 (.seq (.cond (.t 25) .skip (.exit 2))
 (.seq (.block 3 (.seq (.reg [⟨(some 26), .ixs 1 (.t 22) (.t 24), none⟩, ⟨(some 27), .ld none (.t 26), none⟩, ⟨(some 8), .mv (.t 27), none⟩] none)
 (.reg [⟨(some 28), .mv (.t 6), none⟩, ⟨(some 29), .mv (.t 8), none⟩, ⟨(some 30), .call 94 (.k (.fn (.func 64) [] [])) [(.t 29)], none⟩, ⟨(some 31), .bslt 1 [(.t 30)], none⟩, ⟨(some 32), .app 96 1 16 (.t 28) (.t 31), none⟩, ⟨(some 6), .mv (.t 32), none⟩] none)))
 (.reg [⟨(some 33), .bin .add (.t 24) (.k (.int .i64 1)), none⟩, ⟨(some 24), .mv (.t 33), none⟩] none)))))))
 (.reg [⟨(some 34), .mv (.t 3), none⟩, ⟨(some 35), .mv (.t 6), none⟩, ⟨(some 36), .call 100 (.k (.fn (.func 65) [] [])) [(.t 35), (.k (.str ⟨#[44]⟩))], none⟩, ⟨(some 37), .bin .add (.k (.str ⟨#[124]⟩)) (.t 36), none⟩, ⟨(some 38), .bin .add (.t 34) (.t 37), none⟩, ⟨(some 3), .mv (.t 38), none⟩] none)))))
 (.reg [⟨(some 39), .bin .add (.t 18) (.k (.int .i64 1)), none⟩, ⟨(some 18), .mv (.t 39), none⟩] none)))))))
 (.seq (.reg [⟨(some 40), .mv (.t 3), none⟩, ⟨(some 2), .mv (.t 40), none⟩] none)
 .ret)))))⟩
def m30 : MFn := ⟨1, 49, [.tmp 2], (.seq (.reg [⟨(some 1), .box 65 (.t 0), none⟩, ⟨(some 2), .mv (.k (.str ⟨#[]⟩)), none⟩] none)
 (.seq (.seq (.reg [⟨(some 6), .ld (some 2) (.t 1), none⟩, ⟨(some 7), .call 71 (.k (.fn (.func 26) [] [])) [(.t 6)], none⟩, ⟨(some 8), .un .not (.t 7), none⟩] none)
 (.cond (.t 8) (.seq (.reg [⟨(some 2), .mv (.k (.str ⟨#[63]⟩)), none⟩] none)
 .ret) .skip))
 (.seq (.reg [⟨(some 9), .fa 0 (.t 1), none⟩, ⟨(some 10), .ld none (.t 9), none⟩, ⟨(some 11), .conv .u64 (.t 10), none⟩, ⟨(some 12), .call 76 (.k (.fn (.func 66) [] [])) [(.t 11)], none⟩, ⟨(some 3), .mv (.t 12), none⟩] none)
 (.seq (.seq (.reg [⟨(some 4), .mv (.k (.int .i64 0)), none⟩] none)
 (.block 0 (.loop (.seq (.seq (.reg [⟨(some 13), .mv (.t 4), none⟩, ⟨(some 14), .fa 1 (.t 1), none⟩, ⟨(some 15), .ld none (.t 14), none⟩, ⟨(some 16), .len (.t 15), none⟩, ⟨(some 17), .bin .lss (.t 13) (.t 16), none⟩] none)
 (.cond (.t 17) .skip (.exit 0)))
 (.seq (.block 1 (.seq (.reg [⟨(some 20), .mv (.t 3), none⟩, ⟨(some 21), .bin .add (.t 20) (.k (.str ⟨#[124]⟩)), none⟩, ⟨(some 3), .mv (.t 21), none⟩] none)
 (.seq (.reg [⟨(some 5), .mv (.k (.int .i64 0)), none⟩] none)
 (.block 2 (.loop (.seq (.seq (.reg [⟨(some 22), .mv (.t 5), none⟩, ⟨(some 23), .fa 1 (.t 1), none⟩, ⟨(some 24), .ld none (.t 23), none⟩, ⟨(some 25), .mv (.t 4), none⟩, ⟨(some 26), .ixs 1 (.t 24) (.t 25), none⟩, ⟨(some 27), .ld none (.t 26), none⟩, ⟨(some 28), .len (.t 27), none⟩, ⟨(some 29), .bin .lss (.t 22) (.t 28), none⟩] none)
 (.cond (.t 29) .skip (.exit 2)))
 (.seq (.block 3 (.seq (.seq (.reg [⟨(some 32), .mv (.t 5), none⟩, ⟨(some 33), .bin .gtr (.t 32) (.k (.int .i64 0)), none⟩] none)
 (.cond (.t 33) (.reg [⟨(some 34), .mv (.t 3), none⟩, ⟨(some 35), .bin .add (.t 34) (.k (.str ⟨#[44]⟩)), none⟩, ⟨(some 3), .mv (.t 35), none⟩] none) .skip))
 (.reg [⟨(some 36), .mv (.t 3), none⟩, ⟨(some 37), .fa 1 (.t 1), none⟩, ⟨(some 38), .ld none (.t 37), none⟩, ⟨(some 39), .mv (.t 4), none⟩, ⟨(some 40), .ixs 1 (.t 38) (.t 39), none⟩, ⟨(some 41), .ld none (.t 40), none⟩, ⟨(some 42), .mv (.t 5), none⟩, ⟨(some 43), .ixs 1 (.t 41) (.t 42), none⟩, ⟨(some 44), .ld none (.t 43), none⟩, ⟨(some 45), .conv .u64 (.t 44), none⟩, ⟨(some 46), .call 110 (.k (.fn (.func 66) [] [])) [(.t 45)], none⟩, ⟨(some 47), .bin .add (.t 36) (.t 46), none⟩, ⟨(some 3), .mv (.t 47), none⟩] none)))
 (.reg [⟨(some 30), .mv (.t 5), none⟩, ⟨(some 31), .bin .add (.t 30) (.k (.int .i64 1)), none⟩, ⟨(some 5), .mv (.t 31), none⟩] none))))))))
 (.reg [⟨(some 18), .mv (.t 4), none⟩, ⟨(some 19), .bin .add (.t 18) (.k (.int .i64 1)), none⟩, ⟨(some 4), .mv (.t 19), none⟩] none))))))
 (.seq (.reg [⟨(some 48), .mv (.t 3), none⟩, ⟨(some 2), .mv (.t 48), none⟩] none)
 .ret)))))⟩
def m33 : MFn := ⟨2, 14, [.tmp 3], (.seq (.reg [⟨(some 3), .mv (.k (.bool false)), none⟩] none)
 (.seq (.reg [⟨(some 4), .mv (.t 0), none⟩, ⟨(some 5), .len (.t 4), none⟩, ⟨(some 6), .fa 0 (.t 1), none⟩, ⟨(some 7), .ld none (.t 6), none⟩, ⟨(some 8), .bin .neq (.t 5) (.t 7), none⟩, ⟨(some 9), .mv (.t 8), none⟩, ⟨(some 10), .mv (.t 0), (some (9, false))⟩, ⟨(some 11), .mkf (.func 35) [] [(.t 1)], (some (9, false))⟩, ⟨(some 12), .call 76 (.k (.fn (.func 34) [] [])) [(.t 10), (.t 11)], (some (9, false))⟩, ⟨(some 13), .pick (.t 9) (.k (.bool true)) (.t 12), none⟩, ⟨(some 3), .mv (.t 13), none⟩] none)
 .ret))⟩
def m34 : MFn := ⟨2, 9, [.tmp 4], (.seq (.reg [⟨(some 4), .mv (.k (.bool false)), none⟩] none)
 (.seq (.reg [⟨(some 5), .mv (.t 0), none⟩, ⟨(some 6), .mv (.t 1), none⟩, ⟨(some 7), .call 71 (.k (.fn (.func 69) [] [])) [(.t 5), (.t 6)], none⟩, ⟨(some 8), .bin .geq (.t 7) (.k (.int .i64 0)), none⟩, ⟨(some 4), .mv (.t 8), none⟩] none)
 .ret))⟩
def m35 : MFn := ⟨2, 13, [.tmp 3], (.seq (.reg [⟨(some 3), .mv (.k (.bool false)), none⟩] none)
 (.seq (.reg [⟨(some 4), .mv (.t 0), none⟩, ⟨(some 5), .bin .lss (.t 4) (.k (.int .i64 0)), none⟩, ⟨(some 6), .mv (.t 5), none⟩, ⟨(some 7), .mv (.t 0), (some (6, false))⟩, ⟨(some 8), .fa 1 (.t 1), (some (6, false))⟩, ⟨(some 9), .ld none (.t 8), (some (6, false))⟩, ⟨(some 10), .len (.t 9), (some (6, false))⟩, ⟨(some 11), .bin .gtr (.t 7) (.t 10), (some (6, false))⟩, ⟨(some 12), .pick (.t 6) (.k (.bool true)) (.t 11), none⟩, ⟨(some 3), .mv (.t 12), none⟩] none)
 .ret))⟩
def m36 : MFn := ⟨2, 9, [.tmp 4], (.seq (.reg [⟨(some 4), .mv (.k (.bool false)), none⟩] none)
 (.seq (.reg [⟨(some 5), .mv (.t 0), none⟩, ⟨(some 6), .mv (.t 1), none⟩, ⟨(some 7), .call 71 (.k (.fn (.func 70) [] [])) [(.t 5), (.t 6)], none⟩, ⟨(some 8), .bin .geq (.t 7) (.k (.int .i64 0)), none⟩, ⟨(some 4), .mv (.t 8), none⟩] none)
 .ret))⟩
def m40 : MFn := ⟨3, 31, [.tmp 6], (.seq (.reg [⟨(some 3), .box 67 (.t 0), none⟩, ⟨(some 6), .mv (.k (.bool false)), none⟩] none)
 (.seq (.reg [⟨(some 7), .mv (.t 1), none⟩, ⟨(some 8), .bin .geq (.t 7) (.k (.int .i64 1)), none⟩, ⟨(some 9), .mv (.t 8), none⟩, ⟨(some 10), .mv (.t 1), (some (9, true))⟩, ⟨(some 11), .fa 1 (.t 3), (some (9, true))⟩, ⟨(some 12), .ld none (.t 11), (some (9, true))⟩, ⟨(some 13), .len (.t 12), (some (9, true))⟩, ⟨(some 14), .bin .leq (.t 10) (.t 13), (some (9, true))⟩, ⟨(some 15), .pick (.t 9) (.t 14) (.k (.bool false)), none⟩, ⟨(some 16), .mv (.t 15), none⟩, ⟨(some 17), .mv (.t 2), (some (16, true))⟩, ⟨(some 18), .bin .geq (.t 17) (.k (.int .i64 0)), (some (16, true))⟩, ⟨(some 19), .pick (.t 16) (.t 18) (.k (.bool false)), none⟩, ⟨(some 20), .mv (.t 19), none⟩, ⟨(some 21), .mv (.t 2), (some (20, true))⟩, ⟨(some 22), .fa 1 (.t 3), (some (20, true))⟩, ⟨(some 23), .ld none (.t 22), (some (20, true))⟩, ⟨(some 24), .mv (.t 1), (some (20, true))⟩, ⟨(some 25), .bin .sub (.t 24) (.k (.int .i64 1)), (some (20, true))⟩, ⟨(some 26), .ixs 1 (.t 23) (.t 25), (some (20, true))⟩, ⟨(some 27), .ld none (.t 26), (some (20, true))⟩, ⟨(some 28), .len (.t 27), (some (20, true))⟩, ⟨(some 29), .bin .lss (.t 21) (.t 28), (some (20, true))⟩, ⟨(some 30), .pick (.t 20) (.t 29) (.k (.bool false)), none⟩, ⟨(some 6), .mv (.t 30), none⟩] none)
 .ret))⟩
def m54 : MFn := ⟨3, 31, [.tmp 6], (.seq (.reg [⟨(some 3), .box 67 (.t 0), none⟩, ⟨(some 6), .mv (.k (.bool false)), none⟩] none)
 (.seq (.reg [⟨(some 7), .mv (.t 1), none⟩, ⟨(some 8), .bin .geq (.t 7) (.k (.int .i64 1)), none⟩, ⟨(some 9), .mv (.t 8), none⟩, ⟨(some 10), .mv (.t 1), (some (9, true))⟩, ⟨(some 11), .fa 1 (.t 3), (some (9, true))⟩, ⟨(some 12), .ld none (.t 11), (some (9, true))⟩, ⟨(some 13), .len (.t 12), (some (9, true))⟩, ⟨(some 14), .bin .leq (.t 10) (.t 13), (some (9, true))⟩, ⟨(some 15), .pick (.t 9) (.t 14) (.k (.bool false)), none⟩, ⟨(some 16), .mv (.t 15), none⟩, ⟨(some 17), .mv (.t 2), (some (16, true))⟩, ⟨(some 18), .bin .geq (.t 17) (.k (.int .i64 0)), (some (16, true))⟩, ⟨(some 19), .pick (.t 16) (.t 18) (.k (.bool false)), none⟩, ⟨(some 20), .mv (.t 19), none⟩, ⟨(some 21), .mv (.t 2), (some (20, true))⟩, ⟨(some 22), .fa 1 (.t 3), (some (20, true))⟩, ⟨(some 23), .ld none (.t 22), (some (20, true))⟩, ⟨(some 24), .mv (.t 1), (some (20, true))⟩, ⟨(some 25), .bin .sub (.t 24) (.k (.int .i64 1)), (some (20, true))⟩, ⟨(some 26), .ixs 1 (.t 23) (.t 25), (some (20, true))⟩, ⟨(some 27), .ld none (.t 26), (some (20, true))⟩, ⟨(some 28), .len (.t 27), (some (20, true))⟩, ⟨(some 29), .bin .lss (.t 21) (.t 28), (some (20, true))⟩, ⟨(some 30), .pick (.t 20) (.t 29) (.k (.bool false)), none⟩, ⟨(some 6), .mv (.t 30), none⟩] none)
 .ret))⟩
def m55 : MFn := ⟨1, 27, [.cell 2 (some 2)], (.seq (.reg [⟨(some 1), .box 65 (.t 0), none⟩, ⟨(some 2), .alloc 66 [(.int .i64 0), .nils], none⟩] none)
 (.seq (.reg [⟨(some 5), .fa 0 (.t 1), none⟩, ⟨(some 6), .ld none (.t 5), none⟩, ⟨(some 7), .bld [(.int .i64 0), .nils] [(0, 1, (.t 6))], none⟩, ⟨(some 3), .alloc 67 [(.int .i64 0), .nils], none⟩, ⟨none, .st 2 (.t 3) (.t 7), none⟩] none)
 (.seq (.seq (.reg [⟨(some 4), .mv (.k (.int .i64 0)), none⟩] none)
 (.block 0 (.loop (.seq (.seq (.reg [⟨(some 8), .mv (.t 4), none⟩, ⟨(some 9), .fa 1 (.t 1), none⟩, ⟨(some 10), .ld none (.t 9), none⟩, ⟨(some 11), .len (.t 10), none⟩, ⟨(some 12), .bin .lss (.t 8) (.t 11), none⟩] none)
 (.cond (.t 12) .skip (.exit 0)))
 (.seq (.block 1 (.reg [⟨(some 15), .fa 1 (.t 3), none⟩, ⟨(some 16), .ld none (.t 15), none⟩, ⟨(some 17), .fa 1 (.t 1), none⟩, ⟨(some 18), .ld none (.t 17), none⟩, ⟨(some 19), .mv (.t 4), none⟩, ⟨(some 20), .ixs 1 (.t 18) (.t 19), none⟩, ⟨(some 21), .ld none (.t 20), none⟩, ⟨(some 22), .app 86 1 8 (.k .nils) (.t 21), none⟩, ⟨(some 23), .bslt 1 [(.t 22)], none⟩, ⟨(some 24), .app 88 1 24 (.t 16) (.t 23), none⟩, ⟨(some 25), .fa 1 (.t 3), none⟩, ⟨none, .st 1 (.t 25) (.t 24), none⟩] (some [(1, 3), (1, 5), (1, 6), (1, 7), (1, 8)])))
 (.reg [⟨(some 13), .mv (.t 4), none⟩, ⟨(some 14), .bin .add (.t 13) (.k (.int .i64 1)), none⟩, ⟨(some 4), .mv (.t 14), none⟩] none))))))
 (.seq (.reg [⟨(some 26), .ld (some 2) (.t 3), none⟩, ⟨none, .st 2 (.t 2) (.t 26), none⟩] none)
 .ret))))⟩
def m56 : MFn := ⟨1, 9, [.tmp 2], (.seq (.reg [⟨(some 2), .mv (.k .nils), none⟩] none)
 (.seq (.reg [⟨(some 3), .mv (.t 0), none⟩, ⟨(some 4), .mv (.t 0), none⟩, ⟨(some 5), .len (.t 4), none⟩, ⟨(some 6), .mv (.t 0), none⟩, ⟨(some 7), .len (.t 6), none⟩, ⟨(some 8), .clip 1 (.t 3) (.t 5) (.t 7), none⟩, ⟨(some 2), .mv (.t 8), none⟩] none)
 .ret))⟩
def m58 : MFn := ⟨2, 8, [.tmp 4], (.seq (.reg [⟨(some 4), .mv (.k .nils), none⟩] none)
 (.seq (.reg [⟨(some 5), .mv (.t 0), none⟩, ⟨(some 6), .mv (.t 1), none⟩, ⟨(some 7), .call 71 (.k (.fn (.func 84) [] [])) [(.t 5), (.t 6), (.k (.int .i64 0)), (.k (.int .i64 (-1)))], none⟩, ⟨(some 4), .mv (.t 7), none⟩] none)
 .ret))⟩
def m59 : MFn := ⟨1, 15, [.tmp 2], (.seq (.reg [⟨(some 2), .mv (.k (.int .i64 0)), none⟩] none)
 (.seq (.reg [⟨(some 6), .mv (.t 0), none⟩, ⟨(some 7), .call 71 (.k (.fn (.func 85) [] [])) [(.t 6)], none⟩, ⟨(some 5), .mv (.t 7), none⟩, ⟨(some 8), .ext (.t 5) 0, none⟩, ⟨(some 9), .ext (.t 5) 1, none⟩, ⟨(some 3), .mv (.t 8), none⟩, ⟨(some 4), .mv (.t 9), none⟩] none)
 (.seq (.seq (.reg [⟨(some 10), .mv (.t 4), none⟩, ⟨(some 11), .isi true (.t 10), none⟩] none)
 (.cond (.t 11) (.reg [⟨(some 12), .mv (.t 0), none⟩, ⟨(some 13), .mki 97 (.t 12), none⟩, ⟨none, .pan (.t 13), none⟩] none) .skip))
 (.seq (.reg [⟨(some 14), .mv (.t 3), none⟩, ⟨(some 2), .mv (.t 14), none⟩] none)
 .ret))))⟩
def m60 : MFn := ⟨2, 35, [.tmp 4], (.seq (.reg [⟨(some 4), .mv (.k .nils), none⟩] none)
 (.seq (.reg [⟨(some 5), .mv (.k .nils), none⟩] none)
 (.seq (.reg [⟨(some 6), .mv (.k (.int .i64 0)), none⟩] none)
 (.seq (.seq (.reg [⟨(some 7), .mv (.k (.int .i64 0)), none⟩] none)
 (.block 0 (.loop (.seq (.seq (.reg [⟨(some 8), .mv (.t 7), none⟩, ⟨(some 9), .mv (.t 0), none⟩, ⟨(some 10), .lens (.t 9), none⟩, ⟨(some 11), .bin .leq (.t 8) (.t 10), none⟩] none)
 (.cond (.t 11) .skip (.exit 0)))
 (.seq (.block 1 (.seq (.reg [⟨(some 14), .mv (.t 7), none⟩, ⟨(some 15), .mv (.t 0), none⟩, ⟨(some 16), .lens (.t 15), none⟩, ⟨(some 17), .bin .eql (.t 14) (.t 16), none⟩, ⟨(some 18), .mv (.t 17), none⟩, ⟨(some 19), .mv (.t 0), (some (18, false))⟩, ⟨(some 20), .mv (.t 7), (some (18, false))⟩, ⟨(some 21), .ixstr (.t 19) (.t 20), (some (18, false))⟩, ⟨(some 22), .mv (.t 1), (some (18, false))⟩, ⟨(some 23), .bin .eql (.t 21) (.t 22), (some (18, false))⟩, ⟨(some 24), .pick (.t 18) (.k (.bool true)) (.t 23), none⟩] none)
 (.cond (.t 24) (.seq (.reg [⟨(some 25), .mv (.t 5), none⟩, ⟨(some 26), .mv (.t 0), none⟩, ⟨(some 27), .mv (.t 6), none⟩, ⟨(some 28), .mv (.t 7), none⟩, ⟨(some 29), .slstr (.t 26) (some (.t 27)) (some (.t 28)), none⟩, ⟨(some 30), .bslt 1 [(.t 29)], none⟩, ⟨(some 31), .app 95 1 16 (.t 25) (.t 30), none⟩, ⟨(some 5), .mv (.t 31), none⟩] none)
 (.reg [⟨(some 32), .mv (.t 7), none⟩, ⟨(some 33), .bin .add (.t 32) (.k (.int .i64 1)), none⟩, ⟨(some 6), .mv (.t 33), none⟩] none)) .skip)))
 (.reg [⟨(some 12), .mv (.t 7), none⟩, ⟨(some 13), .bin .add (.t 12) (.k (.int .i64 1)), none⟩, ⟨(some 7), .mv (.t 13), none⟩] none))))))
 (.seq (.reg [⟨(some 34), .mv (.t 5), none⟩, ⟨(some 4), .mv (.t 34), none⟩] none)
 .ret)))))⟩
def m61 : MFn := ⟨1, 47, [.tmp 2], (.seq (.reg [⟨(some 2), .mv (.k (.int .i64 0)), none⟩] none)
 (.seq (.seq (.reg [⟨(some 5), .mv (.t 0), none⟩, ⟨(some 6), .lens (.t 5), none⟩, ⟨(some 7), .bin .lss (.t 6) (.k (.int .i64 1)), none⟩, ⟨(some 8), .mv (.t 7), none⟩, ⟨(some 9), .mv (.t 0), (some (8, false))⟩, ⟨(some 10), .lens (.t 9), (some (8, false))⟩, ⟨(some 11), .bin .gtr (.t 10) (.k (.int .i64 7)), (some (8, false))⟩, ⟨(some 12), .pick (.t 8) (.k (.bool true)) (.t 11), none⟩] none)
 (.cond (.t 12) (.seq (.reg [⟨(some 2), .mv (.k (.int .i64 (-1))), none⟩] none)
 .ret) .skip))
 (.seq (.reg [⟨(some 3), .mv (.k (.int .i64 0)), none⟩] none)
 (.seq (.seq (.reg [⟨(some 4), .mv (.k (.int .i64 0)), none⟩] none)
 (.block 0 (.loop (.seq (.seq (.reg [⟨(some 13), .mv (.t 4), none⟩, ⟨(some 14), .mv (.t 0), none⟩, ⟨(some 15), .lens (.t 14), none⟩, ⟨(some 16), .bin .lss (.t 13) (.t 15), none⟩] none)
 (.cond (.t 16) .skip (.exit 0)))
 (.seq (.block 1 (.seq (.seq (.reg [⟨(some 19), .mv (.t 0), none⟩, ⟨(some 20), .mv (.t 4), none⟩, ⟨(some 21), .ixstr (.t 19) (.t 20), none⟩, ⟨(some 22), .bin .lss (.t 21) (.k (.int .u8 48)), none⟩, ⟨(some 23), .mv (.t 22), none⟩, ⟨(some 24), .mv (.t 0), (some (23, false))⟩, ⟨(some 25), .mv (.t 4), (some (23, false))⟩, ⟨(some 26), .ixstr (.t 24) (.t 25), (some (23, false))⟩, ⟨(some 27), .bin .gtr (.t 26) (.k (.int .u8 57)), (some (23, false))⟩, ⟨(some 28), .pick (.t 23) (.k (.bool true)) (.t 27), none⟩] none)
 (.cond (.t 28) (.seq (.reg [⟨(some 2), .mv (.k (.int .i64 (-1))), none⟩] none)
 .ret) .skip))
 (.reg [⟨(some 29), .mv (.t 3), none⟩, ⟨(some 30), .bin .mul (.t 29) (.k (.int .i64 10)), none⟩, ⟨(some 31), .mv (.t 0), none⟩, ⟨(some 32), .mv (.t 4), none⟩, ⟨(some 33), .ixstr (.t 31) (.t 32), none⟩, ⟨(some 34), .bin .sub (.t 33) (.k (.int .u8 48)), none⟩, ⟨(some 35), .conv .i64 (.t 34), none⟩, ⟨(some 36), .bin .add (.t 30) (.t 35), none⟩, ⟨(some 3), .mv (.t 36), none⟩] none)))
 (.reg [⟨(some 17), .mv (.t 4), none⟩, ⟨(some 18), .bin .add (.t 17) (.k (.int .i64 1)), none⟩, ⟨(some 4), .mv (.t 18), none⟩] none))))))
 (.seq (.seq (.reg [⟨(some 37), .mv (.t 3), none⟩, ⟨(some 38), .bin .gtr (.t 37) (.k (.int .i64 1000000)), none⟩, ⟨(some 39), .mv (.t 38), none⟩, ⟨(some 40), .mv (.t 3), (some (39, false))⟩, ⟨(some 41), .conv .u64 (.t 40), (some (39, false))⟩, ⟨(some 42), .call 106 (.k (.fn (.func 66) [] [])) [(.t 41)], (some (39, false))⟩, ⟨(some 43), .mv (.t 0), (some (39, false))⟩, ⟨(some 44), .bin .neq (.t 42) (.t 43), (some (39, false))⟩, ⟨(some 45), .pick (.t 39) (.k (.bool true)) (.t 44), none⟩] none)
 (.cond (.t 45) (.seq (.reg [⟨(some 2), .mv (.k (.int .i64 (-1))), none⟩] none)
 .ret) .skip))
 (.seq (.reg [⟨(some 46), .mv (.t 3), none⟩, ⟨(some 2), .mv (.t 46), none⟩] none)
 .ret))))))⟩
def m62 : MFn := ⟨3, 32, [.tmp 6], (.seq (.reg [⟨(some 6), .mv (.k (.bool false)), none⟩] none)
 (.seq (.seq (.reg [⟨(some 10), .mv (.t 0), none⟩, ⟨(some 11), .len (.t 10), none⟩, ⟨(some 12), .mv (.t 1), none⟩, ⟨(some 13), .len (.t 12), none⟩, ⟨(some 14), .bin .neq (.t 11) (.t 13), none⟩] none)
 (.cond (.t 14) (.seq (.reg [⟨(some 6), .mv (.k (.bool false)), none⟩] none)
 .ret) .skip))
 (.seq (.seq (.reg [⟨(some 15), .mv (.t 0), none⟩, ⟨(some 16), .len (.t 15), none⟩, ⟨(some 17), .mv (.k (.int .i64 0)), none⟩] none)
 (.block 0 (.loop (.seq (.reg [⟨(some 18), .bin .lss (.t 17) (.t 16), none⟩] none)
 (.seq (.cond (.t 18) .skip (.exit 0))
 (.seq (.block 1 (.seq (.reg [⟨(some 19), .mv (.t 17), none⟩, ⟨(some 20), .ixs 1 (.t 15) (.t 17), none⟩, ⟨(some 21), .ld none (.t 20), none⟩, ⟨(some 7), .mv (.t 19), none⟩, ⟨(some 8), .mv (.t 21), none⟩] none)
 (.seq (.reg [⟨(some 22), .mv (.t 1), none⟩, ⟨(some 23), .mv (.t 7), none⟩, ⟨(some 24), .ixs 1 (.t 22) (.t 23), none⟩, ⟨(some 25), .ld none (.t 24), none⟩, ⟨(some 9), .mv (.t 25), none⟩] none)
 (.seq (.reg [⟨(some 26), .mv (.t 2), none⟩, ⟨(some 27), .mv (.t 8), none⟩, ⟨(some 28), .mv (.t 9), none⟩, ⟨(some 29), .call 93 (.t 26) [(.t 27), (.t 28)], none⟩, ⟨(some 30), .un .not (.t 29), none⟩] none)
 (.cond (.t 30) (.seq (.reg [⟨(some 6), .mv (.k (.bool false)), none⟩] none)
 .ret) .skip)))))
 (.reg [⟨(some 31), .bin .add (.t 17) (.k (.int .i64 1)), none⟩, ⟨(some 17), .mv (.t 31), none⟩] none)))))))
 (.seq (.reg [⟨(some 6), .mv (.k (.bool true)), none⟩] none)
 .ret))))⟩
def m63 : MFn := ⟨2, 26, [.tmp 4], (.seq (.reg [⟨(some 4), .mv (.k (.bool false)), none⟩] none)
 (.seq (.seq (.reg [⟨(some 6), .mv (.t 0), none⟩, ⟨(some 7), .len (.t 6), none⟩, ⟨(some 8), .mv (.t 1), none⟩, ⟨(some 9), .len (.t 8), none⟩, ⟨(some 10), .bin .neq (.t 7) (.t 9), none⟩] none)
 (.cond (.t 10) (.seq (.reg [⟨(some 4), .mv (.k (.bool false)), none⟩] none)
 .ret) .skip))
 (.seq (.seq (.reg [⟨(some 11), .mv (.t 0), none⟩, ⟨(some 12), .len (.t 11), none⟩, ⟨(some 13), .mv (.k (.int .i64 0)), none⟩] none)
 (.block 0 (.loop (.seq (.reg [⟨(some 14), .bin .lss (.t 13) (.t 12), none⟩] none)
 (.seq (.cond (.t 14) .skip (.exit 0))
 (.seq (.block 1 (.seq (.reg [⟨(some 15), .mv (.t 13), none⟩, ⟨(some 5), .mv (.t 15), none⟩] none)
 (.seq (.reg [⟨(some 16), .mv (.t 0), none⟩, ⟨(some 17), .mv (.t 5), none⟩, ⟨(some 18), .ixs 1 (.t 16) (.t 17), none⟩, ⟨(some 19), .ld none (.t 18), none⟩, ⟨(some 20), .mv (.t 1), none⟩, ⟨(some 21), .mv (.t 5), none⟩, ⟨(some 22), .ixs 1 (.t 20) (.t 21), none⟩, ⟨(some 23), .ld none (.t 22), none⟩, ⟨(some 24), .bin .neq (.t 19) (.t 23), none⟩] (some [(2, 6), (3, 6), (2, 7), (3, 7)]))
 (.cond (.t 24) (.seq (.reg [⟨(some 4), .mv (.k (.bool false)), none⟩] none)
 .ret) .skip))))
 (.reg [⟨(some 25), .bin .add (.t 13) (.k (.int .i64 1)), none⟩, ⟨(some 13), .mv (.t 25), none⟩] none)))))))
 (.seq (.reg [⟨(some 4), .mv (.k (.bool true)), none⟩] none)
 .ret))))⟩
def m66 : MFn := ⟨1, 23, [.tmp 2], (.seq (.reg [⟨(some 2), .mv (.k (.str ⟨#[]⟩)), none⟩] none)
 (.seq (.reg [⟨(some 3), .mv (.k (.str ⟨#[]⟩)), none⟩] none)
 (.seq (.block 0 (.loop (.seq (.seq (.reg [⟨(some 4), .mv (.t 0), none⟩, ⟨(some 5), .bin .gtr (.t 4) (.k (.int .u64 9)), none⟩] none)
 (.cond (.t 5) .skip (.exit 0)))
 (.block 1 (.seq (.reg [⟨(some 6), .mv (.t 0), none⟩, ⟨(some 7), .bin .rem (.t 6) (.k (.int .u64 10)), none⟩, ⟨(some 8), .bin .add (.k (.int .u64 48)) (.t 7), none⟩, ⟨(some 9), .conv .u8 (.t 8), none⟩, ⟨(some 10), .bslt 1 [(.t 9)], none⟩, ⟨(some 11), .cvb (.t 10), none⟩, ⟨(some 12), .mv (.t 3), none⟩, ⟨(some 13), .bin .add (.t 11) (.t 12), none⟩, ⟨(some 3), .mv (.t 13), none⟩] none)
 (.reg [⟨(some 14), .mv (.t 0), none⟩, ⟨(some 15), .bin .quo (.t 14) (.k (.int .u64 10)), none⟩, ⟨(some 0), .mv (.t 15), none⟩] none))))))
 (.seq (.reg [⟨(some 16), .mv (.t 0), none⟩, ⟨(some 17), .bin .add (.k (.int .u64 48)) (.t 16), none⟩, ⟨(some 18), .conv .u8 (.t 17), none⟩, ⟨(some 19), .bslt 1 [(.t 18)], none⟩, ⟨(some 20), .cvb (.t 19), none⟩, ⟨(some 21), .mv (.t 3), none⟩, ⟨(some 22), .bin .add (.t 20) (.t 21), none⟩, ⟨(some 2), .mv (.t 22), none⟩] none)
 .ret))))⟩
def m69 : MFn := ⟨2, 19, [.tmp 4], (.seq (.reg [⟨(some 4), .mv (.k (.int .i64 0)), none⟩] none)
 (.seq (.seq (.reg [⟨(some 6), .mv (.t 0), none⟩, ⟨(some 7), .len (.t 6), none⟩, ⟨(some 8), .mv (.k (.int .i64 0)), none⟩] none)
 (.block 0 (.loop (.seq (.reg [⟨(some 9), .bin .lss (.t 8) (.t 7), none⟩] none)
 (.seq (.cond (.t 9) .skip (.exit 0))
 (.seq (.block 1 (.seq (.reg [⟨(some 10), .mv (.t 8), none⟩, ⟨(some 5), .mv (.t 10), none⟩] none)
 (.seq (.reg [⟨(some 11), .mv (.t 1), none⟩, ⟨(some 12), .mv (.t 0), none⟩, ⟨(some 13), .mv (.t 5), none⟩, ⟨(some 14), .ixs 1 (.t 12) (.t 13), none⟩, ⟨(some 15), .ld none (.t 14), none⟩, ⟨(some 16), .call 80 (.t 11) [(.t 15)], none⟩] none)
 (.cond (.t 16) (.seq (.reg [⟨(some 17), .mv (.t 5), none⟩, ⟨(some 4), .mv (.t 17), none⟩] none)
 .ret) .skip))))
 (.reg [⟨(some 18), .bin .add (.t 8) (.k (.int .i64 1)), none⟩, ⟨(some 8), .mv (.t 18), none⟩] none)))))))
 (.seq (.reg [⟨(some 4), .mv (.k (.int .i64 (-1))), none⟩] none)
 .ret)))⟩
def m70 : MFn := ⟨2, 19, [.tmp 4], (.seq (.reg [⟨(some 4), .mv (.k (.int .i64 0)), none⟩] none)
 (.seq (.seq (.reg [⟨(some 6), .mv (.t 0), none⟩, ⟨(some 7), .len (.t 6), none⟩, ⟨(some 8), .mv (.k (.int .i64 0)), none⟩] none)
 (.block 0 (.loop (.seq (.reg [⟨(some 9), .bin .lss (.t 8) (.t 7), none⟩] none)
 (.seq (.cond (.t 9) .skip (.exit 0))
 (.seq (.block 1 (.seq (.reg [⟨(some 10), .mv (.t 8), none⟩, ⟨(some 5), .mv (.t 10), none⟩] none)
 (.seq (.reg [⟨(some 11), .mv (.t 1), none⟩, ⟨(some 12), .mv (.t 0), none⟩, ⟨(some 13), .mv (.t 5), none⟩, ⟨(some 14), .ixs 1 (.t 12) (.t 13), none⟩, ⟨(some 15), .ld none (.t 14), none⟩, ⟨(some 16), .call 80 (.t 11) [(.t 15)], none⟩] none)
 (.cond (.t 16) (.seq (.reg [⟨(some 17), .mv (.t 5), none⟩, ⟨(some 4), .mv (.t 17), none⟩] none)
 .ret) .skip))))
 (.reg [⟨(some 18), .bin .add (.t 8) (.k (.int .i64 1)), none⟩, ⟨(some 8), .mv (.t 18), none⟩] none)))))))
 (.seq (.reg [⟨(some 4), .mv (.k (.int .i64 (-1))), none⟩] none)
 .ret)))⟩
theorem low3 : lowFn Tryd.prog Tryd.f3 = some m3 := by kernel_rfl
theorem low5 : lowFn Tryd.prog Tryd.f5 = some m5 := by kernel_rfl
theorem low7 : lowFn Tryd.prog Tryd.f7 = some m7 := by kernel_rfl
theorem low9 : lowFn Tryd.prog Tryd.f9 = some m9 := by kernel_rfl
theorem low10 : lowFn Tryd.prog Tryd.f10 = some m10 := by kernel_rfl
theorem low16 : lowFn Tryd.prog Tryd.f16 = some m16 := by kernel_rfl
theorem low17 : lowFn Tryd.prog Tryd.f17 = some m17 := by kernel_rfl
theorem low18 : lowFn Tryd.prog Tryd.f18 = some m18 := by kernel_rfl
theorem low19 : lowFn Tryd.prog Tryd.f19 = some m19 := by kernel_rfl
theorem low20 : lowFn Tryd.prog Tryd.f20 = some m20 := by kernel_rfl
theorem low21 : lowFn Tryd.prog Tryd.f21 = some m21 := by kernel_rfl
theorem low22 : lowFn Tryd.prog Tryd.f22 = some m22 := by kernel_rfl
theorem low23 : lowFn Tryd.prog Tryd.f23 = some m23 := by kernel_rfl
theorem low24 : lowFn Tryd.prog Tryd.f24 = some m24 := by kernel_rfl
theorem low25 : lowFn Tryd.prog Tryd.f25 = some m25 := by kernel_rfl
theorem low26 : lowFn Tryd.prog Tryd.f26 = some m26 := by kernel_rfl
theorem low27 : lowFn Tryd.prog Tryd.f27 = some m27 := by kernel_rfl
theorem low28 : lowFn Tryd.prog Tryd.f28 = some m28 := by kernel_rfl
theorem low29 : lowFn Tryd.prog Tryd.f29 = some m29 := by kernel_rfl
theorem low30 : lowFn Tryd.prog Tryd.f30 = some m30 := by kernel_rfl
theorem low33 : lowFn Tryd.prog Tryd.f33 = some m33 := by kernel_rfl
theorem low34 : lowFn Tryd.prog Tryd.f34 = some m34 := by kernel_rfl
theorem low35 : lowFn Tryd.prog Tryd.f35 = some m35 := by kernel_rfl
theorem low36 : lowFn Tryd.prog Tryd.f36 = some m36 := by kernel_rfl
theorem low40 : lowFn Tryd.prog Tryd.f40 = some m40 := by kernel_rfl
theorem low54 : lowFn Tryd.prog Tryd.f54 = some m54 := by kernel_rfl
theorem low55 : lowFn Tryd.prog Tryd.f55 = some m55 := by kernel_rfl
theorem low56 : lowFn Tryd.prog Tryd.f56 = some m56 := by kernel_rfl
theorem low58 : lowFn Tryd.prog Tryd.f58 = some m58 := by kernel_rfl
theorem low59 : lowFn Tryd.prog Tryd.f59 = some m59 := by kernel_rfl
theorem low60 : lowFn Tryd.prog Tryd.f60 = some m60 := by kernel_rfl
theorem low61 : lowFn Tryd.prog Tryd.f61 = some m61 := by kernel_rfl
theorem low62 : lowFn Tryd.prog Tryd.f62 = some m62 := by kernel_rfl
theorem low63 : lowFn Tryd.prog Tryd.f63 = some m63 := by kernel_rfl
theorem low66 : lowFn Tryd.prog Tryd.f66 = some m66 := by kernel_rfl
theorem low69 : lowFn Tryd.prog Tryd.f69 = some m69 := by kernel_rfl
theorem low70 : lowFn Tryd.prog Tryd.f70 = some m70 := by kernel_rfl
end Go.Nx
end
