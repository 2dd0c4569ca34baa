/-
  THE FUNCTIONS OF THE SEAT, LOWERED.
-/
import Derived.Test.YtlgnjeilhjhnkaaXy
import Derived.Test.YtlgnjeilhjhnkaaRows
set_option linter.unusedVariables false
namespace Go.Nx
open Go.RowKit Go.Proofs

/-- besom/besomlaw08.ChainTells -/
def m3 : MFn := ⟨5, 118, [.tmp 10], (.seq (.reg [⟨(some 6), .box 70 (.t 1), none⟩, ⟨(some 10), .mv (.k (.bool false)), none⟩] none)
 (.seq (.reg [⟨(some 16), .call 80 (.k (.fn (.func 9) [] [])) [], none⟩, ⟨(some 11), .mv (.t 16), none⟩] none)
 (.seq (.seq (.reg [⟨(some 17), .mv (.t 11), none⟩, ⟨(some 18), .un .not (.t 17), none⟩] none)
 (.cond (.t 18) (.seq (.reg [⟨(some 10), .mv (.k (.bool false)), none⟩] none)
 .ret) .skip))
 (.seq (.reg [⟨(some 20), .mv (.t 0), none⟩, ⟨(some 21), .ld (some 8) (.t 6), none⟩, ⟨(some 22), .call 86 (.k (.fn (.func 10) [] [])) [(.t 20), (.t 21)], none⟩, ⟨(some 19), .mv (.t 22), none⟩, ⟨(some 23), .ext (.t 19) 0, none⟩, ⟨(some 24), .ext (.t 19) 1, none⟩, ⟨(some 13), .alloc 77 [(.int .i64 0), (.int .i64 0), (.int .i64 0), (.int .i64 0), (.int .u64 0), (.int .i64 0), (.int .i64 0), (.int .i64 0)], none⟩, ⟨(some 12), .mv (.t 23), none⟩, ⟨none, .st 8 (.t 13) (.t 24), none⟩] none)
 (.seq (.reg [⟨(some 26), .mv (.t 0), none⟩, ⟨(some 27), .ld (some 8) (.t 6), none⟩, ⟨(some 28), .call 92 (.k (.fn (.func 12) [] [])) [(.t 27)], none⟩, ⟨(some 29), .call 93 (.k (.fn (.func 11) [] [])) [(.t 26), (.t 28)], none⟩, ⟨(some 25), .mv (.t 29), none⟩, ⟨(some 30), .ext (.t 25) 0, none⟩, ⟨(some 31), .ext (.t 25) 1, none⟩, ⟨(some 15), .alloc 79 [(.int .i64 0), (.int .i64 0), (.int .i64 0), (.int .i64 0), (.int .u64 0), (.int .i64 0), (.int .i64 0), (.int .i64 0)], none⟩, ⟨(some 14), .mv (.t 30), none⟩, ⟨none, .st 8 (.t 15) (.t 31), none⟩] none)
 (.seq (.reg [⟨(some 32), .mv (.t 11), none⟩, ⟨(some 33), .mv (.t 32), none⟩, ⟨(some 34), .mv (.t 12), (some (33, true))⟩, ⟨(some 35), .mv (.t 14), (some (33, true))⟩, ⟨(some 36), .call 100 (.k (.fn (.func 13) [] [])) [(.t 34), (.t 35)], (some (33, true))⟩, ⟨(some 37), .pick (.t 33) (.t 36) (.k (.bool false)), none⟩, ⟨(some 38), .mv (.t 37), none⟩, ⟨(some 39), .ld (some 8) (.t 13), (some (38, true))⟩, ⟨(some 40), .call 104 (.k (.fn (.func 12) [] [])) [(.t 39)], (some (38, true))⟩, ⟨(some 41), .ld (some 8) (.t 15), (some (38, true))⟩, ⟨(some 42), .eqa false [1, 1, 1, 1, 1, 1, 1, 1] (.t 40) (.t 41), (some (38, true))⟩, ⟨(some 43), .pick (.t 38) (.t 42) (.k (.bool false)), none⟩, ⟨(some 44), .mv (.t 43), none⟩, ⟨(some 45), .mv (.t 0), (some (44, true))⟩, ⟨(some 46), .fa 2 (.t 6), (some (44, true))⟩, ⟨(some 47), .ld none (.t 46), (some (44, true))⟩, ⟨(some 48), .fa 3 (.t 6), (some (44, true))⟩, ⟨(some 49), .ld none (.t 48), (some (44, true))⟩, ⟨(some 50), .mv (.t 2), (some (44, true))⟩, ⟨(some 51), .call 115 (.k (.fn (.func 14) [] [])) [(.t 45), (.t 47), (.t 49), (.t 50)], (some (44, true))⟩, ⟨(some 52), .mv (.t 0), (some (44, true))⟩, ⟨(some 53), .fa 2 (.t 6), (some (44, true))⟩, ⟨(some 54), .ld none (.t 53), (some (44, true))⟩, ⟨(some 55), .fa 3 (.t 6), (some (44, true))⟩, ⟨(some 56), .ld none (.t 55), (some (44, true))⟩, ⟨(some 57), .mv (.t 2), (some (44, true))⟩, ⟨(some 58), .call 122 (.k (.fn (.func 15) [] [])) [(.t 52), (.t 54), (.t 56), (.t 57)], (some (44, true))⟩, ⟨(some 59), .call 123 (.k (.fn (.func 13) [] [])) [(.t 51), (.t 58)], (some (44, true))⟩, ⟨(some 60), .pick (.t 44) (.t 59) (.k (.bool false)), none⟩, ⟨(some 61), .mv (.t 60), none⟩, ⟨(some 62), .mv (.t 0), (some (61, true))⟩, ⟨(some 63), .fa 2 (.t 6), (some (61, true))⟩, ⟨(some 64), .ld none (.t 63), (some (61, true))⟩, ⟨(some 65), .fa 3 (.t 6), (some (61, true))⟩, ⟨(some 66), .ld none (.t 65), (some (61, true))⟩, ⟨(some 67), .mv (.t 3), (some (61, true))⟩, ⟨(some 68), .call 132 (.k (.fn (.func 17) [] [])) [(.t 62), (.t 64), (.t 66), (.t 67)], (some (61, true))⟩, ⟨(some 69), .mv (.t 0), (some (61, true))⟩, ⟨(some 70), .fa 2 (.t 6), (some (61, true))⟩, ⟨(some 71), .ld none (.t 70), (some (61, true))⟩, ⟨(some 72), .fa 3 (.t 6), (some (61, true))⟩, ⟨(some 73), .ld none (.t 72), (some (61, true))⟩, ⟨(some 74), .mv (.t 3), (some (61, true))⟩, ⟨(some 75), .call 139 (.k (.fn (.func 18) [] [])) [(.t 69), (.t 71), (.t 73), (.t 74)], (some (61, true))⟩, ⟨(some 76), .call 140 (.k (.fn (.func 16) [] [])) [(.t 68), (.t 75)], (some (61, true))⟩, ⟨(some 77), .pick (.t 61) (.t 76) (.k (.bool false)), none⟩, ⟨(some 78), .mv (.t 77), none⟩, ⟨(some 79), .mv (.t 4), (some (78, true))⟩, ⟨(some 80), .fa 5 (.t 6), (some (78, true))⟩, ⟨(some 81), .ld none (.t 80), (some (78, true))⟩, ⟨(some 82), .call 146 (.k (.fn (.func 19) [] [])) [(.t 79), (.t 81)], (some (78, true))⟩, ⟨(some 83), .mv (.t 4), (some (78, true))⟩, ⟨(some 84), .fa 5 (.t 6), (some (78, true))⟩, ⟨(some 85), .ld none (.t 84), (some (78, true))⟩, ⟨(some 86), .call 150 (.k (.fn (.func 20) [] [])) [(.t 83), (.t 85)], (some (78, true))⟩, ⟨(some 87), .bin .eql (.t 82) (.t 86), (some (78, true))⟩, ⟨(some 88), .pick (.t 78) (.t 87) (.k (.bool false)), none⟩, ⟨(some 89), .mv (.t 88), none⟩, ⟨(some 90), .mv (.t 4), (some (89, true))⟩, ⟨(some 91), .call 155 (.k (.fn (.func 21) [] [])) [(.t 90)], (some (89, true))⟩, ⟨(some 92), .mv (.t 4), (some (89, true))⟩, ⟨(some 93), .call 157 (.k (.fn (.func 22) [] [])) [(.t 92)], (some (89, true))⟩, ⟨(some 94), .bin .eql (.t 91) (.t 93), (some (89, true))⟩, ⟨(some 95), .pick (.t 89) (.t 94) (.k (.bool false)), none⟩, ⟨(some 96), .mv (.t 95), none⟩, ⟨(some 97), .fa 0 (.t 6), (some (96, true))⟩, ⟨(some 98), .ld none (.t 97), (some (96, true))⟩, ⟨(some 99), .fa 2 (.t 6), (some (96, true))⟩, ⟨(some 100), .ld none (.t 99), (some (96, true))⟩, ⟨(some 101), .fa 3 (.t 6), (some (96, true))⟩, ⟨(some 102), .ld none (.t 101), (some (96, true))⟩, ⟨(some 103), .fa 5 (.t 6), (some (96, true))⟩, ⟨(some 104), .ld none (.t 103), (some (96, true))⟩, ⟨(some 105), .call 169 (.k (.fn (.func 23) [] [])) [(.t 98), (.t 100), (.t 102), (.t 104)], (some (96, true))⟩, ⟨(some 106), .call 170 (.k (.fn (.func 12) [] [])) [(.t 105)], (some (96, true))⟩, ⟨(some 107), .fa 0 (.t 6), (some (96, true))⟩, ⟨(some 108), .ld none (.t 107), (some (96, true))⟩, ⟨(some 109), .fa 2 (.t 6), (some (96, true))⟩, ⟨(some 110), .ld none (.t 109), (some (96, true))⟩, ⟨(some 111), .fa 3 (.t 6), (some (96, true))⟩, ⟨(some 112), .ld none (.t 111), (some (96, true))⟩, ⟨(some 113), .fa 5 (.t 6), (some (96, true))⟩, ⟨(some 114), .ld none (.t 113), (some (96, true))⟩, ⟨(some 115), .call 179 (.k (.fn (.func 24) [] [])) [(.t 108), (.t 110), (.t 112), (.t 114)], (some (96, true))⟩, ⟨(some 116), .eqa false [1, 1, 1, 1, 1, 1, 1, 1] (.t 106) (.t 115), (some (96, true))⟩, ⟨(some 117), .pick (.t 96) (.t 116) (.k (.bool false)), none⟩, ⟨(some 10), .mv (.t 117), none⟩] (some [(7, 9), (8, 9), (15, 17), (15, 22), (17, 22), (19, 22), (15, 24), (17, 24), (19, 24), (22, 24), (32, 34), (32, 39), (34, 39), (36, 39), (32, 41), (34, 41), (36, 41), (39, 41), (49, 53), (50, 53), (66, 68), (66, 70), (68, 70), (66, 72), (68, 72), (70, 72), (66, 76), (68, 76), (70, 76), (72, 76), (73, 76), (74, 76), (66, 78), (68, 78), (70, 78), (72, 78), (73, 78), (74, 78), (76, 78), (66, 80), (68, 80), (70, 80), (72, 80), (73, 80), (74, 80), (76, 80), (78, 80), (66, 82), (68, 82), (70, 82), (72, 82), (73, 82), (74, 82), (76, 82), (78, 82), (80, 82)]))
 .ret))))))⟩
/-- besom/besomlaw08.ChainVersions -/
def m4 : MFn := ⟨1, 47, [.tmp 2], (.seq (.reg [⟨(some 2), .mv (.k (.bool false)), none⟩] none)
 (.seq (.reg [⟨(some 6), .call 70 (.k (.fn (.func 9) [] [])) [], none⟩, ⟨(some 3), .mv (.t 6), none⟩] none)
 (.seq (.seq (.reg [⟨(some 7), .mv (.t 3), none⟩, ⟨(some 8), .un .not (.t 7), none⟩] none)
 (.cond (.t 8) (.seq (.reg [⟨(some 2), .mv (.k (.bool false)), none⟩] none)
 .ret) .skip))
 (.seq (.reg [⟨(some 9), .call 73 (.k (.fn (.func 25) [] [])) [], none⟩, ⟨(some 4), .alloc 68 [.nils, .nils, .nils, (.int .i64 0)], none⟩, ⟨none, .st 4 (.t 4) (.t 9), none⟩] none)
 (.seq (.seq (.reg [⟨(some 5), .mv (.k (.int .i64 0)), none⟩] none)
 (.block 0 (.loop (.seq (.seq (.reg [⟨(some 10), .mv (.t 5), none⟩, ⟨(some 11), .mv (.t 0), none⟩, ⟨(some 12), .len (.t 11), none⟩, ⟨(some 13), .bin .lss (.t 10) (.t 12), none⟩, ⟨(some 14), .mv (.t 13), none⟩, ⟨(some 15), .mv (.t 5), (some (14, true))⟩, ⟨(some 16), .bin .lss (.t 15) (.k (.int .i64 300)), (some (14, true))⟩, ⟨(some 17), .pick (.t 14) (.t 16) (.k (.bool false)), none⟩] none)
 (.cond (.t 17) .skip (.exit 0)))
 (.seq (.block 1 (.seq (.reg [⟨(some 20), .mv (.t 0), none⟩, ⟨(some 21), .mv (.t 5), none⟩, ⟨(some 22), .ixs 1 (.t 20) (.t 21), none⟩, ⟨(some 23), .ld none (.t 22), none⟩, ⟨(some 24), .call 88 (.k (.fn (.func 26) [] [])) [(.t 4), (.t 23)], none⟩] none)
 (.seq (.reg [⟨(some 25), .fa 0 (.t 4), none⟩, ⟨(some 26), .ld none (.t 25), none⟩, ⟨(some 27), .len (.t 26), none⟩, ⟨(some 28), .bin .neq (.t 27) (.k (.int .i64 10)), none⟩, ⟨(some 29), .mv (.t 28), none⟩, ⟨(some 30), .fa 0 (.t 4), (some (29, false))⟩, ⟨(some 31), .ld none (.t 30), (some (29, false))⟩, ⟨(some 32), .ixs 1 (.t 31) (.k (.int .i64 0)), (some (29, false))⟩, ⟨(some 33), .ld none (.t 32), (some (29, false))⟩, ⟨(some 34), .bin .shr (.t 33) (.k (.int .u64 32)), (some (29, false))⟩, ⟨(some 35), .fa 0 (.t 4), (some (29, false))⟩, ⟨(some 36), .ld none (.t 35), (some (29, false))⟩, ⟨(some 37), .ixs 1 (.t 36) (.k (.int .i64 1)), (some (29, false))⟩, ⟨(some 38), .ld none (.t 37), (some (29, false))⟩, ⟨(some 39), .bin .shr (.t 38) (.k (.int .u64 32)), (some (29, false))⟩, ⟨(some 40), .bin .add (.t 34) (.t 39), (some (29, false))⟩, ⟨(some 41), .fa 3 (.t 4), (some (29, false))⟩, ⟨(some 42), .ld none (.t 41), (some (29, false))⟩, ⟨(some 43), .conv .u64 (.t 42), (some (29, false))⟩, ⟨(some 44), .bin .neq (.t 40) (.t 43), (some (29, false))⟩, ⟨(some 45), .pick (.t 29) (.k (.bool true)) (.t 44), none⟩] (some [(6, 11), (7, 11), (8, 11), (6, 12), (7, 12), (8, 12), (6, 13), (7, 13), (8, 13), (6, 17), (7, 17), (8, 17), (11, 17), (12, 17), (13, 17)]))
 (.cond (.t 45) (.seq (.reg [⟨(some 2), .mv (.k (.bool false)), none⟩] none)
 .ret) .skip))))
 (.reg [⟨(some 18), .mv (.t 5), none⟩, ⟨(some 19), .bin .add (.t 18) (.k (.int .i64 1)), none⟩, ⟨(some 5), .mv (.t 19), none⟩] none))))))
 (.seq (.reg [⟨(some 46), .mv (.t 3), none⟩, ⟨(some 2), .mv (.t 46), none⟩] none)
 .ret))))))⟩
/-- besom/besomlaw08.ChainAlone -/
def m5 : MFn := ⟨1, 85, [.tmp 2], (.seq (.reg [⟨(some 2), .mv (.k (.bool false)), none⟩] none)
 (.seq (.reg [⟨(some 10), .call 74 (.k (.fn (.func 9) [] [])) [], none⟩, ⟨(some 3), .mv (.t 10), none⟩] none)
 (.seq (.seq (.reg [⟨(some 11), .mv (.t 3), none⟩, ⟨(some 12), .un .not (.t 11), none⟩] none)
 (.cond (.t 12) (.seq (.reg [⟨(some 2), .mv (.k (.bool false)), none⟩] none)
 .ret) .skip))
 (.seq (.reg [⟨(some 13), .mks 77 1 8 (.int .u64 0) (.k (.int .i64 42)), none⟩, ⟨(some 14), .call 78 (.k (.fn (.func 14) [] [])) [(.t 13), (.k (.int .i64 0)), (.k (.int .i64 1)), (.k .nils)], none⟩, ⟨(some 4), .mv (.t 14), none⟩] none)
 (.seq (.reg [⟨(some 5), .mv (.k .nils), none⟩] none)
 (.seq (.seq (.reg [⟨(some 6), .mv (.k (.int .i64 0)), none⟩] none)
 (.block 0 (.loop (.seq (.seq (.reg [⟨(some 15), .mv (.t 6), none⟩, ⟨(some 16), .mv (.t 0), none⟩, ⟨(some 17), .len (.t 16), none⟩, ⟨(some 18), .bin .lss (.t 15) (.t 17), none⟩, ⟨(some 19), .mv (.t 18), none⟩, ⟨(some 20), .mv (.t 6), (some (19, true))⟩, ⟨(some 21), .bin .lss (.t 20) (.k (.int .i64 40)), (some (19, true))⟩, ⟨(some 22), .pick (.t 19) (.t 21) (.k (.bool false)), none⟩] none)
 (.cond (.t 22) .skip (.exit 0)))
 (.seq (.block 1 (.seq (.reg [⟨(some 25), .mv (.t 0), none⟩, ⟨(some 26), .mv (.t 6), none⟩, ⟨(some 27), .ixs 1 (.t 25) (.t 26), none⟩, ⟨(some 28), .ld none (.t 27), none⟩, ⟨(some 29), .bin .rem (.t 28) (.k (.int .u8 2)), none⟩, ⟨(some 30), .conv .i64 (.t 29), none⟩, ⟨(some 31), .bin .add (.k (.int .i64 1)) (.t 30), none⟩, ⟨(some 7), .mv (.t 31), none⟩] none)
 (.seq (.reg [⟨(some 32), .bld [(.int .i64 0), (.int .i64 0), (.int .i64 0), (.int .i64 0), (.int .u64 0), (.int .i64 0), (.int .i64 0), (.int .i64 0)] [], none⟩, ⟨(some 8), .alloc 72 [(.int .i64 0), (.int .i64 0), (.int .i64 0), (.int .i64 0), (.int .u64 0), (.int .i64 0), (.int .i64 0), (.int .i64 0)], none⟩, ⟨none, .st 8 (.t 8) (.t 32), none⟩] none)
 (.seq (.reg [⟨(some 9), .mv (.k (.int .i64 0)), none⟩] none)
 (.seq (.reg [⟨(some 34), .mv (.t 4), none⟩, ⟨(some 35), .mv (.t 7), none⟩, ⟨(some 36), .mv (.t 6), none⟩, ⟨(some 37), .bin .add (.t 36) (.k (.int .i64 1)), none⟩, ⟨(some 38), .call 102 (.k (.fn (.func 23) [] [])) [(.t 35), (.k (.int .i64 0)), (.k (.int .i64 1)), (.t 37)], none⟩, ⟨(some 39), .call 103 (.k (.fn (.func 27) [] [])) [(.t 34), (.t 38), (.k (.int .i64 9))], none⟩, ⟨(some 33), .mv (.t 39), none⟩, ⟨(some 40), .ext (.t 33) 0, none⟩, ⟨(some 41), .ext (.t 33) 1, none⟩, ⟨(some 42), .ext (.t 33) 2, none⟩, ⟨(some 4), .mv (.t 40), none⟩, ⟨none, .st 8 (.t 8) (.t 41), none⟩, ⟨(some 9), .mv (.t 42), none⟩] none)
 (.seq (.block 2 (.seq (.reg [⟨(some 52), .mv (.t 7), none⟩, ⟨(some 53), .bin .eql (.t 52) (.k (.int .i64 1)), none⟩, ⟨(some 51), .mv (.t 53), none⟩] none)
 (.cond (.t 51) (.reg [⟨(some 54), .mv (.t 6), none⟩, ⟨(some 55), .bin .add (.t 54) (.k (.int .i64 1)), none⟩, ⟨(some 56), .bslt 1 [(.t 55)], none⟩, ⟨(some 57), .mv (.t 5), none⟩, ⟨(some 58), .app 122 1 8 (.t 56) (.t 57), none⟩, ⟨(some 5), .mv (.t 58), none⟩] none) (.seq (.reg [⟨(some 60), .mv (.t 5), none⟩, ⟨(some 61), .len (.t 60), none⟩, ⟨(some 62), .bin .eql (.t 61) (.k (.int .i64 0)), none⟩, ⟨(some 59), .mv (.t 62), none⟩] none)
 (.cond (.t 59) (.seq (.seq (.reg [⟨(some 63), .fa 7 (.t 8), none⟩, ⟨(some 64), .ld none (.t 63), none⟩, ⟨(some 65), .bin .neq (.t 64) (.k (.int .i64 2)), none⟩, ⟨(some 66), .mv (.t 65), none⟩, ⟨(some 67), .mv (.t 9), (some (66, false))⟩, ⟨(some 68), .bin .neq (.t 67) (.k (.int .i64 1)), (some (66, false))⟩, ⟨(some 69), .pick (.t 66) (.k (.bool true)) (.t 68), none⟩] none)
 (.cond (.t 69) (.seq (.reg [⟨(some 2), .mv (.k (.bool false)), none⟩] none)
 .ret) .skip))
 (.exit 1)) (.seq (.seq (.reg [⟨(some 43), .fa 5 (.t 8), none⟩, ⟨(some 44), .ld none (.t 43), none⟩, ⟨(some 45), .mv (.t 5), none⟩, ⟨(some 46), .ixs 1 (.t 45) (.k (.int .i64 0)), none⟩, ⟨(some 47), .ld none (.t 46), none⟩, ⟨(some 48), .bin .neq (.t 44) (.t 47), none⟩] (some [(1, 3), (1, 4)]))
 (.cond (.t 48) (.seq (.reg [⟨(some 2), .mv (.k (.bool false)), none⟩] none)
 .ret) .skip))
 (.reg [⟨(some 49), .mv (.t 5), none⟩, ⟨(some 50), .sll 1 (.t 49) (some (.k (.int .i64 1))) none, none⟩, ⟨(some 5), .mv (.t 50), none⟩] none)))))))
 (.seq (.reg [⟨(some 70), .fa 7 (.t 8), none⟩, ⟨(some 71), .ld none (.t 70), none⟩, ⟨(some 72), .bin .neq (.t 71) (.k (.int .i64 1)), none⟩, ⟨(some 73), .mv (.t 72), none⟩, ⟨(some 74), .mv (.t 9), (some (73, false))⟩, ⟨(some 75), .bin .neq (.t 74) (.k (.int .i64 3)), (some (73, false))⟩, ⟨(some 76), .pick (.t 73) (.k (.bool true)) (.t 75), none⟩, ⟨(some 77), .mv (.t 76), none⟩, ⟨(some 78), .mv (.t 4), (some (77, false))⟩, ⟨(some 79), .call 143 (.k (.fn (.func 17) [] [])) [(.t 78), (.k (.int .i64 0)), (.k (.int .i64 1)), (.k (.int .i64 99))], (some (77, false))⟩, ⟨(some 80), .mv (.t 5), (some (77, false))⟩, ⟨(some 81), .call 145 (.k (.fn (.func 16) [] [])) [(.t 79), (.t 80)], (some (77, false))⟩, ⟨(some 82), .un .not (.t 81), (some (77, false))⟩, ⟨(some 83), .pick (.t 77) (.k (.bool true)) (.t 82), none⟩] none)
 (.cond (.t 83) (.seq (.reg [⟨(some 2), .mv (.k (.bool false)), none⟩] none)
 .ret) .skip))))))))
 (.reg [⟨(some 23), .mv (.t 6), none⟩, ⟨(some 24), .bin .add (.t 23) (.k (.int .i64 1)), none⟩, ⟨(some 6), .mv (.t 24), none⟩] none))))))
 (.seq (.reg [⟨(some 84), .mv (.t 3), none⟩, ⟨(some 2), .mv (.t 84), none⟩] none)
 .ret)))))))⟩
/-- besom/besomlaw08.ChainStops -/
def m6 : MFn := ⟨2, 53, [.tmp 4], (.seq (.reg [⟨(some 4), .mv (.k (.bool false)), none⟩] none)
 (.seq (.reg [⟨(some 11), .call 75 (.k (.fn (.func 9) [] [])) [], none⟩, ⟨(some 5), .mv (.t 11), none⟩] none)
 (.seq (.seq (.reg [⟨(some 12), .mv (.t 5), none⟩, ⟨(some 13), .un .not (.t 12), none⟩] none)
 (.cond (.t 13) (.seq (.reg [⟨(some 4), .mv (.k (.bool false)), none⟩] none)
 .ret) .skip))
 (.seq (.reg [⟨(some 14), .call 78 (.k (.fn (.func 25) [] [])) [], none⟩, ⟨(some 6), .alloc 70 [.nils, .nils, .nils, (.int .i64 0)], none⟩, ⟨none, .st 4 (.t 6) (.t 14), none⟩] none)
 (.seq (.seq (.reg [⟨(some 7), .mv (.k (.int .i64 0)), none⟩] none)
 (.block 0 (.loop (.seq (.seq (.reg [⟨(some 15), .mv (.t 7), none⟩, ⟨(some 16), .mv (.t 0), none⟩, ⟨(some 17), .len (.t 16), none⟩, ⟨(some 18), .bin .lss (.t 15) (.t 17), none⟩, ⟨(some 19), .mv (.t 18), none⟩, ⟨(some 20), .mv (.t 7), (some (19, true))⟩, ⟨(some 21), .bin .lss (.t 20) (.k (.int .i64 200)), (some (19, true))⟩, ⟨(some 22), .pick (.t 19) (.t 21) (.k (.bool false)), none⟩] none)
 (.cond (.t 22) .skip (.exit 0)))
 (.seq (.block 1 (.reg [⟨(some 25), .mv (.t 0), none⟩, ⟨(some 26), .mv (.t 7), none⟩, ⟨(some 27), .ixs 1 (.t 25) (.t 26), none⟩, ⟨(some 28), .ld none (.t 27), none⟩, ⟨(some 29), .call 93 (.k (.fn (.func 26) [] [])) [(.t 6), (.t 28)], none⟩] none))
 (.reg [⟨(some 23), .mv (.t 7), none⟩, ⟨(some 24), .bin .add (.t 23) (.k (.int .i64 1)), none⟩, ⟨(some 7), .mv (.t 24), none⟩] none))))))
 (.seq (.reg [⟨(some 31), .fa 0 (.t 6), none⟩, ⟨(some 32), .ld none (.t 31), none⟩, ⟨(some 33), .fa 1 (.t 6), none⟩, ⟨(some 34), .ld none (.t 33), none⟩, ⟨(some 35), .mv (.t 1), none⟩, ⟨(some 36), .bin .rem (.t 35) (.k (.int .u8 5)), none⟩, ⟨(some 37), .ixs 8 (.t 34) (.t 36), none⟩, ⟨(some 38), .ld (some 8) (.t 37), none⟩, ⟨(some 39), .call 103 (.k (.fn (.func 27) [] [])) [(.t 32), (.t 38), (.k (.int .i64 6))], none⟩, ⟨(some 30), .mv (.t 39), none⟩, ⟨(some 40), .ext (.t 30) 0, none⟩, ⟨(some 41), .ext (.t 30) 1, none⟩, ⟨(some 42), .ext (.t 30) 2, none⟩, ⟨(some 9), .alloc 73 [(.int .i64 0), (.int .i64 0), (.int .i64 0), (.int .i64 0), (.int .u64 0), (.int .i64 0), (.int .i64 0), (.int .i64 0)], none⟩, ⟨(some 8), .mv (.t 40), none⟩, ⟨none, .st 8 (.t 9) (.t 41), none⟩, ⟨(some 10), .mv (.t 42), none⟩] (some [(1, 3), (1, 6), (1, 7), (1, 13), (3, 13), (6, 13), (7, 13), (8, 13)]))
 (.seq (.reg [⟨(some 43), .mv (.t 5), none⟩, ⟨(some 44), .mv (.t 43), none⟩, ⟨(some 45), .fa 7 (.t 9), (some (44, true))⟩, ⟨(some 46), .ld none (.t 45), (some (44, true))⟩, ⟨(some 47), .bin .neq (.t 46) (.k (.int .i64 0)), (some (44, true))⟩, ⟨(some 48), .pick (.t 44) (.t 47) (.k (.bool false)), none⟩, ⟨(some 49), .mv (.t 48), none⟩, ⟨(some 50), .mv (.t 10), (some (49, true))⟩, ⟨(some 51), .bin .leq (.t 50) (.k (.int .i64 6)), (some (49, true))⟩, ⟨(some 52), .pick (.t 49) (.t 51) (.k (.bool false)), none⟩, ⟨(some 4), .mv (.t 52), none⟩] none)
 .ret)))))))⟩
/-- besom/besomlaw08.ChainLays -/
def m7 : MFn := ⟨2, 90, [.tmp 4], (.seq (.reg [⟨(some 4), .mv (.k (.bool false)), none⟩] none)
 (.seq (.reg [⟨(some 13), .call 77 (.k (.fn (.func 9) [] [])) [], none⟩, ⟨(some 5), .mv (.t 13), none⟩] none)
 (.seq (.seq (.reg [⟨(some 14), .mv (.t 5), none⟩, ⟨(some 15), .un .not (.t 14), none⟩] none)
 (.cond (.t 15) (.seq (.reg [⟨(some 4), .mv (.k (.bool false)), none⟩] none)
 .ret) .skip))
 (.seq (.reg [⟨(some 6), .mv (.k .nils), none⟩] none)
 (.seq (.seq (.reg [⟨(some 7), .mv (.k (.int .i64 0)), none⟩] none)
 (.block 0 (.loop (.seq (.seq (.reg [⟨(some 16), .mv (.t 7), none⟩, ⟨(some 17), .mv (.t 0), none⟩, ⟨(some 18), .len (.t 17), none⟩, ⟨(some 19), .bin .lss (.t 16) (.t 18), none⟩] none)
 (.cond (.t 19) .skip (.exit 0)))
 (.seq (.block 1 (.seq (.reg [⟨(some 22), .mv (.t 0), none⟩, ⟨(some 23), .mv (.t 7), none⟩, ⟨(some 24), .ixs 1 (.t 22) (.t 23), none⟩, ⟨(some 25), .ld none (.t 24), none⟩, ⟨(some 26), .bin .rem (.t 25) (.k (.int .u8 20)), none⟩, ⟨(some 27), .conv .i64 (.t 26), none⟩, ⟨(some 28), .bin .add (.k (.int .i64 1)) (.t 27), none⟩, ⟨(some 8), .mv (.t 28), none⟩] none)
 (.seq (.reg [⟨(some 9), .mv (.k (.bool false)), none⟩] none)
 (.seq (.seq (.reg [⟨(some 10), .mv (.k (.int .i64 0)), none⟩] none)
 (.block 2 (.loop (.seq (.seq (.reg [⟨(some 29), .mv (.t 10), none⟩, ⟨(some 30), .mv (.t 6), none⟩, ⟨(some 31), .len (.t 30), none⟩, ⟨(some 32), .bin .lss (.t 29) (.t 31), none⟩] none)
 (.cond (.t 32) .skip (.exit 2)))
 (.seq (.block 3 (.reg [⟨(some 35), .mv (.t 9), none⟩, ⟨(some 36), .mv (.t 35), none⟩, ⟨(some 37), .mv (.t 6), (some (36, false))⟩, ⟨(some 38), .mv (.t 10), (some (36, false))⟩, ⟨(some 39), .ixs 1 (.t 37) (.t 38), (some (36, false))⟩, ⟨(some 40), .ld none (.t 39), (some (36, false))⟩, ⟨(some 41), .mv (.t 8), (some (36, false))⟩, ⟨(some 42), .bin .eql (.t 40) (.t 41), (some (36, false))⟩, ⟨(some 43), .pick (.t 36) (.k (.bool true)) (.t 42), none⟩, ⟨(some 9), .mv (.t 43), none⟩] none))
 (.reg [⟨(some 33), .mv (.t 10), none⟩, ⟨(some 34), .bin .add (.t 33) (.k (.int .i64 1)), none⟩, ⟨(some 10), .mv (.t 34), none⟩] none))))))
 (.seq (.reg [⟨(some 44), .mv (.t 9), none⟩, ⟨(some 45), .un .not (.t 44), none⟩] none)
 (.cond (.t 45) (.reg [⟨(some 46), .mv (.t 6), none⟩, ⟨(some 47), .mv (.t 8), none⟩, ⟨(some 48), .bslt 1 [(.t 47)], none⟩, ⟨(some 49), .app 113 1 8 (.t 46) (.t 48), none⟩, ⟨(some 6), .mv (.t 49), none⟩] none) .skip))))))
 (.reg [⟨(some 20), .mv (.t 7), none⟩, ⟨(some 21), .bin .add (.t 20) (.k (.int .i64 1)), none⟩, ⟨(some 7), .mv (.t 21), none⟩] none))))))
 (.seq (.reg [⟨(some 50), .mks 114 1 8 (.int .u64 0) (.k (.int .i64 30)), none⟩, ⟨(some 51), .mv (.t 6), none⟩, ⟨(some 52), .call 116 (.k (.fn (.func 14) [] [])) [(.t 50), (.k (.int .i64 3)), (.k (.int .i64 5)), (.t 51)], none⟩, ⟨(some 11), .mv (.t 52), none⟩] none)
 (.seq (.seq (.reg [⟨(some 53), .mv (.t 11), none⟩, ⟨(some 54), .len (.t 53), none⟩, ⟨(some 55), .bin .neq (.t 54) (.k (.int .i64 30)), none⟩] none)
 (.cond (.t 55) (.seq (.reg [⟨(some 4), .mv (.k (.bool false)), none⟩] none)
 .ret) .skip))
 (.seq (.reg [⟨(some 56), .mv (.t 1), none⟩, ⟨(some 57), .conv .i64 (.t 56), none⟩, ⟨(some 58), .mv (.t 6), none⟩, ⟨(some 59), .len (.t 58), none⟩, ⟨(some 60), .mn (.t 57) (.t 59), none⟩, ⟨(some 12), .mv (.t 60), none⟩] none)
 (.seq (.reg [⟨(some 61), .mv (.t 5), none⟩, ⟨(some 62), .mv (.t 61), none⟩, ⟨(some 63), .mv (.t 11), (some (62, true))⟩, ⟨(some 64), .mv (.t 1), (some (62, true))⟩, ⟨(some 65), .conv .i64 (.t 64), (some (62, true))⟩, ⟨(some 66), .call 130 (.k (.fn (.func 17) [] [])) [(.t 63), (.k (.int .i64 3)), (.k (.int .i64 5)), (.t 65)], (some (62, true))⟩, ⟨(some 67), .mv (.t 6), (some (62, true))⟩, ⟨(some 68), .mv (.t 12), (some (62, true))⟩, ⟨(some 69), .sll 1 (.t 67) none (some (.t 68)), (some (62, true))⟩, ⟨(some 70), .call 134 (.k (.fn (.func 16) [] [])) [(.t 66), (.t 69)], (some (62, true))⟩, ⟨(some 71), .pick (.t 62) (.t 70) (.k (.bool false)), none⟩, ⟨(some 72), .mv (.t 71), none⟩, ⟨(some 73), .mv (.t 11), (some (72, true))⟩, ⟨(some 74), .ixs 1 (.t 73) (.k (.int .i64 3)), (some (72, true))⟩, ⟨(some 75), .ld none (.t 74), (some (72, true))⟩, ⟨(some 76), .bin .lss (.t 75) (.k (.int .u64 4294967296)), (some (72, true))⟩, ⟨(some 77), .pick (.t 72) (.t 76) (.k (.bool false)), none⟩, ⟨(some 78), .mv (.t 77), none⟩, ⟨(some 79), .mv (.t 1), (some (78, true))⟩, ⟨(some 80), .conv .u64 (.t 79), (some (78, true))⟩, ⟨(some 81), .call 145 (.k (.fn (.func 19) [] [])) [(.t 80), (.k (.int .i64 7))], (some (78, true))⟩, ⟨(some 82), .call 146 (.k (.fn (.func 21) [] [])) [(.t 81)], (some (78, true))⟩, ⟨(some 83), .bin .eql (.t 82) (.k (.int .i64 7)), (some (78, true))⟩, ⟨(some 84), .pick (.t 78) (.t 83) (.k (.bool false)), none⟩, ⟨(some 85), .mv (.t 84), none⟩, ⟨(some 86), .call 150 (.k (.fn (.func 19) [] [])) [(.k (.int .u64 5)), (.k (.int .i64 7))], (some (85, true))⟩, ⟨(some 87), .bin .shr (.t 86) (.k (.int .u64 32)), (some (85, true))⟩, ⟨(some 88), .bin .eql (.t 87) (.k (.int .u64 5)), (some (85, true))⟩, ⟨(some 89), .pick (.t 85) (.t 88) (.k (.bool false)), none⟩, ⟨(some 4), .mv (.t 89), none⟩] (some [(5, 8)]))
 .ret)))))))))⟩
/-- besom/besomlaw08.ChainPure -/
def m8 : MFn := ⟨2, 103, [.tmp 4], (.seq (.reg [⟨(some 3), .box 67 (.t 1), none⟩, ⟨(some 4), .mv (.k (.bool false)), none⟩] none)
 (.seq (.reg [⟨(some 11), .call 75 (.k (.fn (.func 9) [] [])) [], none⟩, ⟨(some 5), .mv (.t 11), none⟩] none)
 (.seq (.seq (.reg [⟨(some 12), .mv (.t 5), none⟩, ⟨(some 13), .un .not (.t 12), none⟩] none)
 (.cond (.t 13) (.seq (.reg [⟨(some 4), .mv (.k (.bool false)), none⟩] none)
 .ret) .skip))
 (.seq (.reg [⟨(some 14), .mv (.t 0), none⟩, ⟨(some 15), .app 79 1 8 (.k .nils) (.t 14), none⟩, ⟨(some 6), .mv (.t 15), none⟩] none)
 (.seq (.reg [⟨(some 17), .mv (.t 0), none⟩, ⟨(some 18), .ld (some 8) (.t 3), none⟩, ⟨(some 19), .call 83 (.k (.fn (.func 10) [] [])) [(.t 17), (.t 18)], none⟩, ⟨(some 16), .mv (.t 19), none⟩, ⟨(some 20), .ext (.t 16) 0, none⟩, ⟨(some 21), .ext (.t 16) 1, none⟩, ⟨(some 8), .alloc 72 [(.int .i64 0), (.int .i64 0), (.int .i64 0), (.int .i64 0), (.int .u64 0), (.int .i64 0), (.int .i64 0), (.int .i64 0)], none⟩, ⟨(some 7), .mv (.t 20), none⟩, ⟨none, .st 8 (.t 8) (.t 21), none⟩] none)
 (.seq (.reg [⟨(some 9), .mv (.k (.int .i64 0)), none⟩] none)
 (.seq (.seq (.reg [⟨(some 10), .mv (.k (.int .i64 0)), none⟩] none)
 (.block 0 (.loop (.seq (.seq (.reg [⟨(some 22), .mv (.t 10), none⟩, ⟨(some 23), .mv (.t 7), none⟩, ⟨(some 24), .len (.t 23), none⟩, ⟨(some 25), .bin .lss (.t 22) (.t 24), none⟩, ⟨(some 26), .mv (.t 25), none⟩, ⟨(some 27), .mv (.t 10), (some (26, true))⟩, ⟨(some 28), .mv (.t 0), (some (26, true))⟩, ⟨(some 29), .len (.t 28), (some (26, true))⟩, ⟨(some 30), .bin .lss (.t 27) (.t 29), (some (26, true))⟩, ⟨(some 31), .pick (.t 26) (.t 30) (.k (.bool false)), none⟩] none)
 (.cond (.t 31) .skip (.exit 0)))
 (.seq (.block 1 (.seq (.reg [⟨(some 34), .mv (.t 7), none⟩, ⟨(some 35), .mv (.t 10), none⟩, ⟨(some 36), .ixs 1 (.t 34) (.t 35), none⟩, ⟨(some 37), .ld none (.t 36), none⟩, ⟨(some 38), .mv (.t 0), none⟩, ⟨(some 39), .mv (.t 10), none⟩, ⟨(some 40), .ixs 1 (.t 38) (.t 39), none⟩, ⟨(some 41), .ld none (.t 40), none⟩, ⟨(some 42), .bin .neq (.t 37) (.t 41), none⟩] (some [(2, 6), (3, 6), (2, 7), (3, 7)]))
 (.cond (.t 42) (.reg [⟨(some 43), .mv (.t 9), none⟩, ⟨(some 44), .bin .add (.t 43) (.k (.int .i64 1)), none⟩, ⟨(some 9), .mv (.t 44), none⟩] none) .skip)))
 (.reg [⟨(some 32), .mv (.t 10), none⟩, ⟨(some 33), .bin .add (.t 32) (.k (.int .i64 1)), none⟩, ⟨(some 10), .mv (.t 33), none⟩] none))))))
 (.seq (.seq (.reg [⟨(some 45), .fa 7 (.t 3), none⟩, ⟨(some 46), .ld none (.t 45), none⟩, ⟨(some 47), .bin .neq (.t 46) (.k (.int .i64 0)), none⟩] none)
 (.cond (.t 47) (.seq (.reg [⟨(some 48), .mv (.t 5), none⟩, ⟨(some 49), .mv (.t 48), none⟩, ⟨(some 50), .mv (.t 9), (some (49, true))⟩, ⟨(some 51), .bin .eql (.t 50) (.k (.int .i64 0)), (some (49, true))⟩, ⟨(some 52), .pick (.t 49) (.t 51) (.k (.bool false)), none⟩, ⟨(some 53), .mv (.t 52), none⟩, ⟨(some 54), .ld (some 8) (.t 8), (some (53, true))⟩, ⟨(some 55), .ld (some 8) (.t 3), (some (53, true))⟩, ⟨(some 56), .eqa false [1, 1, 1, 1, 1, 1, 1, 1] (.t 54) (.t 55), (some (53, true))⟩, ⟨(some 57), .pick (.t 53) (.t 56) (.k (.bool false)), none⟩, ⟨(some 58), .mv (.t 57), none⟩, ⟨(some 59), .mv (.t 7), (some (58, true))⟩, ⟨(some 60), .len (.t 59), (some (58, true))⟩, ⟨(some 61), .mv (.t 0), (some (58, true))⟩, ⟨(some 62), .len (.t 61), (some (58, true))⟩, ⟨(some 63), .bin .eql (.t 60) (.t 62), (some (58, true))⟩, ⟨(some 64), .pick (.t 58) (.t 63) (.k (.bool false)), none⟩, ⟨(some 4), .mv (.t 64), none⟩] none)
 .ret) .skip))
 (.seq (.reg [⟨(some 65), .mv (.t 5), none⟩, ⟨(some 66), .mv (.t 65), none⟩, ⟨(some 67), .mv (.t 0), (some (66, true))⟩, ⟨(some 68), .mv (.t 6), (some (66, true))⟩, ⟨(some 69), .call 133 (.k (.fn (.func 28) [] [])) [(.t 67), (.t 68)], (some (66, true))⟩, ⟨(some 70), .pick (.t 66) (.t 69) (.k (.bool false)), none⟩, ⟨(some 71), .mv (.t 70), none⟩, ⟨(some 72), .mv (.t 7), (some (71, true))⟩, ⟨(some 73), .len (.t 72), (some (71, true))⟩, ⟨(some 74), .mv (.t 0), (some (71, true))⟩, ⟨(some 75), .len (.t 74), (some (71, true))⟩, ⟨(some 76), .bin .eql (.t 73) (.t 75), (some (71, true))⟩, ⟨(some 77), .pick (.t 71) (.t 76) (.k (.bool false)), none⟩, ⟨(some 78), .mv (.t 77), none⟩, ⟨(some 79), .mv (.t 9), (some (78, true))⟩, ⟨(some 80), .bin .leq (.t 79) (.k (.int .i64 1)), (some (78, true))⟩, ⟨(some 81), .pick (.t 78) (.t 80) (.k (.bool false)), none⟩, ⟨(some 82), .mv (.t 81), none⟩, ⟨(some 83), .fa 0 (.t 8), (some (82, true))⟩, ⟨(some 84), .ld none (.t 83), (some (82, true))⟩, ⟨(some 85), .fa 0 (.t 3), (some (82, true))⟩, ⟨(some 86), .ld none (.t 85), (some (82, true))⟩, ⟨(some 87), .bin .eql (.t 84) (.t 86), (some (82, true))⟩, ⟨(some 88), .pick (.t 82) (.t 87) (.k (.bool false)), none⟩, ⟨(some 89), .mv (.t 88), none⟩, ⟨(some 90), .fa 2 (.t 8), (some (89, true))⟩, ⟨(some 91), .ld none (.t 90), (some (89, true))⟩, ⟨(some 92), .fa 2 (.t 3), (some (89, true))⟩, ⟨(some 93), .ld none (.t 92), (some (89, true))⟩, ⟨(some 94), .bin .eql (.t 91) (.t 93), (some (89, true))⟩, ⟨(some 95), .pick (.t 89) (.t 94) (.k (.bool false)), none⟩, ⟨(some 96), .mv (.t 95), none⟩, ⟨(some 97), .fa 3 (.t 8), (some (96, true))⟩, ⟨(some 98), .ld none (.t 97), (some (96, true))⟩, ⟨(some 99), .fa 3 (.t 3), (some (96, true))⟩, ⟨(some 100), .ld none (.t 99), (some (96, true))⟩, ⟨(some 101), .bin .eql (.t 98) (.t 100), (some (96, true))⟩, ⟨(some 102), .pick (.t 96) (.t 101) (.k (.bool false)), none⟩, ⟨(some 4), .mv (.t 102), none⟩] none)
 .ret)))))))))⟩
/-- besom/besomlaw08.examples -/
def m9 : MFn := ⟨0, 132, [.tmp 0], (.seq (.reg [⟨(some 0), .mv (.k (.bool false)), none⟩] none)
 (.seq (.reg [⟨(some 13), .mks 77 1 8 (.int .u64 0) (.k (.int .i64 6)), none⟩, ⟨(some 14), .bslt 1 [(.k (.int .i64 2)), (.k (.int .i64 1))], none⟩, ⟨(some 15), .call 79 (.k (.fn (.func 14) [] [])) [(.t 13), (.k (.int .i64 0)), (.k (.int .i64 1)), (.t 14)], none⟩, ⟨(some 1), .mv (.t 15), none⟩] none)
 (.seq (.reg [⟨(some 17), .mks 81 1 8 (.int .u64 0) (.k (.int .i64 6)), none⟩, ⟨(some 18), .call 82 (.k (.fn (.func 23) [] [])) [(.k (.int .i64 2)), (.k (.int .i64 0)), (.k (.int .i64 1)), (.k (.int .i64 0))], none⟩, ⟨(some 19), .call 83 (.k (.fn (.func 27) [] [])) [(.t 17), (.t 18), (.k (.int .i64 9))], none⟩, ⟨(some 16), .mv (.t 19), none⟩, ⟨(some 20), .ext (.t 16) 0, none⟩, ⟨(some 21), .ext (.t 16) 1, none⟩, ⟨(some 22), .ext (.t 16) 2, none⟩, ⟨(some 3), .alloc 67 [(.int .i64 0), (.int .i64 0), (.int .i64 0), (.int .i64 0), (.int .u64 0), (.int .i64 0), (.int .i64 0), (.int .i64 0)], none⟩, ⟨(some 2), .mv (.t 20), none⟩, ⟨none, .st 8 (.t 3) (.t 21), none⟩, ⟨(some 4), .mv (.t 22), none⟩] (some [(0, 1), (0, 7), (1, 7), (2, 7)]))
 (.seq (.reg [⟨(some 24), .mv (.t 1), none⟩, ⟨(some 25), .call 89 (.k (.fn (.func 23) [] [])) [(.k (.int .i64 2)), (.k (.int .i64 0)), (.k (.int .i64 1)), (.k (.int .i64 0))], none⟩, ⟨(some 26), .call 90 (.k (.fn (.func 27) [] [])) [(.t 24), (.t 25), (.k (.int .i64 9))], none⟩, ⟨(some 23), .mv (.t 26), none⟩, ⟨(some 27), .ext (.t 23) 0, none⟩, ⟨(some 28), .ext (.t 23) 1, none⟩, ⟨(some 29), .ext (.t 23) 2, none⟩, ⟨(some 6), .alloc 70 [(.int .i64 0), (.int .i64 0), (.int .i64 0), (.int .i64 0), (.int .u64 0), (.int .i64 0), (.int .i64 0), (.int .i64 0)], none⟩, ⟨(some 5), .mv (.t 27), none⟩, ⟨none, .st 8 (.t 6) (.t 28), none⟩, ⟨(some 7), .mv (.t 29), none⟩] none)
 (.seq (.reg [⟨(some 31), .mv (.t 5), none⟩, ⟨(some 32), .call 96 (.k (.fn (.func 23) [] [])) [(.k (.int .i64 1)), (.k (.int .i64 0)), (.k (.int .i64 1)), (.k (.int .i64 3))], none⟩, ⟨(some 33), .call 97 (.k (.fn (.func 27) [] [])) [(.t 31), (.t 32), (.k (.int .i64 9))], none⟩, ⟨(some 30), .mv (.t 33), none⟩, ⟨(some 34), .ext (.t 30) 0, none⟩, ⟨(some 35), .ext (.t 30) 1, none⟩, ⟨(some 36), .ext (.t 30) 2, none⟩, ⟨(some 9), .alloc 73 [(.int .i64 0), (.int .i64 0), (.int .i64 0), (.int .i64 0), (.int .u64 0), (.int .i64 0), (.int .i64 0), (.int .i64 0)], none⟩, ⟨(some 8), .mv (.t 34), none⟩, ⟨none, .st 8 (.t 9) (.t 35), none⟩, ⟨(some 10), .mv (.t 36), none⟩] none)
 (.seq (.seq (.reg [⟨(some 37), .mv (.t 1), none⟩, ⟨(some 38), .len (.t 37), none⟩, ⟨(some 39), .bin .neq (.t 38) (.k (.int .i64 6)), none⟩, ⟨(some 40), .mv (.t 39), none⟩, ⟨(some 41), .mv (.t 8), (some (40, false))⟩, ⟨(some 42), .len (.t 41), (some (40, false))⟩, ⟨(some 43), .bin .neq (.t 42) (.k (.int .i64 6)), (some (40, false))⟩, ⟨(some 44), .pick (.t 40) (.k (.bool true)) (.t 43), none⟩] none)
 (.cond (.t 44) (.seq (.reg [⟨(some 0), .mv (.k (.bool false)), none⟩] none)
 .ret) .skip))
 (.seq (.reg [⟨(some 46), .mv (.t 1), none⟩, ⟨(some 47), .call 111 (.k (.fn (.func 23) [] [])) [(.k (.int .i64 2)), (.k (.int .i64 0)), (.k (.int .i64 1)), (.k (.int .i64 0))], none⟩, ⟨(some 48), .call 112 (.k (.fn (.func 10) [] [])) [(.t 46), (.t 47)], none⟩, ⟨(some 45), .mv (.t 48), none⟩, ⟨(some 49), .ext (.t 45) 0, none⟩, ⟨(some 50), .ext (.t 45) 1, none⟩, ⟨(some 12), .alloc 76 [(.int .i64 0), (.int .i64 0), (.int .i64 0), (.int .i64 0), (.int .u64 0), (.int .i64 0), (.int .i64 0), (.int .i64 0)], none⟩, ⟨(some 11), .mv (.t 49), none⟩, ⟨none, .st 8 (.t 12) (.t 50), none⟩] none)
 (.seq (.reg [⟨(some 52), .mv (.t 11), none⟩, ⟨(some 53), .ld (some 8) (.t 12), none⟩, ⟨(some 54), .call 118 (.k (.fn (.func 10) [] [])) [(.t 52), (.t 53)], none⟩, ⟨(some 51), .mv (.t 54), none⟩, ⟨(some 55), .ext (.t 51) 0, none⟩, ⟨(some 56), .ext (.t 51) 1, none⟩, ⟨(some 11), .mv (.t 55), none⟩, ⟨none, .st 8 (.t 12) (.t 56), none⟩] none)
 (.seq (.reg [⟨(some 58), .mv (.t 8), none⟩, ⟨(some 59), .ld (some 8) (.t 12), none⟩, ⟨(some 60), .call 124 (.k (.fn (.func 10) [] [])) [(.t 58), (.t 59)], none⟩, ⟨(some 57), .mv (.t 60), none⟩, ⟨(some 61), .ext (.t 57) 0, none⟩, ⟨(some 62), .ext (.t 57) 1, none⟩, ⟨none, .st 8 (.t 12) (.t 62), none⟩] none)
 (.seq (.reg [⟨(some 63), .fa 7 (.t 3), none⟩, ⟨(some 64), .ld none (.t 63), none⟩, ⟨(some 65), .bin .eql (.t 64) (.k (.int .i64 2)), none⟩, ⟨(some 66), .mv (.t 65), none⟩, ⟨(some 67), .mv (.t 4), (some (66, true))⟩, ⟨(some 68), .bin .eql (.t 67) (.k (.int .i64 1)), (some (66, true))⟩, ⟨(some 69), .pick (.t 66) (.t 68) (.k (.bool false)), none⟩, ⟨(some 70), .mv (.t 69), none⟩, ⟨(some 71), .mv (.t 1), (some (70, true))⟩, ⟨(some 72), .call 136 (.k (.fn (.func 17) [] [])) [(.t 71), (.k (.int .i64 0)), (.k (.int .i64 1)), (.k (.int .i64 9))], (some (70, true))⟩, ⟨(some 73), .bslt 1 [(.k (.int .i64 2)), (.k (.int .i64 1))], (some (70, true))⟩, ⟨(some 74), .call 138 (.k (.fn (.func 16) [] [])) [(.t 72), (.t 73)], (some (70, true))⟩, ⟨(some 75), .pick (.t 70) (.t 74) (.k (.bool false)), none⟩, ⟨(some 76), .mv (.t 75), none⟩, ⟨(some 77), .fa 7 (.t 6), (some (76, true))⟩, ⟨(some 78), .ld none (.t 77), (some (76, true))⟩, ⟨(some 79), .bin .eql (.t 78) (.k (.int .i64 1)), (some (76, true))⟩, ⟨(some 80), .pick (.t 76) (.t 79) (.k (.bool false)), none⟩, ⟨(some 81), .mv (.t 80), none⟩, ⟨(some 82), .fa 5 (.t 6), (some (81, true))⟩, ⟨(some 83), .ld none (.t 82), (some (81, true))⟩, ⟨(some 84), .bin .eql (.t 83) (.k (.int .i64 2)), (some (81, true))⟩, ⟨(some 85), .pick (.t 81) (.t 84) (.k (.bool false)), none⟩, ⟨(some 86), .mv (.t 85), none⟩, ⟨(some 87), .mv (.t 5), (some (86, true))⟩, ⟨(some 88), .call 152 (.k (.fn (.func 17) [] [])) [(.t 87), (.k (.int .i64 0)), (.k (.int .i64 1)), (.k (.int .i64 9))], (some (86, true))⟩, ⟨(some 89), .bslt 1 [(.k (.int .i64 1))], (some (86, true))⟩, ⟨(some 90), .call 154 (.k (.fn (.func 16) [] [])) [(.t 88), (.t 89)], (some (86, true))⟩, ⟨(some 91), .pick (.t 86) (.t 90) (.k (.bool false)), none⟩, ⟨(some 92), .mv (.t 91), none⟩, ⟨(some 93), .fa 7 (.t 9), (some (92, true))⟩, ⟨(some 94), .ld none (.t 93), (some (92, true))⟩, ⟨(some 95), .bin .eql (.t 94) (.k (.int .i64 1)), (some (92, true))⟩, ⟨(some 96), .pick (.t 92) (.t 95) (.k (.bool false)), none⟩, ⟨(some 97), .mv (.t 96), none⟩, ⟨(some 98), .mv (.t 8), (some (97, true))⟩, ⟨(some 99), .call 163 (.k (.fn (.func 17) [] [])) [(.t 98), (.k (.int .i64 0)), (.k (.int .i64 1)), (.k (.int .i64 9))], (some (97, true))⟩, ⟨(some 100), .bslt 1 [(.k (.int .i64 3)), (.k (.int .i64 1))], (some (97, true))⟩, ⟨(some 101), .call 165 (.k (.fn (.func 16) [] [])) [(.t 99), (.t 100)], (some (97, true))⟩, ⟨(some 102), .pick (.t 97) (.t 101) (.k (.bool false)), none⟩, ⟨(some 103), .mv (.t 102), none⟩, ⟨(some 104), .mv (.t 8), (some (103, true))⟩, ⟨(some 105), .ixs 1 (.t 104) (.k (.int .i64 0)), (some (103, true))⟩, ⟨(some 106), .ld none (.t 105), (some (103, true))⟩, ⟨(some 107), .call 171 (.k (.fn (.func 19) [] [])) [(.k (.int .u64 2)), (.k (.int .i64 3))], (some (103, true))⟩, ⟨(some 108), .bin .eql (.t 106) (.t 107), (some (103, true))⟩, ⟨(some 109), .pick (.t 103) (.t 108) (.k (.bool false)), none⟩, ⟨(some 110), .mv (.t 109), none⟩, ⟨(some 111), .mv (.t 8), (some (110, true))⟩, ⟨(some 112), .ixs 1 (.t 111) (.k (.int .i64 0)), (some (110, true))⟩, ⟨(some 113), .ld none (.t 112), (some (110, true))⟩, ⟨(some 114), .call 178 (.k (.fn (.func 21) [] [])) [(.t 113)], (some (110, true))⟩, ⟨(some 115), .bin .eql (.t 114) (.k (.int .i64 3)), (some (110, true))⟩, ⟨(some 116), .pick (.t 110) (.t 115) (.k (.bool false)), none⟩, ⟨(some 117), .mv (.t 116), none⟩, ⟨(some 118), .mv (.t 11), (some (117, true))⟩, ⟨(some 119), .len (.t 118), (some (117, true))⟩, ⟨(some 120), .bin .eql (.t 119) (.k (.int .i64 6)), (some (117, true))⟩, ⟨(some 121), .pick (.t 117) (.t 120) (.k (.bool false)), none⟩, ⟨(some 122), .mv (.t 121), none⟩, ⟨(some 123), .fa 7 (.t 12), (some (122, true))⟩, ⟨(some 124), .ld none (.t 123), (some (122, true))⟩, ⟨(some 125), .bin .eql (.t 124) (.k (.int .i64 0)), (some (122, true))⟩, ⟨(some 126), .pick (.t 122) (.t 125) (.k (.bool false)), none⟩, ⟨(some 127), .mv (.t 126), none⟩, ⟨(some 128), .fa 1 (.t 12), (some (127, true))⟩, ⟨(some 129), .ld none (.t 128), (some (127, true))⟩, ⟨(some 130), .bin .eql (.t 129) (.k (.int .i64 0)), (some (127, true))⟩, ⟨(some 131), .pick (.t 127) (.t 130) (.k (.bool false)), none⟩, ⟨(some 0), .mv (.t 131), none⟩] (some [(9, 10), (25, 26), (36, 37), (42, 44), (43, 44)]))
 .ret))))))))))⟩
/-- besom/chain.Step -/
def m10 : MFn := ⟨2, 53, [.tmp 4, .cell 5 (some 8)], (.seq (.reg [⟨(some 3), .box 67 (.t 1), none⟩, ⟨(some 4), .mv (.k .nils), none⟩, ⟨(some 5), .alloc 69 [(.int .i64 0), (.int .i64 0), (.int .i64 0), (.int .i64 0), (.int .u64 0), (.int .i64 0), (.int .i64 0), (.int .i64 0)], none⟩] none)
 (.seq (.reg [⟨(some 7), .mkf (.func 29) [(.t 3)] [], none⟩, ⟨(some 8), .mkf (.func 30) [(.t 3)] [], none⟩, ⟨(some 9), .mkf (.func 31) [(.t 3)] [], none⟩, ⟨(some 10), .bld [.nilfn, .nilfn, .nilfn] [(0, 1, (.t 7)), (1, 1, (.t 8)), (2, 1, (.t 9))], none⟩, ⟨(some 6), .alloc 70 [.nilfn, .nilfn, .nilfn], none⟩, ⟨none, .st 3 (.t 6) (.t 10), none⟩] none)
 (.seq (.seq (.reg [⟨(some 11), .fa 0 (.t 3), none⟩, ⟨(some 12), .ld none (.t 11), none⟩, ⟨(some 13), .bin .eql (.t 12) (.k (.int .i64 2)), none⟩] none)
 (.cond (.t 13) (.reg [⟨(some 14), .mkf (.func 32) [(.t 3)] [], none⟩, ⟨(some 15), .ixk 3 1 (.t 6) 1, none⟩, ⟨none, .st 1 (.t 15) (.t 14), none⟩] none) .skip))
 (.seq (.seq (.reg [⟨(some 16), .fa 7 (.t 3), none⟩, ⟨(some 17), .ld none (.t 16), none⟩, ⟨(some 18), .bin .neq (.t 17) (.k (.int .i64 0)), none⟩, ⟨(some 19), .mv (.t 18), none⟩, ⟨(some 20), .fa 0 (.t 3), (some (19, false))⟩, ⟨(some 21), .ld none (.t 20), (some (19, false))⟩, ⟨(some 22), .bin .neq (.t 21) (.k (.int .i64 1)), (some (19, false))⟩, ⟨(some 23), .mv (.t 22), (some (19, false))⟩, ⟨(some 24), .fa 0 (.t 3), (some (23, true))⟩, ⟨(some 25), .ld none (.t 24), (some (23, true))⟩, ⟨(some 26), .bin .neq (.t 25) (.k (.int .i64 2)), (some (23, true))⟩, ⟨(some 27), .pick (.t 23) (.t 26) (.k (.bool false)), (some (19, false))⟩, ⟨(some 28), .pick (.t 19) (.k (.bool true)) (.t 27), none⟩, ⟨(some 29), .mv (.t 28), none⟩, ⟨(some 30), .fa 1 (.t 3), (some (29, false))⟩, ⟨(some 31), .ld none (.t 30), (some (29, false))⟩, ⟨(some 32), .bin .lss (.t 31) (.k (.int .i64 0)), (some (29, false))⟩, ⟨(some 33), .pick (.t 29) (.k (.bool true)) (.t 32), none⟩, ⟨(some 34), .mv (.t 33), none⟩, ⟨(some 35), .fa 1 (.t 3), (some (34, false))⟩, ⟨(some 36), .ld none (.t 35), (some (34, false))⟩, ⟨(some 37), .bin .geq (.t 36) (.k (.int .i64 3)), (some (34, false))⟩, ⟨(some 38), .pick (.t 34) (.k (.bool true)) (.t 37), none⟩] none)
 (.cond (.t 38) (.seq (.reg [⟨(some 39), .mv (.t 0), none⟩, ⟨(some 40), .ld (some 8) (.t 3), none⟩, ⟨(some 4), .mv (.t 39), none⟩, ⟨none, .st 8 (.t 5) (.t 40), none⟩] (some []))
 .ret) .skip))
 (.seq (.reg [⟨(some 41), .fa 1 (.t 3), none⟩, ⟨(some 42), .ld none (.t 41), none⟩, ⟨(some 43), .ixa 3 1 (.t 6) (.t 42), none⟩, ⟨(some 44), .ld none (.t 43), none⟩, ⟨(some 45), .mv (.t 0), none⟩, ⟨(some 46), .call 110 (.t 44) [(.t 45)], none⟩, ⟨(some 0), .mv (.t 46), none⟩] none)
 (.seq (.reg [⟨(some 47), .fa 1 (.t 3), none⟩, ⟨(some 48), .ld none (.t 47), none⟩, ⟨(some 49), .bin .add (.t 48) (.k (.int .i64 1)), none⟩, ⟨(some 50), .fa 1 (.t 3), none⟩, ⟨none, .st 1 (.t 50) (.t 49), none⟩] none)
 (.seq (.reg [⟨(some 51), .mv (.t 0), none⟩, ⟨(some 52), .ld (some 8) (.t 3), none⟩, ⟨(some 4), .mv (.t 51), none⟩, ⟨none, .st 8 (.t 5) (.t 52), none⟩] (some []))
 .ret)))))))⟩
/-- besom/besomref08.Step -/
def m11 : MFn := ⟨2, 118, [.tmp 4, .cell 5 (some 8)], (.seq (.reg [⟨(some 3), .box 67 (.t 1), none⟩, ⟨(some 4), .mv (.k .nils), none⟩, ⟨(some 5), .alloc 69 [(.int .i64 0), (.int .i64 0), (.int .i64 0), (.int .i64 0), (.int .u64 0), (.int .i64 0), (.int .i64 0), (.int .i64 0)], none⟩] none)
 (.seq (.seq (.reg [⟨(some 11), .fa 7 (.t 3), none⟩, ⟨(some 12), .ld none (.t 11), none⟩, ⟨(some 13), .bin .neq (.t 12) (.k (.int .i64 0)), none⟩, ⟨(some 14), .mv (.t 13), none⟩, ⟨(some 15), .fa 1 (.t 3), (some (14, false))⟩, ⟨(some 16), .ld none (.t 15), (some (14, false))⟩, ⟨(some 17), .bin .lss (.t 16) (.k (.int .i64 0)), (some (14, false))⟩, ⟨(some 18), .pick (.t 14) (.k (.bool true)) (.t 17), none⟩, ⟨(some 19), .mv (.t 18), none⟩, ⟨(some 20), .fa 1 (.t 3), (some (19, false))⟩, ⟨(some 21), .ld none (.t 20), (some (19, false))⟩, ⟨(some 22), .bin .gtr (.t 21) (.k (.int .i64 2)), (some (19, false))⟩, ⟨(some 23), .pick (.t 19) (.k (.bool true)) (.t 22), none⟩, ⟨(some 24), .mv (.t 23), none⟩, ⟨(some 25), .fa 0 (.t 3), (some (24, false))⟩, ⟨(some 26), .ld none (.t 25), (some (24, false))⟩, ⟨(some 27), .bin .neq (.t 26) (.k (.int .i64 1)), (some (24, false))⟩, ⟨(some 28), .mv (.t 27), (some (24, false))⟩, ⟨(some 29), .fa 0 (.t 3), (some (28, true))⟩, ⟨(some 30), .ld none (.t 29), (some (28, true))⟩, ⟨(some 31), .bin .neq (.t 30) (.k (.int .i64 2)), (some (28, true))⟩, ⟨(some 32), .pick (.t 28) (.t 31) (.k (.bool false)), (some (24, false))⟩, ⟨(some 33), .pick (.t 24) (.k (.bool true)) (.t 32), none⟩] none)
 (.cond (.t 33) (.seq (.reg [⟨(some 34), .mv (.t 0), none⟩, ⟨(some 35), .ld (some 8) (.t 3), none⟩, ⟨(some 4), .mv (.t 34), none⟩, ⟨none, .st 8 (.t 5) (.t 35), none⟩] (some []))
 .ret) .skip))
 (.seq (.reg [⟨(some 36), .fa 0 (.t 3), none⟩, ⟨(some 37), .ld none (.t 36), none⟩, ⟨(some 38), .bin .eql (.t 37) (.k (.int .i64 1)), none⟩, ⟨(some 6), .mv (.t 38), none⟩] none)
 (.seq (.reg [⟨(some 39), .fa 1 (.t 3), none⟩, ⟨(some 40), .ld none (.t 39), none⟩, ⟨(some 41), .bin .add (.t 40) (.k (.int .i64 1)), none⟩, ⟨(some 7), .mv (.t 41), none⟩] none)
 (.seq (.block 0 (.seq (.reg [⟨(some 65), .fa 1 (.t 3), none⟩, ⟨(some 66), .ld none (.t 65), none⟩, ⟨(some 67), .bin .eql (.t 66) (.k (.int .i64 0)), none⟩, ⟨(some 64), .mv (.t 67), none⟩] none)
 (.cond (.t 64) (.seq (.reg [⟨(some 68), .mv (.t 0), none⟩, ⟨(some 69), .fa 2 (.t 3), none⟩, ⟨(some 70), .ld none (.t 69), none⟩, ⟨(some 71), .call 135 (.k (.fn (.func 33) [] [])) [(.t 68), (.t 70)], none⟩, ⟨(some 72), .fa 4 (.t 3), none⟩, ⟨none, .st 1 (.t 72) (.t 71), none⟩] none)
 (.seq (.reg [⟨(some 73), .mv (.t 6), none⟩, ⟨(some 74), .un .not (.t 73), none⟩, ⟨(some 75), .mv (.t 74), none⟩, ⟨(some 76), .fa 4 (.t 3), (some (75, true))⟩, ⟨(some 77), .ld none (.t 76), (some (75, true))⟩, ⟨(some 78), .call 142 (.k (.fn (.func 22) [] [])) [(.t 77)], (some (75, true))⟩, ⟨(some 79), .bin .eql (.t 78) (.k (.int .i64 0)), (some (75, true))⟩, ⟨(some 80), .pick (.t 75) (.t 79) (.k (.bool false)), none⟩] none)
 (.cond (.t 80) (.reg [⟨(some 81), .fa 7 (.t 3), none⟩, ⟨none, .st 1 (.t 81) (.k (.int .i64 2)), none⟩] none) .skip))) (.seq (.reg [⟨(some 83), .fa 1 (.t 3), none⟩, ⟨(some 84), .ld none (.t 83), none⟩, ⟨(some 85), .bin .eql (.t 84) (.k (.int .i64 1)), none⟩, ⟨(some 86), .mv (.t 85), none⟩, ⟨(some 87), .mv (.t 6), (some (86, true))⟩, ⟨(some 88), .pick (.t 86) (.t 87) (.k (.bool false)), none⟩, ⟨(some 82), .mv (.t 88), none⟩] none)
 (.cond (.t 82) (.reg [⟨(some 89), .mv (.t 0), none⟩, ⟨(some 90), .fa 3 (.t 3), none⟩, ⟨(some 91), .ld none (.t 90), none⟩, ⟨(some 92), .fa 5 (.t 3), none⟩, ⟨(some 93), .ld none (.t 92), none⟩, ⟨(some 94), .bin .add (.t 91) (.t 93), none⟩, ⟨(some 95), .fa 4 (.t 3), none⟩, ⟨(some 96), .ld none (.t 95), none⟩, ⟨(some 97), .call 161 (.k (.fn (.func 22) [] [])) [(.t 96)], none⟩, ⟨(some 98), .conv .u64 (.t 97), none⟩, ⟨(some 99), .call 163 (.k (.fn (.func 34) [] [])) [(.t 89), (.t 94), (.t 98)], none⟩, ⟨(some 0), .mv (.t 99), none⟩] (some [(2, 4), (2, 7), (4, 7), (2, 8), (4, 8)])) (.seq (.reg [⟨(some 101), .fa 1 (.t 3), none⟩, ⟨(some 102), .ld none (.t 101), none⟩, ⟨(some 103), .bin .eql (.t 102) (.k (.int .i64 1)), none⟩, ⟨(some 100), .mv (.t 103), none⟩] none)
 (.cond (.t 100) (.reg [⟨(some 104), .mv (.t 0), none⟩, ⟨(some 105), .fa 3 (.t 3), none⟩, ⟨(some 106), .ld none (.t 105), none⟩, ⟨(some 107), .fa 4 (.t 3), none⟩, ⟨(some 108), .ld none (.t 107), none⟩, ⟨(some 109), .call 173 (.k (.fn (.func 22) [] [])) [(.t 108)], none⟩, ⟨(some 110), .bin .add (.t 106) (.t 109), none⟩, ⟨(some 111), .call 175 (.k (.fn (.func 33) [] [])) [(.t 104), (.t 110)], none⟩, ⟨(some 112), .conv .i64 (.t 111), none⟩, ⟨(some 113), .fa 6 (.t 3), none⟩, ⟨none, .st 1 (.t 113) (.t 112), none⟩] (some [(2, 4), (2, 5)])) (.seq (.reg [⟨(some 42), .fa 6 (.t 3), none⟩, ⟨(some 43), .ld none (.t 42), none⟩, ⟨(some 8), .mv (.t 43), none⟩] none)
 (.seq (.seq (.reg [⟨(some 44), .mv (.t 6), none⟩] none)
 (.cond (.t 44) (.reg [⟨(some 45), .fa 5 (.t 3), none⟩, ⟨(some 46), .ld none (.t 45), none⟩, ⟨(some 8), .mv (.t 46), none⟩] none) .skip))
 (.seq (.reg [⟨(some 48), .mv (.t 0), none⟩, ⟨(some 49), .ld (some 8) (.t 3), none⟩, ⟨(some 50), .mv (.t 8), none⟩, ⟨(some 51), .call 115 (.k (.fn (.func 35) [] [])) [(.t 48), (.t 49), (.t 50)], none⟩, ⟨(some 47), .mv (.t 51), none⟩, ⟨(some 52), .ext (.t 47) 0, none⟩, ⟨(some 53), .ext (.t 47) 1, none⟩, ⟨(some 9), .mv (.t 52), none⟩, ⟨(some 10), .mv (.t 53), none⟩] none)
 (.seq (.reg [⟨(some 54), .mv (.t 9), none⟩, ⟨(some 0), .mv (.t 54), none⟩] none)
 (.seq (.seq (.reg [⟨(some 55), .mv (.t 10), none⟩, ⟨(some 56), .un .not (.t 55), none⟩] none)
 (.cond (.t 56) (.seq (.reg [⟨(some 7), .mv (.k (.int .i64 0)), none⟩] none)
 (.exit 0)) .skip))
 (.seq (.reg [⟨(some 57), .fa 7 (.t 3), none⟩, ⟨none, .st 1 (.t 57) (.k (.int .i64 1)), none⟩] none)
 (.seq (.reg [⟨(some 58), .mv (.t 6), none⟩, ⟨(some 59), .un .not (.t 58), none⟩] none)
 (.cond (.t 59) (.reg [⟨(some 60), .fa 4 (.t 3), none⟩, ⟨(some 61), .ld none (.t 60), none⟩, ⟨(some 62), .call 126 (.k (.fn (.func 22) [] [])) [(.t 61)], none⟩, ⟨(some 63), .fa 5 (.t 3), none⟩, ⟨none, .st 1 (.t 63) (.t 62), none⟩] none) .skip)))))))))))))))
 (.seq (.reg [⟨(some 114), .mv (.t 7), none⟩, ⟨(some 115), .fa 1 (.t 3), none⟩, ⟨none, .st 1 (.t 115) (.t 114), none⟩] none)
 (.seq (.reg [⟨(some 116), .mv (.t 0), none⟩, ⟨(some 117), .ld (some 8) (.t 3), none⟩, ⟨(some 4), .mv (.t 116), none⟩, ⟨none, .st 8 (.t 5) (.t 117), none⟩] (some []))
 .ret)))))))⟩
/-- besom/besomlaw08.refChain -/
def m12 : MFn := ⟨1, 20, [.cell 2 (some 8)], (.seq (.reg [⟨(some 1), .box 65 (.t 0), none⟩, ⟨(some 2), .alloc 66 [(.int .i64 0), (.int .i64 0), (.int .i64 0), (.int .i64 0), (.int .u64 0), (.int .i64 0), (.int .i64 0), (.int .i64 0)], none⟩] none)
 (.seq (.reg [⟨(some 3), .fa 0 (.t 1), none⟩, ⟨(some 4), .ld none (.t 3), none⟩, ⟨(some 5), .fa 1 (.t 1), none⟩, ⟨(some 6), .ld none (.t 5), none⟩, ⟨(some 7), .fa 2 (.t 1), none⟩, ⟨(some 8), .ld none (.t 7), none⟩, ⟨(some 9), .fa 3 (.t 1), none⟩, ⟨(some 10), .ld none (.t 9), none⟩, ⟨(some 11), .fa 4 (.t 1), none⟩, ⟨(some 12), .ld none (.t 11), none⟩, ⟨(some 13), .fa 5 (.t 1), none⟩, ⟨(some 14), .ld none (.t 13), none⟩, ⟨(some 15), .fa 6 (.t 1), none⟩, ⟨(some 16), .ld none (.t 15), none⟩, ⟨(some 17), .fa 7 (.t 1), none⟩, ⟨(some 18), .ld none (.t 17), none⟩, ⟨(some 19), .bld [(.int .i64 0), (.int .i64 0), (.int .i64 0), (.int .i64 0), (.int .u64 0), (.int .i64 0), (.int .i64 0), (.int .i64 0)] [(0, 1, (.t 4)), (1, 1, (.t 6)), (2, 1, (.t 8)), (3, 1, (.t 10)), (4, 1, (.t 12)), (5, 1, (.t 14)), (6, 1, (.t 16)), (7, 1, (.t 18))], none⟩, ⟨none, .st 8 (.t 2) (.t 19), none⟩] none)
 .ret))⟩
/-- besom/besomref05.Same -/
def m13 : MFn := ⟨2, 26, [.tmp 4], (.seq (.reg [⟨(some 4), .mv (.k (.bool false)), none⟩] none)
 (.seq (.seq (.reg [⟨(some 6), .mv (.t 0), none⟩, ⟨(some 7), .len (.t 6), none⟩, ⟨(some 8), .mv (.t 1), none⟩, ⟨(some 9), .len (.t 8), none⟩, ⟨(some 10), .bin .neq (.t 7) (.t 9), none⟩] none)
 (.cond (.t 10) (.seq (.reg [⟨(some 4), .mv (.k (.bool false)), none⟩] none)
 .ret) .skip))
 (.seq (.seq (.reg [⟨(some 5), .mv (.k (.int .i64 0)), none⟩] none)
 (.block 0 (.loop (.seq (.seq (.reg [⟨(some 11), .mv (.t 5), none⟩, ⟨(some 12), .mv (.t 0), none⟩, ⟨(some 13), .len (.t 12), none⟩, ⟨(some 14), .bin .lss (.t 11) (.t 13), none⟩] none)
 (.cond (.t 14) .skip (.exit 0)))
 (.seq (.block 1 (.seq (.reg [⟨(some 17), .mv (.t 0), none⟩, ⟨(some 18), .mv (.t 5), none⟩, ⟨(some 19), .ixs 1 (.t 17) (.t 18), none⟩, ⟨(some 20), .ld none (.t 19), none⟩, ⟨(some 21), .mv (.t 1), none⟩, ⟨(some 22), .mv (.t 5), none⟩, ⟨(some 23), .ixs 1 (.t 21) (.t 22), none⟩, ⟨(some 24), .ld none (.t 23), none⟩, ⟨(some 25), .bin .neq (.t 20) (.t 24), none⟩] (some [(2, 6), (3, 6), (2, 7), (3, 7)]))
 (.cond (.t 25) (.seq (.reg [⟨(some 4), .mv (.k (.bool false)), none⟩] none)
 .ret) .skip)))
 (.reg [⟨(some 15), .mv (.t 5), none⟩, ⟨(some 16), .bin .add (.t 15) (.k (.int .i64 1)), none⟩, ⟨(some 5), .mv (.t 16), none⟩] none))))))
 (.seq (.reg [⟨(some 4), .mv (.k (.bool true)), none⟩] none)
 .ret))))⟩
/-- besom/chain.Lay -/
def m14 : MFn := ⟨4, 49, [.tmp 8], (.seq (.reg [⟨(some 8), .mv (.k .nils), none⟩] none)
 (.seq (.seq (.reg [⟨(some 12), .mv (.t 3), none⟩, ⟨(some 13), .len (.t 12), none⟩, ⟨(some 14), .mv (.k (.int .i64 0)), none⟩] none)
 (.block 0 (.loop (.seq (.reg [⟨(some 15), .bin .lss (.t 14) (.t 13), none⟩] none)
 (.seq (.cond (.t 15) .skip (.exit 0))
 (.seq (.block 1 (.seq (.reg [⟨(some 16), .mv (.t 14), none⟩, ⟨(some 9), .mv (.t 16), none⟩] none)
 (.seq (.reg [⟨(some 10), .mv (.k (.int .i64 0)), none⟩] none)
 (.seq (.seq (.reg [⟨(some 17), .mv (.t 9), none⟩, ⟨(some 18), .bin .add (.t 17) (.k (.int .i64 1)), none⟩, ⟨(some 19), .mv (.t 3), none⟩, ⟨(some 20), .len (.t 19), none⟩, ⟨(some 21), .bin .lss (.t 18) (.t 20), none⟩] none)
 (.cond (.t 21) (.reg [⟨(some 22), .mv (.t 3), none⟩, ⟨(some 23), .mv (.t 9), none⟩, ⟨(some 24), .bin .add (.t 23) (.k (.int .i64 1)), none⟩, ⟨(some 25), .ixs 1 (.t 22) (.t 24), none⟩, ⟨(some 26), .ld none (.t 25), none⟩, ⟨(some 10), .mv (.t 26), none⟩] none) .skip))
 (.reg [⟨(some 27), .mv (.t 0), none⟩, ⟨(some 28), .mv (.t 2), none⟩, ⟨(some 29), .mv (.t 3), none⟩, ⟨(some 30), .mv (.t 9), none⟩, ⟨(some 31), .ixs 1 (.t 29) (.t 30), none⟩, ⟨(some 32), .ld none (.t 31), none⟩, ⟨(some 33), .bin .add (.t 28) (.t 32), none⟩, ⟨(some 34), .mv (.t 10), none⟩, ⟨(some 35), .conv .u64 (.t 34), none⟩, ⟨(some 36), .call 100 (.k (.fn (.func 36) [] [])) [(.t 27), (.t 33), (.t 35)], none⟩, ⟨(some 0), .mv (.t 36), none⟩] none)))))
 (.reg [⟨(some 37), .bin .add (.t 14) (.k (.int .i64 1)), none⟩, ⟨(some 14), .mv (.t 37), none⟩] none)))))))
 (.seq (.reg [⟨(some 11), .mv (.k (.int .i64 0)), none⟩] none)
 (.seq (.seq (.reg [⟨(some 38), .mv (.t 3), none⟩, ⟨(some 39), .len (.t 38), none⟩, ⟨(some 40), .bin .gtr (.t 39) (.k (.int .i64 0)), none⟩] none)
 (.cond (.t 40) (.reg [⟨(some 41), .mv (.t 3), none⟩, ⟨(some 42), .ixs 1 (.t 41) (.k (.int .i64 0)), none⟩, ⟨(some 43), .ld none (.t 42), none⟩, ⟨(some 11), .mv (.t 43), none⟩] none) .skip))
 (.seq (.reg [⟨(some 44), .mv (.t 0), none⟩, ⟨(some 45), .mv (.t 1), none⟩, ⟨(some 46), .mv (.t 11), none⟩, ⟨(some 47), .call 111 (.k (.fn (.func 19) [] [])) [(.k (.int .u64 0)), (.t 46)], none⟩, ⟨(some 48), .call 112 (.k (.fn (.func 36) [] [])) [(.t 44), (.t 45), (.t 47)], none⟩, ⟨(some 8), .mv (.t 48), none⟩] none)
 .ret)))))⟩
/-- besom/besomref08.Lay -/
def m15 : MFn := ⟨4, 49, [.tmp 8], (.seq (.reg [⟨(some 8), .mv (.k .nils), none⟩] none)
 (.seq (.seq (.reg [⟨(some 9), .mv (.k (.int .i64 0)), none⟩] none)
 (.block 0 (.loop (.seq (.seq (.reg [⟨(some 12), .mv (.t 9), none⟩, ⟨(some 13), .mv (.t 3), none⟩, ⟨(some 14), .len (.t 13), none⟩, ⟨(some 15), .bin .lss (.t 12) (.t 14), none⟩] none)
 (.cond (.t 15) .skip (.exit 0)))
 (.seq (.block 1 (.seq (.reg [⟨(some 10), .mv (.k (.int .i64 0)), none⟩] none)
 (.seq (.seq (.reg [⟨(some 18), .mv (.t 9), none⟩, ⟨(some 19), .bin .add (.t 18) (.k (.int .i64 1)), none⟩, ⟨(some 20), .mv (.t 3), none⟩, ⟨(some 21), .len (.t 20), none⟩, ⟨(some 22), .bin .lss (.t 19) (.t 21), none⟩] none)
 (.cond (.t 22) (.reg [⟨(some 23), .mv (.t 3), none⟩, ⟨(some 24), .mv (.t 9), none⟩, ⟨(some 25), .bin .add (.t 24) (.k (.int .i64 1)), none⟩, ⟨(some 26), .ixs 1 (.t 23) (.t 25), none⟩, ⟨(some 27), .ld none (.t 26), none⟩, ⟨(some 10), .mv (.t 27), none⟩] none) .skip))
 (.reg [⟨(some 28), .mv (.t 0), none⟩, ⟨(some 29), .mv (.t 2), none⟩, ⟨(some 30), .mv (.t 3), none⟩, ⟨(some 31), .mv (.t 9), none⟩, ⟨(some 32), .ixs 1 (.t 30) (.t 31), none⟩, ⟨(some 33), .ld none (.t 32), none⟩, ⟨(some 34), .bin .add (.t 29) (.t 33), none⟩, ⟨(some 35), .mv (.t 10), none⟩, ⟨(some 36), .conv .u64 (.t 35), none⟩, ⟨(some 37), .call 101 (.k (.fn (.func 34) [] [])) [(.t 28), (.t 34), (.t 36)], none⟩, ⟨(some 0), .mv (.t 37), none⟩] none))))
 (.reg [⟨(some 16), .mv (.t 9), none⟩, ⟨(some 17), .bin .add (.t 16) (.k (.int .i64 1)), none⟩, ⟨(some 9), .mv (.t 17), none⟩] none))))))
 (.seq (.reg [⟨(some 11), .mv (.k (.int .i64 0)), none⟩] none)
 (.seq (.seq (.reg [⟨(some 38), .mv (.t 3), none⟩, ⟨(some 39), .len (.t 38), none⟩, ⟨(some 40), .bin .gtr (.t 39) (.k (.int .i64 0)), none⟩] none)
 (.cond (.t 40) (.reg [⟨(some 41), .mv (.t 3), none⟩, ⟨(some 42), .ixs 1 (.t 41) (.k (.int .i64 0)), none⟩, ⟨(some 43), .ld none (.t 42), none⟩, ⟨(some 11), .mv (.t 43), none⟩] none) .skip))
 (.seq (.reg [⟨(some 44), .mv (.t 0), none⟩, ⟨(some 45), .mv (.t 1), none⟩, ⟨(some 46), .mv (.t 11), none⟩, ⟨(some 47), .call 111 (.k (.fn (.func 20) [] [])) [(.k (.int .u64 0)), (.t 46)], none⟩, ⟨(some 48), .call 112 (.k (.fn (.func 34) [] [])) [(.t 44), (.t 45), (.t 47)], none⟩, ⟨(some 8), .mv (.t 48), none⟩] none)
 .ret)))))⟩
/-- besom/besomlaw08.ints -/
def m16 : MFn := ⟨2, 26, [.tmp 4], (.seq (.reg [⟨(some 4), .mv (.k (.bool false)), none⟩] none)
 (.seq (.seq (.reg [⟨(some 6), .mv (.t 0), none⟩, ⟨(some 7), .len (.t 6), none⟩, ⟨(some 8), .mv (.t 1), none⟩, ⟨(some 9), .len (.t 8), none⟩, ⟨(some 10), .bin .neq (.t 7) (.t 9), none⟩] none)
 (.cond (.t 10) (.seq (.reg [⟨(some 4), .mv (.k (.bool false)), none⟩] none)
 .ret) .skip))
 (.seq (.seq (.reg [⟨(some 5), .mv (.k (.int .i64 0)), none⟩] none)
 (.block 0 (.loop (.seq (.seq (.reg [⟨(some 11), .mv (.t 5), none⟩, ⟨(some 12), .mv (.t 0), none⟩, ⟨(some 13), .len (.t 12), none⟩, ⟨(some 14), .bin .lss (.t 11) (.t 13), none⟩] none)
 (.cond (.t 14) .skip (.exit 0)))
 (.seq (.block 1 (.seq (.reg [⟨(some 17), .mv (.t 0), none⟩, ⟨(some 18), .mv (.t 5), none⟩, ⟨(some 19), .ixs 1 (.t 17) (.t 18), none⟩, ⟨(some 20), .ld none (.t 19), none⟩, ⟨(some 21), .mv (.t 1), none⟩, ⟨(some 22), .mv (.t 5), none⟩, ⟨(some 23), .ixs 1 (.t 21) (.t 22), none⟩, ⟨(some 24), .ld none (.t 23), none⟩, ⟨(some 25), .bin .neq (.t 20) (.t 24), none⟩] (some [(2, 6), (3, 6), (2, 7), (3, 7)]))
 (.cond (.t 25) (.seq (.reg [⟨(some 4), .mv (.k (.bool false)), none⟩] none)
 .ret) .skip)))
 (.reg [⟨(some 15), .mv (.t 5), none⟩, ⟨(some 16), .bin .add (.t 15) (.k (.int .i64 1)), none⟩, ⟨(some 5), .mv (.t 16), none⟩] none))))))
 (.seq (.reg [⟨(some 4), .mv (.k (.bool true)), none⟩] none)
 .ret))))⟩
/-- besom/chain.List -/
def m17 : MFn := ⟨4, 35, [.tmp 8], (.seq (.reg [⟨(some 8), .mv (.k .nils), none⟩] none)
 (.seq (.reg [⟨(some 9), .mv (.k .nils), none⟩] none)
 (.seq (.seq (.reg [⟨(some 11), .mv (.t 0), none⟩, ⟨(some 12), .mv (.t 1), none⟩, ⟨(some 13), .call 77 (.k (.fn (.func 37) [] [])) [(.t 11), (.t 12)], none⟩, ⟨(some 14), .call 78 (.k (.fn (.func 21) [] [])) [(.t 13)], none⟩, ⟨(some 10), .mv (.t 14), none⟩] none)
 (.block 0 (.loop (.seq (.seq (.reg [⟨(some 15), .mv (.t 10), none⟩, ⟨(some 16), .bin .neq (.t 15) (.k (.int .i64 0)), none⟩, ⟨(some 17), .mv (.t 16), none⟩, ⟨(some 18), .mv (.t 9), (some (17, true))⟩, ⟨(some 19), .len (.t 18), (some (17, true))⟩, ⟨(some 20), .mv (.t 3), (some (17, true))⟩, ⟨(some 21), .mn (.t 20) (.k (.int .i64 1000)), (some (17, true))⟩, ⟨(some 22), .bin .lss (.t 19) (.t 21), (some (17, true))⟩, ⟨(some 23), .pick (.t 17) (.t 22) (.k (.bool false)), none⟩] none)
 (.cond (.t 23) .skip (.exit 0)))
 (.seq (.block 1 (.reg [⟨(some 30), .mv (.t 9), none⟩, ⟨(some 31), .mv (.t 10), none⟩, ⟨(some 32), .bslt 1 [(.t 31)], none⟩, ⟨(some 33), .app 97 1 8 (.t 30) (.t 32), none⟩, ⟨(some 9), .mv (.t 33), none⟩] none))
 (.reg [⟨(some 24), .mv (.t 0), none⟩, ⟨(some 25), .mv (.t 2), none⟩, ⟨(some 26), .mv (.t 10), none⟩, ⟨(some 27), .bin .add (.t 25) (.t 26), none⟩, ⟨(some 28), .call 92 (.k (.fn (.func 37) [] [])) [(.t 24), (.t 27)], none⟩, ⟨(some 29), .conv .i64 (.t 28), none⟩, ⟨(some 10), .mv (.t 29), none⟩] none))))))
 (.seq (.reg [⟨(some 34), .mv (.t 9), none⟩, ⟨(some 8), .mv (.t 34), none⟩] none)
 .ret))))⟩
/-- besom/besomref08.List -/
def m18 : MFn := ⟨4, 39, [.tmp 8], (.seq (.reg [⟨(some 8), .mv (.k .nils), none⟩] none)
 (.seq (.reg [⟨(some 9), .mv (.k .nils), none⟩] none)
 (.seq (.reg [⟨(some 11), .mv (.t 0), none⟩, ⟨(some 12), .mv (.t 1), none⟩, ⟨(some 13), .call 77 (.k (.fn (.func 33) [] [])) [(.t 11), (.t 12)], none⟩, ⟨(some 14), .call 78 (.k (.fn (.func 22) [] [])) [(.t 13)], none⟩, ⟨(some 10), .mv (.t 14), none⟩] none)
 (.seq (.block 0 (.loop (.seq (.seq (.reg [⟨(some 15), .mv (.t 10), none⟩, ⟨(some 16), .bin .neq (.t 15) (.k (.int .i64 0)), none⟩, ⟨(some 17), .mv (.t 16), none⟩, ⟨(some 18), .mv (.t 9), (some (17, true))⟩, ⟨(some 19), .len (.t 18), (some (17, true))⟩, ⟨(some 20), .mv (.t 3), (some (17, true))⟩, ⟨(some 21), .bin .lss (.t 19) (.t 20), (some (17, true))⟩, ⟨(some 22), .pick (.t 17) (.t 21) (.k (.bool false)), none⟩, ⟨(some 23), .mv (.t 22), none⟩, ⟨(some 24), .mv (.t 9), (some (23, true))⟩, ⟨(some 25), .len (.t 24), (some (23, true))⟩, ⟨(some 26), .bin .lss (.t 25) (.k (.int .i64 1000)), (some (23, true))⟩, ⟨(some 27), .pick (.t 23) (.t 26) (.k (.bool false)), none⟩] none)
 (.cond (.t 27) .skip (.exit 0)))
 (.block 1 (.seq (.reg [⟨(some 28), .mv (.t 9), none⟩, ⟨(some 29), .mv (.t 10), none⟩, ⟨(some 30), .bslt 1 [(.t 29)], none⟩, ⟨(some 31), .app 95 1 8 (.t 28) (.t 30), none⟩, ⟨(some 9), .mv (.t 31), none⟩] none)
 (.reg [⟨(some 32), .mv (.t 0), none⟩, ⟨(some 33), .mv (.t 2), none⟩, ⟨(some 34), .mv (.t 10), none⟩, ⟨(some 35), .bin .add (.t 33) (.t 34), none⟩, ⟨(some 36), .call 100 (.k (.fn (.func 33) [] [])) [(.t 32), (.t 35)], none⟩, ⟨(some 37), .conv .i64 (.t 36), none⟩, ⟨(some 10), .mv (.t 37), none⟩] none))))))
 (.seq (.reg [⟨(some 38), .mv (.t 9), none⟩, ⟨(some 8), .mv (.t 38), none⟩] none)
 .ret)))))⟩
/-- besom/chain.Pack -/
def m19 : MFn := ⟨2, 11, [.tmp 4], (.seq (.reg [⟨(some 4), .mv (.k (.int .u64 0)), none⟩] none)
 (.seq (.reg [⟨(some 5), .mv (.t 0), none⟩, ⟨(some 6), .bin .shl (.t 5) (.k (.int .u64 32)), none⟩, ⟨(some 7), .mv (.t 1), none⟩, ⟨(some 8), .conv .u64 (.t 7), none⟩, ⟨(some 9), .bin .and (.t 8) (.k (.int .u64 4294967295)), none⟩, ⟨(some 10), .bin .or (.t 6) (.t 9), none⟩, ⟨(some 4), .mv (.t 10), none⟩] none)
 .ret))⟩
/-- besom/besomref08.Pack -/
def m20 : MFn := ⟨2, 12, [.tmp 4], (.seq (.reg [⟨(some 4), .mv (.k (.int .u64 0)), none⟩] none)
 (.seq (.reg [⟨(some 5), .mv (.t 0), none⟩, ⟨(some 6), .bin .rem (.t 5) (.k (.int .u64 4294967296)), none⟩, ⟨(some 7), .bin .shl (.t 6) (.k (.int .u64 32)), none⟩, ⟨(some 8), .mv (.t 1), none⟩, ⟨(some 9), .conv .u64 (.t 8), none⟩, ⟨(some 10), .bin .rem (.t 9) (.k (.int .u64 4294967296)), none⟩, ⟨(some 11), .bin .add (.t 7) (.t 10), none⟩, ⟨(some 4), .mv (.t 11), none⟩] none)
 .ret))⟩
/-- besom/chain.Node -/
def m21 : MFn := ⟨1, 6, [.tmp 2], (.seq (.reg [⟨(some 2), .mv (.k (.int .i64 0)), none⟩] none)
 (.seq (.reg [⟨(some 3), .mv (.t 0), none⟩, ⟨(some 4), .bin .and (.t 3) (.k (.int .u64 4294967295)), none⟩, ⟨(some 5), .conv .i64 (.t 4), none⟩, ⟨(some 2), .mv (.t 5), none⟩] none)
 .ret))⟩
/-- besom/besomref08.Node -/
def m22 : MFn := ⟨1, 6, [.tmp 2], (.seq (.reg [⟨(some 2), .mv (.k (.int .i64 0)), none⟩] none)
 (.seq (.reg [⟨(some 3), .mv (.t 0), none⟩, ⟨(some 4), .bin .rem (.t 3) (.k (.int .u64 4294967296)), none⟩, ⟨(some 5), .conv .i64 (.t 4), none⟩, ⟨(some 2), .mv (.t 5), none⟩] none)
 .ret))⟩
/-- besom/chain.Start -/
def m23 : MFn := ⟨4, 14, [.cell 8 (some 8)], (.seq (.reg [⟨(some 8), .alloc 72 [(.int .i64 0), (.int .i64 0), (.int .i64 0), (.int .i64 0), (.int .u64 0), (.int .i64 0), (.int .i64 0), (.int .i64 0)], none⟩] none)
 (.seq (.reg [⟨(some 9), .mv (.t 0), none⟩, ⟨(some 10), .mv (.t 1), none⟩, ⟨(some 11), .mv (.t 2), none⟩, ⟨(some 12), .mv (.t 3), none⟩, ⟨(some 13), .bld [(.int .i64 0), (.int .i64 0), (.int .i64 0), (.int .i64 0), (.int .u64 0), (.int .i64 0), (.int .i64 0), (.int .i64 0)] [(0, 1, (.t 9)), (2, 1, (.t 10)), (3, 1, (.t 11)), (5, 1, (.t 12))], none⟩, ⟨none, .st 8 (.t 8) (.t 13), none⟩] none)
 .ret))⟩
/-- besom/besomref08.Start -/
def m24 : MFn := ⟨4, 14, [.cell 8 (some 8)], (.seq (.reg [⟨(some 8), .alloc 72 [(.int .i64 0), (.int .i64 0), (.int .i64 0), (.int .i64 0), (.int .u64 0), (.int .i64 0), (.int .i64 0), (.int .i64 0)], none⟩] none)
 (.seq (.reg [⟨(some 9), .mv (.t 0), none⟩, ⟨(some 10), .mv (.t 1), none⟩, ⟨(some 11), .mv (.t 2), none⟩, ⟨(some 12), .mv (.t 3), none⟩, ⟨(some 13), .bld [(.int .i64 0), (.int .i64 0), (.int .i64 0), (.int .i64 0), (.int .u64 0), (.int .i64 0), (.int .i64 0), (.int .i64 0)] [(0, 1, (.t 9)), (2, 1, (.t 10)), (3, 1, (.t 11)), (5, 1, (.t 12))], none⟩, ⟨none, .st 8 (.t 8) (.t 13), none⟩] none)
 .ret))⟩
/-- besom/besomlaw08.start -/
def m25 : MFn := ⟨0, 30, [.cell 0 (some 4)], (.seq (.reg [⟨(some 0), .alloc 64 [.nils, .nils, .nils, (.int .i64 0)], none⟩] none)
 (.seq (.reg [⟨(some 3), .mks 67 1 8 (.int .u64 0) (.k (.int .i64 10)), none⟩, ⟨(some 4), .bld [.nils, .nils, .nils, (.int .i64 0)] [(0, 1, (.t 3))], none⟩, ⟨(some 1), .alloc 65 [.nils, .nils, .nils, (.int .i64 0)], none⟩, ⟨none, .st 4 (.t 1) (.t 4), none⟩] none)
 (.seq (.reg [⟨(some 5), .fa 0 (.t 1), none⟩, ⟨(some 6), .ld none (.t 5), none⟩, ⟨(some 7), .bslt 1 [(.k (.int .i64 1)), (.k (.int .i64 2)), (.k (.int .i64 3)), (.k (.int .i64 4)), (.k (.int .i64 5)), (.k (.int .i64 6)), (.k (.int .i64 7)), (.k (.int .i64 8))], none⟩, ⟨(some 8), .call 72 (.k (.fn (.func 14) [] [])) [(.t 6), (.k (.int .i64 0)), (.k (.int .i64 1)), (.t 7)], none⟩, ⟨(some 9), .fa 0 (.t 1), none⟩, ⟨none, .st 1 (.t 9) (.t 8), none⟩] none)
 (.seq (.reg [⟨(some 10), .fa 0 (.t 1), none⟩, ⟨(some 11), .ld none (.t 10), none⟩, ⟨(some 12), .call 76 (.k (.fn (.func 14) [] [])) [(.t 11), (.k (.int .i64 1)), (.k (.int .i64 1)), (.k .nils)], none⟩, ⟨(some 13), .fa 0 (.t 1), none⟩, ⟨none, .st 1 (.t 13) (.t 12), none⟩] none)
 (.seq (.seq (.reg [⟨(some 2), .mv (.k (.int .i64 0)), none⟩] none)
 (.block 0 (.loop (.seq (.seq (.reg [⟨(some 14), .mv (.t 2), none⟩, ⟨(some 15), .bin .lss (.t 14) (.k (.int .i64 5)), none⟩] none)
 (.cond (.t 15) .skip (.exit 0)))
 (.seq (.block 1 (.seq (.reg [⟨(some 18), .fa 1 (.t 1), none⟩, ⟨(some 19), .ld none (.t 18), none⟩, ⟨(some 20), .bld [(.int .i64 0), (.int .i64 0), (.int .i64 0), (.int .i64 0), (.int .u64 0), (.int .i64 0), (.int .i64 0), (.int .i64 0)] [(7, 1, (.k (.int .i64 1)))], none⟩, ⟨(some 21), .bslt 8 [(.t 20)], none⟩, ⟨(some 22), .app 86 8 64 (.t 19) (.t 21), none⟩, ⟨(some 23), .fa 1 (.t 1), none⟩, ⟨none, .st 1 (.t 23) (.t 22), none⟩] none)
 (.reg [⟨(some 24), .fa 2 (.t 1), none⟩, ⟨(some 25), .ld none (.t 24), none⟩, ⟨(some 26), .bslt 1 [(.k (.int .i64 0))], none⟩, ⟨(some 27), .app 91 1 8 (.t 25) (.t 26), none⟩, ⟨(some 28), .fa 2 (.t 1), none⟩, ⟨none, .st 1 (.t 28) (.t 27), none⟩] none)))
 (.reg [⟨(some 16), .mv (.t 2), none⟩, ⟨(some 17), .bin .add (.t 16) (.k (.int .i64 1)), none⟩, ⟨(some 2), .mv (.t 17), none⟩] none))))))
 (.seq (.reg [⟨(some 29), .ld (some 4) (.t 1), none⟩, ⟨none, .st 4 (.t 0) (.t 29), none⟩] none)
 .ret))))))⟩
/-- (*besom/besomlaw08.World).step -/
def m26 : MFn := ⟨2, 114, [], (.seq (.reg [⟨(some 6), .mv (.t 1), none⟩, ⟨(some 7), .bin .rem (.t 6) (.k (.int .u8 5)), none⟩, ⟨(some 8), .conv .i64 (.t 7), none⟩, ⟨(some 4), .mv (.t 8), none⟩] none)
 (.seq (.seq (.reg [⟨(some 9), .mv (.t 0), none⟩, ⟨(some 10), .nilc (.t 9), none⟩, ⟨(some 11), .fa 1 (.t 10), none⟩, ⟨(some 12), .ld none (.t 11), none⟩, ⟨(some 13), .mv (.t 4), none⟩, ⟨(some 14), .ixs 8 (.t 12) (.t 13), none⟩, ⟨(some 15), .fa 7 (.t 14), none⟩, ⟨(some 16), .ld none (.t 15), none⟩, ⟨(some 17), .bin .neq (.t 16) (.k (.int .i64 0)), none⟩] none)
 (.cond (.t 17) (.seq (.reg [⟨(some 5), .mv (.k (.int .i64 2)), none⟩] none)
 (.seq (.seq (.reg [⟨(some 18), .mv (.t 0), none⟩, ⟨(some 19), .nilc (.t 18), none⟩, ⟨(some 20), .fa 2 (.t 19), none⟩, ⟨(some 21), .ld none (.t 20), none⟩, ⟨(some 22), .mv (.t 4), none⟩, ⟨(some 23), .ixs 1 (.t 21) (.t 22), none⟩, ⟨(some 24), .ld none (.t 23), none⟩, ⟨(some 25), .bin .gtr (.t 24) (.k (.int .i64 0)), none⟩] none)
 (.cond (.t 25) (.reg [⟨(some 5), .mv (.k (.int .i64 1)), none⟩] none) .skip))
 (.reg [⟨(some 26), .mv (.t 0), none⟩, ⟨(some 27), .nilc (.t 26), none⟩, ⟨(some 28), .fa 1 (.t 27), none⟩, ⟨(some 29), .ld none (.t 28), none⟩, ⟨(some 30), .mv (.t 4), none⟩, ⟨(some 31), .mv (.t 5), none⟩, ⟨(some 32), .mv (.t 1), none⟩, ⟨(some 33), .bin .quo (.t 32) (.k (.int .u8 5)), none⟩, ⟨(some 34), .bin .rem (.t 33) (.k (.int .u8 2)), none⟩, ⟨(some 35), .conv .i64 (.t 34), none⟩, ⟨(some 36), .mv (.t 0), none⟩, ⟨(some 37), .nilc (.t 36), none⟩, ⟨(some 38), .fa 2 (.t 37), none⟩, ⟨(some 39), .ld none (.t 38), none⟩, ⟨(some 40), .mv (.t 4), none⟩, ⟨(some 41), .ixs 1 (.t 39) (.t 40), none⟩, ⟨(some 42), .ld none (.t 41), none⟩, ⟨(some 43), .call 107 (.k (.fn (.func 23) [] [])) [(.t 31), (.t 35), (.k (.int .i64 1)), (.t 42)], none⟩, ⟨(some 44), .ixs 8 (.t 29) (.t 30), none⟩, ⟨none, .st 8 (.t 44) (.t 43), none⟩] (some [(3, 13), (3, 15), (3, 16), (3, 17)])))) .skip))
 (.seq (.reg [⟨(some 46), .mv (.t 0), none⟩, ⟨(some 47), .mv (.t 0), none⟩, ⟨(some 48), .nilc (.t 47), none⟩, ⟨(some 49), .fa 1 (.t 48), none⟩, ⟨(some 50), .ld none (.t 49), none⟩, ⟨(some 51), .mv (.t 4), none⟩, ⟨(some 52), .mv (.t 0), none⟩, ⟨(some 53), .nilc (.t 52), none⟩, ⟨(some 54), .fa 0 (.t 53), none⟩, ⟨(some 55), .ld none (.t 54), none⟩, ⟨(some 56), .mv (.t 0), none⟩, ⟨(some 57), .nilc (.t 56), none⟩, ⟨(some 58), .fa 1 (.t 57), none⟩, ⟨(some 59), .ld none (.t 58), none⟩, ⟨(some 60), .mv (.t 4), none⟩, ⟨(some 61), .ixs 8 (.t 59) (.t 60), none⟩, ⟨(some 62), .ld (some 8) (.t 61), none⟩, ⟨(some 63), .call 127 (.k (.fn (.func 10) [] [])) [(.t 55), (.t 62)], none⟩, ⟨(some 45), .mv (.t 63), none⟩, ⟨(some 64), .ext (.t 45) 0, none⟩, ⟨(some 65), .ext (.t 45) 1, none⟩, ⟨(some 66), .nilc (.t 46), none⟩, ⟨(some 67), .fa 0 (.t 66), none⟩, ⟨none, .st 1 (.t 67) (.t 64), none⟩, ⟨(some 68), .ixs 8 (.t 50) (.t 51), none⟩, ⟨none, .st 8 (.t 68) (.t 65), none⟩] (some [(4, 9), (4, 13), (9, 13), (4, 15), (9, 15), (4, 16), (9, 16), (4, 17)]))
 (.seq (.reg [⟨(some 69), .mv (.t 0), none⟩, ⟨(some 70), .nilc (.t 69), none⟩, ⟨(some 71), .fa 1 (.t 70), none⟩, ⟨(some 72), .ld none (.t 71), none⟩, ⟨(some 73), .mv (.t 4), none⟩, ⟨(some 74), .ixs 8 (.t 72) (.t 73), none⟩, ⟨(some 75), .fa 7 (.t 74), none⟩, ⟨(some 76), .ld none (.t 75), none⟩, ⟨(some 77), .bin .eql (.t 76) (.k (.int .i64 1)), none⟩] none)
 (.cond (.t 77) (.seq (.reg [⟨(some 78), .mv (.t 0), none⟩, ⟨(some 79), .nilc (.t 78), none⟩, ⟨(some 80), .fa 3 (.t 79), none⟩, ⟨(some 81), .ld none (.t 80), none⟩, ⟨(some 82), .bin .add (.t 81) (.k (.int .i64 1)), none⟩, ⟨(some 83), .nilc (.t 78), none⟩, ⟨(some 84), .fa 3 (.t 83), none⟩, ⟨none, .st 1 (.t 84) (.t 82), none⟩] none)
 (.seq (.reg [⟨(some 85), .mv (.t 0), none⟩, ⟨(some 86), .nilc (.t 85), none⟩, ⟨(some 87), .fa 2 (.t 86), none⟩, ⟨(some 88), .ld none (.t 87), none⟩, ⟨(some 89), .mv (.t 4), none⟩, ⟨(some 90), .mv (.t 0), none⟩, ⟨(some 91), .nilc (.t 90), none⟩, ⟨(some 92), .fa 1 (.t 91), none⟩, ⟨(some 93), .ld none (.t 92), none⟩, ⟨(some 94), .mv (.t 4), none⟩, ⟨(some 95), .ixs 8 (.t 93) (.t 94), none⟩, ⟨(some 96), .fa 5 (.t 95), none⟩, ⟨(some 97), .ld none (.t 96), none⟩, ⟨(some 98), .ixs 1 (.t 88) (.t 89), none⟩, ⟨none, .st 1 (.t 98) (.t 97), none⟩] (some [(3, 8), (3, 10), (3, 12)]))
 (.seq (.reg [⟨(some 99), .mv (.t 0), none⟩, ⟨(some 100), .nilc (.t 99), none⟩, ⟨(some 101), .fa 1 (.t 100), none⟩, ⟨(some 102), .ld none (.t 101), none⟩, ⟨(some 103), .mv (.t 4), none⟩, ⟨(some 104), .ixs 8 (.t 102) (.t 103), none⟩, ⟨(some 105), .fa 0 (.t 104), none⟩, ⟨(some 106), .ld none (.t 105), none⟩, ⟨(some 107), .bin .eql (.t 106) (.k (.int .i64 1)), none⟩] none)
 (.cond (.t 107) (.reg [⟨(some 108), .mv (.t 0), none⟩, ⟨(some 109), .nilc (.t 108), none⟩, ⟨(some 110), .fa 2 (.t 109), none⟩, ⟨(some 111), .ld none (.t 110), none⟩, ⟨(some 112), .mv (.t 4), none⟩, ⟨(some 113), .ixs 1 (.t 111) (.t 112), none⟩, ⟨none, .st 1 (.t 113) (.k (.int .i64 0)), none⟩] none) .skip)))) .skip)))))⟩
/-- besom/besomlaw08.run -/
def m27 : MFn := ⟨3, 29, [.tmp 6, .cell 7 (some 8), .tmp 8], (.seq (.reg [⟨(some 4), .box 68 (.t 1), none⟩, ⟨(some 6), .mv (.k .nils), none⟩, ⟨(some 7), .alloc 71 [(.int .i64 0), (.int .i64 0), (.int .i64 0), (.int .i64 0), (.int .u64 0), (.int .i64 0), (.int .i64 0), (.int .i64 0)], none⟩, ⟨(some 8), .mv (.k (.int .i64 0)), none⟩] none)
 (.seq (.reg [⟨(some 9), .mv (.k (.int .i64 0)), none⟩] none)
 (.seq (.block 0 (.loop (.seq (.seq (.reg [⟨(some 10), .mv (.t 9), none⟩, ⟨(some 11), .mv (.t 2), none⟩, ⟨(some 12), .bin .lss (.t 10) (.t 11), none⟩, ⟨(some 13), .mv (.t 12), none⟩, ⟨(some 14), .fa 7 (.t 4), (some (13, true))⟩, ⟨(some 15), .ld none (.t 14), (some (13, true))⟩, ⟨(some 16), .bin .eql (.t 15) (.k (.int .i64 0)), (some (13, true))⟩, ⟨(some 17), .pick (.t 13) (.t 16) (.k (.bool false)), none⟩] none)
 (.cond (.t 17) .skip (.exit 0)))
 (.block 1 (.seq (.reg [⟨(some 19), .mv (.t 0), none⟩, ⟨(some 20), .ld (some 8) (.t 4), none⟩, ⟨(some 21), .call 85 (.k (.fn (.func 10) [] [])) [(.t 19), (.t 20)], none⟩, ⟨(some 18), .mv (.t 21), none⟩, ⟨(some 22), .ext (.t 18) 0, none⟩, ⟨(some 23), .ext (.t 18) 1, none⟩, ⟨(some 0), .mv (.t 22), none⟩, ⟨none, .st 8 (.t 4) (.t 23), none⟩] none)
 (.reg [⟨(some 24), .mv (.t 9), none⟩, ⟨(some 25), .bin .add (.t 24) (.k (.int .i64 1)), none⟩, ⟨(some 9), .mv (.t 25), none⟩] none))))))
 (.seq (.reg [⟨(some 26), .mv (.t 0), none⟩, ⟨(some 27), .ld (some 8) (.t 4), none⟩, ⟨(some 28), .mv (.t 9), none⟩, ⟨(some 6), .mv (.t 26), none⟩, ⟨none, .st 8 (.t 7) (.t 27), none⟩, ⟨(some 8), .mv (.t 28), none⟩] (some []))
 .ret))))⟩
/-- besom/mem.Same -/
def m28 : MFn := ⟨2, 8, [.tmp 4], (.seq (.reg [⟨(some 4), .mv (.k (.bool false)), none⟩] none)
 (.seq (.reg [⟨(some 5), .mv (.t 0), none⟩, ⟨(some 6), .mv (.t 1), none⟩, ⟨(some 7), .call 71 (.k (.fn (.func 38) [] [])) [(.t 5), (.t 6)], none⟩, ⟨(some 4), .mv (.t 7), none⟩] none)
 .ret))⟩
/-- (*besom/chain.Machine).see -/
def m29 : MFn := ⟨2, 31, [.tmp 4], (.seq (.reg [⟨(some 4), .mv (.k .nils), none⟩] none)
 (.seq (.reg [⟨(some 5), .mv (.t 0), none⟩, ⟨(some 6), .mv (.t 1), none⟩, ⟨(some 7), .mv (.t 0), none⟩, ⟨(some 8), .nilc (.t 7), none⟩, ⟨(some 9), .fa 2 (.t 8), none⟩, ⟨(some 10), .ld none (.t 9), none⟩, ⟨(some 11), .call 75 (.k (.fn (.func 37) [] [])) [(.t 6), (.t 10)], none⟩, ⟨(some 12), .nilc (.t 5), none⟩, ⟨(some 13), .fa 4 (.t 12), none⟩, ⟨none, .st 1 (.t 13) (.t 11), none⟩] none)
 (.seq (.seq (.reg [⟨(some 14), .mv (.t 0), none⟩, ⟨(some 15), .nilc (.t 14), none⟩, ⟨(some 16), .fa 0 (.t 15), none⟩, ⟨(some 17), .ld none (.t 16), none⟩, ⟨(some 18), .bin .eql (.t 17) (.k (.int .i64 2)), none⟩, ⟨(some 19), .mv (.t 18), none⟩, ⟨(some 20), .mv (.t 0), (some (19, true))⟩, ⟨(some 21), .nilc (.t 20), (some (19, true))⟩, ⟨(some 22), .fa 4 (.t 21), (some (19, true))⟩, ⟨(some 23), .ld none (.t 22), (some (19, true))⟩, ⟨(some 24), .call 88 (.k (.fn (.func 21) [] [])) [(.t 23)], (some (19, true))⟩, ⟨(some 25), .bin .eql (.t 24) (.k (.int .i64 0)), (some (19, true))⟩, ⟨(some 26), .pick (.t 19) (.t 25) (.k (.bool false)), none⟩] none)
 (.cond (.t 26) (.reg [⟨(some 27), .mv (.t 0), none⟩, ⟨(some 28), .nilc (.t 27), none⟩, ⟨(some 29), .fa 7 (.t 28), none⟩, ⟨none, .st 1 (.t 29) (.k (.int .i64 2)), none⟩] none) .skip))
 (.seq (.reg [⟨(some 30), .mv (.t 1), none⟩, ⟨(some 4), .mv (.t 30), none⟩] none)
 .ret))))⟩
/-- (*besom/chain.Machine).link -/
def m30 : MFn := ⟨2, 22, [.tmp 4], (.seq (.reg [⟨(some 4), .mv (.k .nils), none⟩] none)
 (.seq (.reg [⟨(some 5), .mv (.t 1), none⟩, ⟨(some 6), .mv (.t 0), none⟩, ⟨(some 7), .nilc (.t 6), none⟩, ⟨(some 8), .fa 3 (.t 7), none⟩, ⟨(some 9), .ld none (.t 8), none⟩, ⟨(some 10), .mv (.t 0), none⟩, ⟨(some 11), .nilc (.t 10), none⟩, ⟨(some 12), .fa 5 (.t 11), none⟩, ⟨(some 13), .ld none (.t 12), none⟩, ⟨(some 14), .bin .add (.t 9) (.t 13), none⟩, ⟨(some 15), .mv (.t 0), none⟩, ⟨(some 16), .nilc (.t 15), none⟩, ⟨(some 17), .fa 4 (.t 16), none⟩, ⟨(some 18), .ld none (.t 17), none⟩, ⟨(some 19), .call 83 (.k (.fn (.func 21) [] [])) [(.t 18)], none⟩, ⟨(some 20), .conv .u64 (.t 19), none⟩, ⟨(some 21), .call 85 (.k (.fn (.func 36) [] [])) [(.t 5), (.t 14), (.t 20)], none⟩, ⟨(some 4), .mv (.t 21), none⟩] (some [(4, 8), (4, 13), (8, 13), (4, 14), (8, 14)]))
 .ret))⟩
/-- (*besom/chain.Machine).swap -/
def m31 : MFn := ⟨2, 69, [.tmp 4], (.seq (.reg [⟨(some 4), .mv (.k .nils), none⟩] none)
 (.seq (.reg [⟨(some 8), .mv (.t 0), none⟩, ⟨(some 9), .nilc (.t 8), none⟩, ⟨(some 10), .fa 5 (.t 9), none⟩, ⟨(some 11), .ld none (.t 10), none⟩, ⟨(some 5), .mv (.t 11), none⟩] none)
 (.seq (.seq (.reg [⟨(some 12), .mv (.t 0), none⟩, ⟨(some 13), .nilc (.t 12), none⟩, ⟨(some 14), .fa 0 (.t 13), none⟩, ⟨(some 15), .ld none (.t 14), none⟩, ⟨(some 16), .bin .eql (.t 15) (.k (.int .i64 2)), none⟩] none)
 (.cond (.t 16) (.reg [⟨(some 17), .mv (.t 0), none⟩, ⟨(some 18), .nilc (.t 17), none⟩, ⟨(some 19), .fa 6 (.t 18), none⟩, ⟨(some 20), .ld none (.t 19), none⟩, ⟨(some 5), .mv (.t 20), none⟩] none) .skip))
 (.seq (.reg [⟨(some 22), .mv (.t 1), none⟩, ⟨(some 23), .mv (.t 0), none⟩, ⟨(some 24), .nilc (.t 23), none⟩, ⟨(some 25), .fa 2 (.t 24), none⟩, ⟨(some 26), .ld none (.t 25), none⟩, ⟨(some 27), .mv (.t 0), none⟩, ⟨(some 28), .nilc (.t 27), none⟩, ⟨(some 29), .fa 4 (.t 28), none⟩, ⟨(some 30), .ld none (.t 29), none⟩, ⟨(some 31), .mv (.t 0), none⟩, ⟨(some 32), .nilc (.t 31), none⟩, ⟨(some 33), .fa 4 (.t 32), none⟩, ⟨(some 34), .ld none (.t 33), none⟩, ⟨(some 35), .bin .shr (.t 34) (.k (.int .u64 32)), none⟩, ⟨(some 36), .bin .add (.t 35) (.k (.int .u64 1)), none⟩, ⟨(some 37), .mv (.t 5), none⟩, ⟨(some 38), .call 102 (.k (.fn (.func 19) [] [])) [(.t 36), (.t 37)], none⟩, ⟨(some 39), .bld [(.int .i64 0), (.int .i64 0), (.int .u64 0), (.int .u64 0)] [(0, 1, (.k (.int .i64 3))), (1, 1, (.t 26)), (2, 1, (.t 30)), (3, 1, (.t 38))], none⟩, ⟨(some 40), .call 104 (.k (.fn (.func 39) [] [])) [(.t 22), (.t 39)], none⟩, ⟨(some 21), .mv (.t 40), none⟩, ⟨(some 41), .ext (.t 21) 0, none⟩, ⟨(some 42), .ext (.t 21) 1, none⟩, ⟨(some 43), .ext (.t 21) 2, none⟩, ⟨(some 1), .mv (.t 41), none⟩, ⟨(some 6), .mv (.t 42), none⟩, ⟨(some 7), .mv (.t 43), none⟩] (some [(4, 8), (4, 12), (8, 12), (4, 16), (8, 16)]))
 (.seq (.block 0 (.seq (.reg [⟨(some 45), .mv (.t 7), none⟩, ⟨(some 46), .un .not (.t 45), none⟩, ⟨(some 44), .mv (.t 46), none⟩] none)
 (.cond (.t 44) (.seq (.reg [⟨(some 47), .mv (.t 0), none⟩, ⟨(some 48), .nilc (.t 47), none⟩, ⟨(some 49), .fa 1 (.t 48), none⟩, ⟨none, .st 1 (.t 49) (.k (.int .i64 (-1))), none⟩] none)
 (.seq (.reg [⟨(some 50), .mv (.t 1), none⟩, ⟨(some 4), .mv (.t 50), none⟩] none)
 .ret)) (.seq (.reg [⟨(some 52), .mv (.t 0), none⟩, ⟨(some 53), .nilc (.t 52), none⟩, ⟨(some 54), .fa 0 (.t 53), none⟩, ⟨(some 55), .ld none (.t 54), none⟩, ⟨(some 56), .bin .eql (.t 55) (.k (.int .i64 2)), none⟩, ⟨(some 51), .mv (.t 56), none⟩] none)
 (.cond (.t 51) (.reg [⟨(some 57), .mv (.t 0), none⟩, ⟨(some 58), .mv (.t 0), none⟩, ⟨(some 59), .nilc (.t 58), none⟩, ⟨(some 60), .fa 4 (.t 59), none⟩, ⟨(some 61), .ld none (.t 60), none⟩, ⟨(some 62), .call 126 (.k (.fn (.func 21) [] [])) [(.t 61)], none⟩, ⟨(some 63), .nilc (.t 57), none⟩, ⟨(some 64), .fa 5 (.t 63), none⟩, ⟨none, .st 1 (.t 64) (.t 62), none⟩] none) .skip)))))
 (.seq (.reg [⟨(some 65), .mv (.t 0), none⟩, ⟨(some 66), .nilc (.t 65), none⟩, ⟨(some 67), .fa 7 (.t 66), none⟩, ⟨none, .st 1 (.t 67) (.k (.int .i64 1)), none⟩] none)
 (.seq (.reg [⟨(some 68), .mv (.t 1), none⟩, ⟨(some 4), .mv (.t 68), none⟩] none)
 .ret)))))))⟩
/-- (*besom/chain.Machine).behind -/
def m32 : MFn := ⟨2, 22, [.tmp 4], (.seq (.reg [⟨(some 4), .mv (.k .nils), none⟩] none)
 (.seq (.reg [⟨(some 5), .mv (.t 0), none⟩, ⟨(some 6), .mv (.t 1), none⟩, ⟨(some 7), .mv (.t 0), none⟩, ⟨(some 8), .nilc (.t 7), none⟩, ⟨(some 9), .fa 3 (.t 8), none⟩, ⟨(some 10), .ld none (.t 9), none⟩, ⟨(some 11), .mv (.t 0), none⟩, ⟨(some 12), .nilc (.t 11), none⟩, ⟨(some 13), .fa 4 (.t 12), none⟩, ⟨(some 14), .ld none (.t 13), none⟩, ⟨(some 15), .call 79 (.k (.fn (.func 21) [] [])) [(.t 14)], none⟩, ⟨(some 16), .bin .add (.t 10) (.t 15), none⟩, ⟨(some 17), .call 81 (.k (.fn (.func 37) [] [])) [(.t 6), (.t 16)], none⟩, ⟨(some 18), .conv .i64 (.t 17), none⟩, ⟨(some 19), .nilc (.t 5), none⟩, ⟨(some 20), .fa 6 (.t 19), none⟩, ⟨none, .st 1 (.t 20) (.t 18), none⟩] (some [(5, 9), (5, 10)]))
 (.seq (.reg [⟨(some 21), .mv (.t 1), none⟩, ⟨(some 4), .mv (.t 21), none⟩] none)
 .ret)))⟩
/-- besom/besomref08.load -/
def m33 : MFn := ⟨2, 17, [.tmp 4], (.seq (.reg [⟨(some 4), .mv (.k (.int .u64 0)), none⟩] none)
 (.seq (.reg [⟨(some 9), .mv (.t 0), none⟩, ⟨(some 10), .mv (.t 1), none⟩, ⟨(some 11), .bld [(.int .i64 0), (.int .i64 0), (.int .u64 0), (.int .u64 0)] [(0, 1, (.k (.int .i64 1))), (1, 1, (.t 10))], none⟩, ⟨(some 12), .call 76 (.k (.fn (.func 40) [] [])) [(.t 9), (.t 11)], none⟩, ⟨(some 8), .mv (.t 12), none⟩, ⟨(some 13), .ext (.t 8) 0, none⟩, ⟨(some 14), .ext (.t 8) 1, none⟩, ⟨(some 15), .ext (.t 8) 2, none⟩, ⟨(some 5), .mv (.t 13), none⟩, ⟨(some 6), .mv (.t 14), none⟩, ⟨(some 7), .mv (.t 15), none⟩] none)
 (.seq (.reg [⟨(some 16), .mv (.t 6), none⟩, ⟨(some 4), .mv (.t 16), none⟩] none)
 .ret)))⟩
/-- besom/besomref08.store -/
def m34 : MFn := ⟨3, 20, [.tmp 6], (.seq (.reg [⟨(some 6), .mv (.k .nils), none⟩] none)
 (.seq (.reg [⟨(some 11), .mv (.t 0), none⟩, ⟨(some 12), .mv (.t 1), none⟩, ⟨(some 13), .mv (.t 2), none⟩, ⟨(some 14), .bld [(.int .i64 0), (.int .i64 0), (.int .u64 0), (.int .u64 0)] [(0, 1, (.k (.int .i64 2))), (1, 1, (.t 12)), (2, 1, (.t 13))], none⟩, ⟨(some 15), .call 79 (.k (.fn (.func 40) [] [])) [(.t 11), (.t 14)], none⟩, ⟨(some 10), .mv (.t 15), none⟩, ⟨(some 16), .ext (.t 10) 0, none⟩, ⟨(some 17), .ext (.t 10) 1, none⟩, ⟨(some 18), .ext (.t 10) 2, none⟩, ⟨(some 7), .mv (.t 16), none⟩, ⟨(some 8), .mv (.t 17), none⟩, ⟨(some 9), .mv (.t 18), none⟩] none)
 (.seq (.reg [⟨(some 19), .mv (.t 7), none⟩, ⟨(some 6), .mv (.t 19), none⟩] none)
 .ret)))⟩
/-- besom/besomref08.swap -/
def m35 : MFn := ⟨3, 30, [.tmp 6, .tmp 7], (.seq (.reg [⟨(some 4), .box 68 (.t 1), none⟩, ⟨(some 6), .mv (.k .nils), none⟩, ⟨(some 7), .mv (.k (.bool false)), none⟩] none)
 (.seq (.reg [⟨(some 12), .mv (.t 0), none⟩, ⟨(some 13), .fa 2 (.t 4), none⟩, ⟨(some 14), .ld none (.t 13), none⟩, ⟨(some 15), .fa 4 (.t 4), none⟩, ⟨(some 16), .ld none (.t 15), none⟩, ⟨(some 17), .fa 4 (.t 4), none⟩, ⟨(some 18), .ld none (.t 17), none⟩, ⟨(some 19), .bin .shr (.t 18) (.k (.int .u64 32)), none⟩, ⟨(some 20), .bin .add (.t 19) (.k (.int .u64 1)), none⟩, ⟨(some 21), .mv (.t 2), none⟩, ⟨(some 22), .call 86 (.k (.fn (.func 20) [] [])) [(.t 20), (.t 21)], none⟩, ⟨(some 23), .bld [(.int .i64 0), (.int .i64 0), (.int .u64 0), (.int .u64 0)] [(0, 1, (.k (.int .i64 3))), (1, 1, (.t 14)), (2, 1, (.t 16)), (3, 1, (.t 22))], none⟩, ⟨(some 24), .call 88 (.k (.fn (.func 40) [] [])) [(.t 12), (.t 23)], none⟩, ⟨(some 11), .mv (.t 24), none⟩, ⟨(some 25), .ext (.t 11) 0, none⟩, ⟨(some 26), .ext (.t 11) 1, none⟩, ⟨(some 27), .ext (.t 11) 2, none⟩, ⟨(some 8), .mv (.t 25), none⟩, ⟨(some 9), .mv (.t 26), none⟩, ⟨(some 10), .mv (.t 27), none⟩] (some [(2, 4), (2, 6), (4, 6), (2, 10), (4, 10)]))
 (.seq (.reg [⟨(some 28), .mv (.t 8), none⟩, ⟨(some 29), .mv (.t 10), none⟩, ⟨(some 6), .mv (.t 28), none⟩, ⟨(some 7), .mv (.t 29), none⟩] none)
 .ret)))⟩
/-- besom/chain.store -/
def m36 : MFn := ⟨3, 17, [.tmp 6], (.seq (.reg [⟨(some 6), .mv (.k .nils), none⟩] none)
 (.seq (.reg [⟨(some 8), .mv (.t 0), none⟩, ⟨(some 9), .mv (.t 1), none⟩, ⟨(some 10), .mv (.t 2), none⟩, ⟨(some 11), .bld [(.int .i64 0), (.int .i64 0), (.int .u64 0), (.int .u64 0)] [(0, 1, (.k (.int .i64 2))), (1, 1, (.t 9)), (2, 1, (.t 10))], none⟩, ⟨(some 12), .call 76 (.k (.fn (.func 39) [] [])) [(.t 8), (.t 11)], none⟩, ⟨(some 7), .mv (.t 12), none⟩, ⟨(some 13), .ext (.t 7) 0, none⟩, ⟨(some 14), .ext (.t 7) 1, none⟩, ⟨(some 15), .ext (.t 7) 2, none⟩, ⟨(some 0), .mv (.t 13), none⟩] none)
 (.seq (.reg [⟨(some 16), .mv (.t 0), none⟩, ⟨(some 6), .mv (.t 16), none⟩] none)
 .ret)))⟩
/-- besom/chain.load -/
def m37 : MFn := ⟨2, 17, [.tmp 4], (.seq (.reg [⟨(some 4), .mv (.k (.int .u64 0)), none⟩] none)
 (.seq (.reg [⟨(some 9), .mv (.t 0), none⟩, ⟨(some 10), .mv (.t 1), none⟩, ⟨(some 11), .bld [(.int .i64 0), (.int .i64 0), (.int .u64 0), (.int .u64 0)] [(0, 1, (.k (.int .i64 1))), (1, 1, (.t 10))], none⟩, ⟨(some 12), .call 76 (.k (.fn (.func 39) [] [])) [(.t 9), (.t 11)], none⟩, ⟨(some 8), .mv (.t 12), none⟩, ⟨(some 13), .ext (.t 8) 0, none⟩, ⟨(some 14), .ext (.t 8) 1, none⟩, ⟨(some 15), .ext (.t 8) 2, none⟩, ⟨(some 5), .mv (.t 13), none⟩, ⟨(some 6), .mv (.t 14), none⟩, ⟨(some 7), .mv (.t 15), none⟩] none)
 (.seq (.reg [⟨(some 16), .mv (.t 6), none⟩, ⟨(some 4), .mv (.t 16), none⟩] none)
 .ret)))⟩
/-- slices.Equal[besom/mem.Mem,uint64] -/
def m38 : MFn := ⟨2, 26, [.tmp 4], (.seq (.reg [⟨(some 4), .mv (.k (.bool false)), none⟩] none)
 (.seq (.seq (.reg [⟨(some 6), .mv (.t 0), none⟩, ⟨(some 7), .len (.t 6), none⟩, ⟨(some 8), .mv (.t 1), none⟩, ⟨(some 9), .len (.t 8), none⟩, ⟨(some 10), .bin .neq (.t 7) (.t 9), none⟩] none)
 (.cond (.t 10) (.seq (.reg [⟨(some 4), .mv (.k (.bool false)), none⟩] none)
 .ret) .skip))
 (.seq (.seq (.reg [⟨(some 11), .mv (.t 0), none⟩, ⟨(some 12), .len (.t 11), none⟩, ⟨(some 13), .mv (.k (.int .i64 0)), none⟩] none)
 (.block 0 (.loop (.seq (.reg [⟨(some 14), .bin .lss (.t 13) (.t 12), none⟩] none)
 (.seq (.cond (.t 14) .skip (.exit 0))
 (.seq (.block 1 (.seq (.reg [⟨(some 15), .mv (.t 13), none⟩, ⟨(some 5), .mv (.t 15), none⟩] none)
 (.seq (.reg [⟨(some 16), .mv (.t 0), none⟩, ⟨(some 17), .mv (.t 5), none⟩, ⟨(some 18), .ixs 1 (.t 16) (.t 17), none⟩, ⟨(some 19), .ld none (.t 18), none⟩, ⟨(some 20), .mv (.t 1), none⟩, ⟨(some 21), .mv (.t 5), none⟩, ⟨(some 22), .ixs 1 (.t 20) (.t 21), none⟩, ⟨(some 23), .ld none (.t 22), none⟩, ⟨(some 24), .bin .neq (.t 19) (.t 23), none⟩] (some [(2, 6), (3, 6), (2, 7), (3, 7)]))
 (.cond (.t 24) (.seq (.reg [⟨(some 4), .mv (.k (.bool false)), none⟩] none)
 .ret) .skip))))
 (.reg [⟨(some 25), .bin .add (.t 13) (.k (.int .i64 1)), none⟩, ⟨(some 13), .mv (.t 25), none⟩] none)))))))
 (.seq (.reg [⟨(some 4), .mv (.k (.bool true)), none⟩] none)
 .ret))))⟩
/-- besom/mem.Do -/
def m39 : MFn := ⟨2, 61, [.tmp 4, .tmp 5, .tmp 6], (.seq (.reg [⟨(some 3), .box 67 (.t 1), none⟩, ⟨(some 4), .mv (.k .nils), none⟩, ⟨(some 5), .mv (.k (.int .u64 0)), none⟩, ⟨(some 6), .mv (.k (.bool false)), none⟩] none)
 (.seq (.reg [⟨(some 11), .mkm 75, none⟩, ⟨none, .ins (.t 11) (.k (.int .i64 1)) (.k (.fn (.func 41) [] [])), none⟩, ⟨(some 12), .mkf (.func 42) [] [(.t 3)], none⟩, ⟨none, .ins (.t 11) (.k (.int .i64 2)) (.t 12), none⟩, ⟨(some 13), .mkf (.func 43) [] [(.t 3)], none⟩, ⟨none, .ins (.t 11) (.k (.int .i64 3)) (.t 13), none⟩, ⟨(some 14), .mkf (.func 44) [] [(.t 3)], none⟩, ⟨none, .ins (.t 11) (.k (.int .i64 4)) (.t 14), none⟩, ⟨(some 15), .mv (.t 11), none⟩, ⟨(some 16), .fa 0 (.t 3), none⟩, ⟨(some 17), .ld none (.t 16), none⟩, ⟨(some 18), .lkp .nilfn false (.t 15) (.t 17), none⟩, ⟨(some 7), .mv (.t 18), none⟩] none)
 (.seq (.seq (.reg [⟨(some 19), .fa 1 (.t 3), none⟩, ⟨(some 20), .ld none (.t 19), none⟩, ⟨(some 21), .bin .lss (.t 20) (.k (.int .i64 0)), none⟩, ⟨(some 22), .mv (.t 21), none⟩, ⟨(some 23), .fa 1 (.t 3), (some (22, false))⟩, ⟨(some 24), .ld none (.t 23), (some (22, false))⟩, ⟨(some 25), .mv (.t 0), (some (22, false))⟩, ⟨(some 26), .len (.t 25), (some (22, false))⟩, ⟨(some 27), .bin .geq (.t 24) (.t 26), (some (22, false))⟩, ⟨(some 28), .pick (.t 22) (.k (.bool true)) (.t 27), none⟩, ⟨(some 29), .mv (.t 28), none⟩, ⟨(some 30), .mv (.t 7), (some (29, false))⟩, ⟨(some 31), .isn 1 false (.t 30), (some (29, false))⟩, ⟨(some 32), .pick (.t 29) (.k (.bool true)) (.t 31), none⟩] none)
 (.cond (.t 32) (.seq (.reg [⟨(some 33), .mv (.t 0), none⟩, ⟨(some 4), .mv (.t 33), none⟩, ⟨(some 5), .mv (.k (.int .u64 0)), none⟩, ⟨(some 6), .mv (.k (.bool false)), none⟩] none)
 .ret) .skip))
 (.seq (.reg [⟨(some 34), .mv (.t 0), none⟩, ⟨(some 35), .fa 1 (.t 3), none⟩, ⟨(some 36), .ld none (.t 35), none⟩, ⟨(some 37), .ixs 1 (.t 34) (.t 36), none⟩, ⟨(some 38), .ld none (.t 37), none⟩, ⟨(some 8), .mv (.t 38), none⟩] none)
 (.seq (.reg [⟨(some 40), .mv (.t 7), none⟩, ⟨(some 41), .mv (.t 8), none⟩, ⟨(some 42), .call 106 (.t 40) [(.t 41)], none⟩, ⟨(some 39), .mv (.t 42), none⟩, ⟨(some 43), .ext (.t 39) 0, none⟩, ⟨(some 44), .ext (.t 39) 1, none⟩, ⟨(some 9), .mv (.t 43), none⟩, ⟨(some 10), .mv (.t 44), none⟩] none)
 (.seq (.seq (.reg [⟨(some 45), .mv (.t 10), none⟩, ⟨(some 46), .mv (.t 45), none⟩, ⟨(some 47), .mv (.t 8), (some (46, true))⟩, ⟨(some 48), .mv (.t 9), (some (46, true))⟩, ⟨(some 49), .bin .neq (.t 47) (.t 48), (some (46, true))⟩, ⟨(some 50), .pick (.t 46) (.t 49) (.k (.bool false)), none⟩] none)
 (.cond (.t 50) (.seq (.reg [⟨(some 51), .mv (.t 0), none⟩, ⟨(some 52), .call 116 (.k (.fn (.func 45) [] [])) [(.t 51)], none⟩, ⟨(some 0), .mv (.t 52), none⟩] none)
 (.reg [⟨(some 53), .mv (.t 0), none⟩, ⟨(some 54), .fa 1 (.t 3), none⟩, ⟨(some 55), .ld none (.t 54), none⟩, ⟨(some 56), .mv (.t 9), none⟩, ⟨(some 57), .ixs 1 (.t 53) (.t 55), none⟩, ⟨none, .st 1 (.t 57) (.t 56), none⟩] none)) .skip))
 (.seq (.reg [⟨(some 58), .mv (.t 0), none⟩, ⟨(some 59), .mv (.t 8), none⟩, ⟨(some 60), .mv (.t 10), none⟩, ⟨(some 4), .mv (.t 58), none⟩, ⟨(some 5), .mv (.t 59), none⟩, ⟨(some 6), .mv (.t 60), none⟩] none)
 .ret)))))))⟩
/-- besom/besomref05.Do -/
def m40 : MFn := ⟨2, 83, [.tmp 4, .tmp 5, .tmp 6], (.seq (.reg [⟨(some 3), .box 67 (.t 1), none⟩, ⟨(some 4), .mv (.k .nils), none⟩, ⟨(some 5), .mv (.k (.int .u64 0)), none⟩, ⟨(some 6), .mv (.k (.bool false)), none⟩] none)
 (.seq (.seq (.reg [⟨(some 9), .fa 1 (.t 3), none⟩, ⟨(some 10), .ld none (.t 9), none⟩, ⟨(some 11), .bin .lss (.t 10) (.k (.int .i64 0)), none⟩, ⟨(some 12), .mv (.t 11), none⟩, ⟨(some 13), .fa 1 (.t 3), (some (12, false))⟩, ⟨(some 14), .ld none (.t 13), (some (12, false))⟩, ⟨(some 15), .mv (.t 0), (some (12, false))⟩, ⟨(some 16), .len (.t 15), (some (12, false))⟩, ⟨(some 17), .bin .geq (.t 14) (.t 16), (some (12, false))⟩, ⟨(some 18), .pick (.t 12) (.k (.bool true)) (.t 17), none⟩, ⟨(some 19), .mv (.t 18), none⟩, ⟨(some 20), .fa 0 (.t 3), (some (19, false))⟩, ⟨(some 21), .ld none (.t 20), (some (19, false))⟩, ⟨(some 22), .bin .lss (.t 21) (.k (.int .i64 1)), (some (19, false))⟩, ⟨(some 23), .pick (.t 19) (.k (.bool true)) (.t 22), none⟩, ⟨(some 24), .mv (.t 23), none⟩, ⟨(some 25), .fa 0 (.t 3), (some (24, false))⟩, ⟨(some 26), .ld none (.t 25), (some (24, false))⟩, ⟨(some 27), .bin .gtr (.t 26) (.k (.int .i64 4)), (some (24, false))⟩, ⟨(some 28), .pick (.t 24) (.k (.bool true)) (.t 27), none⟩] none)
 (.cond (.t 28) (.seq (.reg [⟨(some 29), .mv (.t 0), none⟩, ⟨(some 4), .mv (.t 29), none⟩, ⟨(some 5), .mv (.k (.int .u64 0)), none⟩, ⟨(some 6), .mv (.k (.bool false)), none⟩] none)
 .ret) .skip))
 (.seq (.reg [⟨(some 30), .mv (.t 0), none⟩, ⟨(some 31), .fa 1 (.t 3), none⟩, ⟨(some 32), .ld none (.t 31), none⟩, ⟨(some 33), .ixs 1 (.t 30) (.t 32), none⟩, ⟨(some 34), .ld none (.t 33), none⟩, ⟨(some 7), .mv (.t 34), none⟩] none)
 (.seq (.seq (.reg [⟨(some 35), .fa 0 (.t 3), none⟩, ⟨(some 36), .ld none (.t 35), none⟩, ⟨(some 37), .bin .eql (.t 36) (.k (.int .i64 1)), none⟩] none)
 (.cond (.t 37) (.seq (.reg [⟨(some 38), .mv (.t 0), none⟩, ⟨(some 39), .mv (.t 7), none⟩, ⟨(some 4), .mv (.t 38), none⟩, ⟨(some 5), .mv (.t 39), none⟩, ⟨(some 6), .mv (.k (.bool true)), none⟩] none)
 .ret) .skip))
 (.seq (.seq (.reg [⟨(some 40), .fa 0 (.t 3), none⟩, ⟨(some 41), .ld none (.t 40), none⟩, ⟨(some 42), .bin .eql (.t 41) (.k (.int .i64 3)), none⟩, ⟨(some 43), .mv (.t 42), none⟩, ⟨(some 44), .mv (.t 7), (some (43, true))⟩, ⟨(some 45), .fa 2 (.t 3), (some (43, true))⟩, ⟨(some 46), .ld none (.t 45), (some (43, true))⟩, ⟨(some 47), .bin .neq (.t 44) (.t 46), (some (43, true))⟩, ⟨(some 48), .pick (.t 43) (.t 47) (.k (.bool false)), none⟩] none)
 (.cond (.t 48) (.seq (.reg [⟨(some 49), .mv (.t 0), none⟩, ⟨(some 50), .mv (.t 7), none⟩, ⟨(some 4), .mv (.t 49), none⟩, ⟨(some 5), .mv (.t 50), none⟩, ⟨(some 6), .mv (.k (.bool false)), none⟩] none)
 .ret) .skip))
 (.seq (.reg [⟨(some 51), .mv (.t 0), none⟩, ⟨(some 52), .app 116 1 8 (.k .nils) (.t 51), none⟩, ⟨(some 8), .mv (.t 52), none⟩] none)
 (.seq (.seq (.reg [⟨(some 53), .fa 0 (.t 3), none⟩, ⟨(some 54), .ld none (.t 53), none⟩] none)
 (.block 0 (.seq (.reg [⟨(some 56), .bin .eql (.t 54) (.k (.int .i64 2)), none⟩, ⟨(some 55), .mv (.t 56), none⟩] none)
 (.cond (.t 55) (.reg [⟨(some 57), .mv (.t 8), none⟩, ⟨(some 58), .fa 1 (.t 3), none⟩, ⟨(some 59), .ld none (.t 58), none⟩, ⟨(some 60), .fa 2 (.t 3), none⟩, ⟨(some 61), .ld none (.t 60), none⟩, ⟨(some 62), .ixs 1 (.t 57) (.t 59), none⟩, ⟨none, .st 1 (.t 62) (.t 61), none⟩] none) (.seq (.reg [⟨(some 64), .bin .eql (.t 54) (.k (.int .i64 3)), none⟩, ⟨(some 63), .mv (.t 64), none⟩] none)
 (.cond (.t 63) (.reg [⟨(some 65), .mv (.t 8), none⟩, ⟨(some 66), .fa 1 (.t 3), none⟩, ⟨(some 67), .ld none (.t 66), none⟩, ⟨(some 68), .fa 3 (.t 3), none⟩, ⟨(some 69), .ld none (.t 68), none⟩, ⟨(some 70), .ixs 1 (.t 65) (.t 67), none⟩, ⟨none, .st 1 (.t 70) (.t 69), none⟩] none) (.seq (.reg [⟨(some 72), .bin .eql (.t 54) (.k (.int .i64 4)), none⟩, ⟨(some 71), .mv (.t 72), none⟩] none)
 (.cond (.t 71) (.reg [⟨(some 73), .mv (.t 8), none⟩, ⟨(some 74), .fa 1 (.t 3), none⟩, ⟨(some 75), .ld none (.t 74), none⟩, ⟨(some 76), .mv (.t 7), none⟩, ⟨(some 77), .fa 2 (.t 3), none⟩, ⟨(some 78), .ld none (.t 77), none⟩, ⟨(some 79), .bin .add (.t 76) (.t 78), none⟩, ⟨(some 80), .ixs 1 (.t 73) (.t 75), none⟩, ⟨none, .st 1 (.t 80) (.t 79), none⟩] none) .skip))))))))
 (.seq (.reg [⟨(some 81), .mv (.t 8), none⟩, ⟨(some 82), .mv (.t 7), none⟩, ⟨(some 4), .mv (.t 81), none⟩, ⟨(some 5), .mv (.t 82), none⟩, ⟨(some 6), .mv (.k (.bool true)), none⟩] none)
 .ret))))))))⟩
/-- besom/mem.Do$1 -/
def m41 : MFn := ⟨1, 5, [.tmp 2, .tmp 3], (.seq (.reg [⟨(some 2), .mv (.k (.int .u64 0)), none⟩, ⟨(some 3), .mv (.k (.bool false)), none⟩] none)
 (.seq (.reg [⟨(some 4), .mv (.t 0), none⟩, ⟨(some 2), .mv (.t 4), none⟩, ⟨(some 3), .mv (.k (.bool true)), none⟩] none)
 .ret))⟩
/-- besom/mem.Do$2 -/
def m42 : MFn := ⟨2, 7, [.tmp 3, .tmp 4], (.seq (.reg [⟨(some 3), .mv (.k (.int .u64 0)), none⟩, ⟨(some 4), .mv (.k (.bool false)), none⟩] none)
 (.seq (.reg [⟨(some 5), .fa 2 (.t 1), none⟩, ⟨(some 6), .ld none (.t 5), none⟩, ⟨(some 3), .mv (.t 6), none⟩, ⟨(some 4), .mv (.k (.bool true)), none⟩] none)
 .ret))⟩
/-- besom/mem.Do$3 -/
def m43 : MFn := ⟨2, 11, [.tmp 3, .tmp 4], (.seq (.reg [⟨(some 3), .mv (.k (.int .u64 0)), none⟩, ⟨(some 4), .mv (.k (.bool false)), none⟩] none)
 (.seq (.reg [⟨(some 5), .fa 3 (.t 1), none⟩, ⟨(some 6), .ld none (.t 5), none⟩, ⟨(some 7), .mv (.t 0), none⟩, ⟨(some 8), .fa 2 (.t 1), none⟩, ⟨(some 9), .ld none (.t 8), none⟩, ⟨(some 10), .bin .eql (.t 7) (.t 9), none⟩, ⟨(some 3), .mv (.t 6), none⟩, ⟨(some 4), .mv (.t 10), none⟩] (some [(1, 4)]))
 .ret))⟩
/-- besom/mem.Do$4 -/
def m44 : MFn := ⟨2, 9, [.tmp 3, .tmp 4], (.seq (.reg [⟨(some 3), .mv (.k (.int .u64 0)), none⟩, ⟨(some 4), .mv (.k (.bool false)), none⟩] none)
 (.seq (.reg [⟨(some 5), .mv (.t 0), none⟩, ⟨(some 6), .fa 2 (.t 1), none⟩, ⟨(some 7), .ld none (.t 6), none⟩, ⟨(some 8), .bin .add (.t 5) (.t 7), none⟩, ⟨(some 3), .mv (.t 8), none⟩, ⟨(some 4), .mv (.k (.bool true)), none⟩] none)
 .ret))⟩
/-- slices.Clone[besom/mem.Mem,uint64] -/
def m45 : MFn := ⟨1, 8, [.tmp 2], (.seq (.reg [⟨(some 2), .mv (.k .nils), none⟩] none)
 (.seq (.seq (.reg [⟨(some 3), .mv (.t 0), none⟩, ⟨(some 4), .isn 0 false (.t 3), none⟩] none)
 (.cond (.t 4) (.seq (.reg [⟨(some 2), .mv (.k .nils), none⟩] none)
 .ret) .skip))
 (.seq (.reg [⟨(some 5), .bslt 1 [], none⟩, ⟨(some 6), .mv (.t 0), none⟩, ⟨(some 7), .app 71 1 8 (.t 5) (.t 6), none⟩, ⟨(some 2), .mv (.t 7), none⟩] none)
 .ret)))⟩

theorem low3 : lowFn Try.prog Try.f3 = some m3 := by kernel_rfl
theorem low4 : lowFn Try.prog Try.f4 = some m4 := by kernel_rfl
theorem low5 : lowFn Try.prog Try.f5 = some m5 := by kernel_rfl
theorem low6 : lowFn Try.prog Try.f6 = some m6 := by kernel_rfl
theorem low7 : lowFn Try.prog Try.f7 = some m7 := by kernel_rfl
theorem low8 : lowFn Try.prog Try.f8 = some m8 := by kernel_rfl
theorem low9 : lowFn Try.prog Try.f9 = some m9 := by kernel_rfl
theorem low10 : lowFn Try.prog Try.f10 = some m10 := by kernel_rfl
theorem low11 : lowFn Try.prog Try.f11 = some m11 := by kernel_rfl
theorem low12 : lowFn Try.prog Try.f12 = some m12 := by kernel_rfl
theorem low13 : lowFn Try.prog Try.f13 = some m13 := by kernel_rfl
theorem low14 : lowFn Try.prog Try.f14 = some m14 := by kernel_rfl
theorem low15 : lowFn Try.prog Try.f15 = some m15 := by kernel_rfl
theorem low16 : lowFn Try.prog Try.f16 = some m16 := by kernel_rfl
theorem low17 : lowFn Try.prog Try.f17 = some m17 := by kernel_rfl
theorem low18 : lowFn Try.prog Try.f18 = some m18 := by kernel_rfl
theorem low19 : lowFn Try.prog Try.f19 = some m19 := by kernel_rfl
theorem low20 : lowFn Try.prog Try.f20 = some m20 := by kernel_rfl
theorem low21 : lowFn Try.prog Try.f21 = some m21 := by kernel_rfl
theorem low22 : lowFn Try.prog Try.f22 = some m22 := by kernel_rfl
theorem low23 : lowFn Try.prog Try.f23 = some m23 := by kernel_rfl
theorem low24 : lowFn Try.prog Try.f24 = some m24 := by kernel_rfl
theorem low25 : lowFn Try.prog Try.f25 = some m25 := by kernel_rfl
theorem low26 : lowFn Try.prog Try.f26 = some m26 := by kernel_rfl
theorem low27 : lowFn Try.prog Try.f27 = some m27 := by kernel_rfl
theorem low28 : lowFn Try.prog Try.f28 = some m28 := by kernel_rfl
theorem low29 : lowFn Try.prog Try.f29 = some m29 := by kernel_rfl
theorem low30 : lowFn Try.prog Try.f30 = some m30 := by kernel_rfl
theorem low31 : lowFn Try.prog Try.f31 = some m31 := by kernel_rfl
theorem low32 : lowFn Try.prog Try.f32 = some m32 := by kernel_rfl
theorem low33 : lowFn Try.prog Try.f33 = some m33 := by kernel_rfl
theorem low34 : lowFn Try.prog Try.f34 = some m34 := by kernel_rfl
theorem low35 : lowFn Try.prog Try.f35 = some m35 := by kernel_rfl
theorem low36 : lowFn Try.prog Try.f36 = some m36 := by kernel_rfl
theorem low37 : lowFn Try.prog Try.f37 = some m37 := by kernel_rfl
theorem low38 : lowFn Try.prog Try.f38 = some m38 := by kernel_rfl
theorem low39 : lowFn Try.prog Try.f39 = some m39 := by kernel_rfl
theorem low40 : lowFn Try.prog Try.f40 = some m40 := by kernel_rfl
theorem low41 : lowFn Try.prog Try.f41 = some m41 := by kernel_rfl
theorem low42 : lowFn Try.prog Try.f42 = some m42 := by kernel_rfl
theorem low43 : lowFn Try.prog Try.f43 = some m43 := by kernel_rfl
theorem low44 : lowFn Try.prog Try.f44 = some m44 := by kernel_rfl
theorem low45 : lowFn Try.prog Try.f45 = some m45 := by kernel_rfl
end Go.Nx
