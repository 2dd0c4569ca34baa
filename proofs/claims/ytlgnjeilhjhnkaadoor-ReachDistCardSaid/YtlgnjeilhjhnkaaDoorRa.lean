/-
  THE FUNCTIONS OF THE SEAT, LOWERED.
-/
import Derived.Test.YtlgnjeilhjhnkaaDoorXy
import Derived.Test.YtlgnjeilhjhnkaaDoorRows
set_option linter.unusedVariables false
namespace Go.Nx
open Go.RowKit Go.Proofs

/-- besom/besomlaw04.ReachTells -/
def m3 : MFn := ⟨3, 64, [.tmp 6], (.seq (.reg [⟨(some 3), .box 67 (.t 0), none⟩, ⟨(some 6), .mv (.k (.bool false)), none⟩] none)
 (.seq (.reg [⟨(some 12), .call 76 (.k (.fn (.func 9) [] [])) [], none⟩, ⟨(some 7), .mv (.t 12), none⟩] none)
 (.seq (.seq (.reg [⟨(some 13), .mv (.t 7), none⟩, ⟨(some 14), .un .not (.t 13), none⟩] none)
 (.cond (.t 14) (.seq (.reg [⟨(some 6), .mv (.k (.bool false)), none⟩] none)
 .ret) .skip))
 (.seq (.reg [⟨(some 15), .ld (some 2) (.t 3), none⟩, ⟨(some 16), .call 80 (.k (.fn (.func 10) [] [])) [(.t 15)], none⟩, ⟨(some 8), .alloc 72 [(.int .i64 0), .nils], none⟩, ⟨none, .st 2 (.t 8) (.t 16), none⟩] none)
 (.seq (.reg [⟨(some 17), .ld (some 2) (.t 3), none⟩, ⟨(some 18), .mv (.t 1), none⟩, ⟨(some 19), .call 83 (.k (.fn (.func 11) [] [])) [(.t 17), (.t 18)], none⟩, ⟨(some 9), .mv (.t 19), none⟩] none)
 (.seq (.reg [⟨(some 20), .ld (some 2) (.t 8), none⟩, ⟨(some 21), .mv (.t 1), none⟩, ⟨(some 22), .call 86 (.k (.fn (.func 12) [] [])) [(.t 20), (.t 21)], none⟩, ⟨(some 10), .mv (.t 22), none⟩] none)
 (.seq (.seq (.reg [⟨(some 23), .mv (.t 9), none⟩, ⟨(some 24), .len (.t 23), none⟩, ⟨(some 25), .mv (.t 10), none⟩, ⟨(some 26), .len (.t 25), none⟩, ⟨(some 27), .bin .neq (.t 24) (.t 26), none⟩] none)
 (.cond (.t 27) (.seq (.reg [⟨(some 6), .mv (.k (.bool false)), none⟩] none)
 .ret) .skip))
 (.seq (.seq (.reg [⟨(some 11), .mv (.k (.int .i64 0)), none⟩] none)
 (.block 0 (.loop (.seq (.seq (.reg [⟨(some 28), .mv (.t 11), none⟩, ⟨(some 29), .mv (.t 9), none⟩, ⟨(some 30), .len (.t 29), none⟩, ⟨(some 31), .bin .lss (.t 28) (.t 30), none⟩] none)
 (.cond (.t 31) .skip (.exit 0)))
 (.seq (.block 1 (.seq (.reg [⟨(some 34), .mv (.t 9), none⟩, ⟨(some 35), .mv (.t 11), none⟩, ⟨(some 36), .ixs 1 (.t 34) (.t 35), none⟩, ⟨(some 37), .ld none (.t 36), none⟩, ⟨(some 38), .mv (.t 10), none⟩, ⟨(some 39), .mv (.t 11), none⟩, ⟨(some 40), .ixs 1 (.t 38) (.t 39), none⟩, ⟨(some 41), .ld none (.t 40), none⟩, ⟨(some 42), .bin .neq (.t 37) (.t 41), none⟩] (some [(2, 6), (3, 6), (2, 7), (3, 7)]))
 (.cond (.t 42) (.seq (.reg [⟨(some 6), .mv (.k (.bool false)), none⟩] none)
 .ret) .skip)))
 (.reg [⟨(some 32), .mv (.t 11), none⟩, ⟨(some 33), .bin .add (.t 32) (.k (.int .i64 1)), none⟩, ⟨(some 11), .mv (.t 33), none⟩] none))))))
 (.seq (.reg [⟨(some 43), .mv (.t 7), none⟩, ⟨(some 44), .mv (.t 43), none⟩, ⟨(some 45), .ld (some 2) (.t 3), (some (44, true))⟩, ⟨(some 46), .mv (.t 1), (some (44, true))⟩, ⟨(some 47), .call 111 (.k (.fn (.func 13) [] [])) [(.t 45), (.t 46)], (some (44, true))⟩, ⟨(some 48), .ld (some 2) (.t 8), (some (44, true))⟩, ⟨(some 49), .mv (.t 1), (some (44, true))⟩, ⟨(some 50), .call 114 (.k (.fn (.func 14) [] [])) [(.t 48), (.t 49)], (some (44, true))⟩, ⟨(some 51), .bin .eql (.t 47) (.t 50), (some (44, true))⟩, ⟨(some 52), .pick (.t 44) (.t 51) (.k (.bool false)), none⟩, ⟨(some 53), .mv (.t 52), none⟩, ⟨(some 54), .ld (some 2) (.t 3), (some (53, true))⟩, ⟨(some 55), .mv (.t 1), (some (53, true))⟩, ⟨(some 56), .mv (.t 2), (some (53, true))⟩, ⟨(some 57), .call 121 (.k (.fn (.func 15) [] [])) [(.t 54), (.t 55), (.t 56)], (some (53, true))⟩, ⟨(some 58), .ld (some 2) (.t 8), (some (53, true))⟩, ⟨(some 59), .mv (.t 1), (some (53, true))⟩, ⟨(some 60), .mv (.t 2), (some (53, true))⟩, ⟨(some 61), .call 125 (.k (.fn (.func 16) [] [])) [(.t 58), (.t 59), (.t 60)], (some (53, true))⟩, ⟨(some 62), .bin .eql (.t 57) (.t 61), (some (53, true))⟩, ⟨(some 63), .pick (.t 53) (.t 62) (.k (.bool false)), none⟩, ⟨(some 6), .mv (.t 63), none⟩] (some [(2, 5), (4, 5), (11, 15), (14, 15)]))
 .ret)))))))))⟩
/-- besom/besomlaw04.ReachGoes -/
def m4 : MFn := ⟨3, 47, [.tmp 6], (.seq (.reg [⟨(some 3), .box 67 (.t 0), none⟩, ⟨(some 6), .mv (.k (.bool false)), none⟩] none)
 (.seq (.reg [⟨(some 10), .call 74 (.k (.fn (.func 9) [] [])) [], none⟩, ⟨(some 7), .mv (.t 10), none⟩] none)
 (.seq (.seq (.reg [⟨(some 11), .mv (.t 7), none⟩, ⟨(some 12), .un .not (.t 11), none⟩] none)
 (.cond (.t 12) (.seq (.reg [⟨(some 6), .mv (.k (.bool false)), none⟩] none)
 .ret) .skip))
 (.seq (.reg [⟨(some 13), .ld (some 2) (.t 3), none⟩, ⟨(some 14), .mv (.t 1), none⟩, ⟨(some 15), .call 79 (.k (.fn (.func 13) [] [])) [(.t 13), (.t 14)], none⟩, ⟨(some 8), .mv (.t 15), none⟩] none)
 (.seq (.reg [⟨(some 16), .ld (some 2) (.t 3), none⟩, ⟨(some 17), .mv (.t 2), none⟩, ⟨(some 18), .call 82 (.k (.fn (.func 13) [] [])) [(.t 16), (.t 17)], none⟩, ⟨(some 9), .mv (.t 18), none⟩] none)
 (.seq (.reg [⟨(some 19), .mv (.t 7), none⟩, ⟨(some 20), .mv (.t 19), none⟩, ⟨(some 21), .ld (some 2) (.t 3), (some (20, true))⟩, ⟨(some 22), .mv (.t 8), (some (20, true))⟩, ⟨(some 23), .call 87 (.k (.fn (.func 13) [] [])) [(.t 21), (.t 22)], (some (20, true))⟩, ⟨(some 24), .mv (.t 8), (some (20, true))⟩, ⟨(some 25), .bin .eql (.t 23) (.t 24), (some (20, true))⟩, ⟨(some 26), .pick (.t 20) (.t 25) (.k (.bool false)), none⟩, ⟨(some 27), .mv (.t 26), none⟩, ⟨(some 28), .ld (some 2) (.t 3), (some (27, true))⟩, ⟨(some 29), .mv (.t 1), (some (27, true))⟩, ⟨(some 30), .mv (.t 2), (some (27, true))⟩, ⟨(some 31), .bin .or (.t 29) (.t 30), (some (27, true))⟩, ⟨(some 32), .call 96 (.k (.fn (.func 13) [] [])) [(.t 28), (.t 31)], (some (27, true))⟩, ⟨(some 33), .mv (.t 8), (some (27, true))⟩, ⟨(some 34), .mv (.t 9), (some (27, true))⟩, ⟨(some 35), .bin .or (.t 33) (.t 34), (some (27, true))⟩, ⟨(some 36), .bin .eql (.t 32) (.t 35), (some (27, true))⟩, ⟨(some 37), .pick (.t 27) (.t 36) (.k (.bool false)), none⟩, ⟨(some 38), .mv (.t 37), none⟩, ⟨(some 39), .mv (.t 8), (some (38, true))⟩, ⟨(some 40), .ld (some 2) (.t 3), (some (38, true))⟩, ⟨(some 41), .mv (.t 1), (some (38, true))⟩, ⟨(some 42), .mv (.t 2), (some (38, true))⟩, ⟨(some 43), .bin .or (.t 41) (.t 42), (some (38, true))⟩, ⟨(some 44), .call 108 (.k (.fn (.func 13) [] [])) [(.t 40), (.t 43)], (some (38, true))⟩, ⟨(some 45), .call 109 (.k (.fn (.func 17) [] [])) [(.t 39), (.t 44)], (some (38, true))⟩, ⟨(some 46), .pick (.t 38) (.t 45) (.k (.bool false)), none⟩, ⟨(some 6), .mv (.t 46), none⟩] none)
 .ret))))))⟩
/-- besom/besomlaw04.ReachVia -/
def m5 : MFn := ⟨4, 81, [.tmp 8], (.seq (.reg [⟨(some 4), .box 68 (.t 0), none⟩, ⟨(some 8), .mv (.k (.bool false)), none⟩] none)
 (.seq (.reg [⟨(some 12), .call 76 (.k (.fn (.func 9) [] [])) [], none⟩, ⟨(some 9), .mv (.t 12), none⟩] none)
 (.seq (.seq (.reg [⟨(some 13), .mv (.t 9), none⟩, ⟨(some 14), .un .not (.t 13), none⟩] none)
 (.cond (.t 14) (.seq (.reg [⟨(some 8), .mv (.k (.bool false)), none⟩] none)
 .ret) .skip))
 (.seq (.reg [⟨(some 15), .ld (some 2) (.t 4), none⟩, ⟨(some 16), .mv (.t 1), none⟩, ⟨(some 17), .mv (.t 2), none⟩, ⟨(some 18), .call 82 (.k (.fn (.func 15) [] [])) [(.t 15), (.t 16), (.t 17)], none⟩, ⟨(some 10), .mv (.t 18), none⟩] none)
 (.seq (.reg [⟨(some 19), .call 83 (.k (.fn (.func 18) [] [])) [(.k (.int .i64 64))], none⟩, ⟨(some 11), .mv (.t 19), none⟩] none)
 (.seq (.reg [⟨(some 20), .mv (.t 9), none⟩, ⟨(some 21), .mv (.t 20), none⟩, ⟨(some 22), .ld (some 2) (.t 4), (some (21, true))⟩, ⟨(some 23), .mv (.t 1), (some (21, true))⟩, ⟨(some 24), .mv (.t 11), (some (21, true))⟩, ⟨(some 25), .call 89 (.k (.fn (.func 15) [] [])) [(.t 22), (.t 23), (.t 24)], (some (21, true))⟩, ⟨(some 26), .ld (some 2) (.t 4), (some (21, true))⟩, ⟨(some 27), .mv (.t 1), (some (21, true))⟩, ⟨(some 28), .call 92 (.k (.fn (.func 13) [] [])) [(.t 26), (.t 27)], (some (21, true))⟩, ⟨(some 29), .bin .eql (.t 25) (.t 28), (some (21, true))⟩, ⟨(some 30), .pick (.t 21) (.t 29) (.k (.bool false)), none⟩, ⟨(some 31), .mv (.t 30), none⟩, ⟨(some 32), .mv (.t 10), (some (31, true))⟩, ⟨(some 33), .ld (some 2) (.t 4), (some (31, true))⟩, ⟨(some 34), .mv (.t 1), (some (31, true))⟩, ⟨(some 35), .mv (.t 2), (some (31, true))⟩, ⟨(some 36), .mv (.t 3), (some (31, true))⟩, ⟨(some 37), .bin .or (.t 35) (.t 36), (some (31, true))⟩, ⟨(some 38), .call 102 (.k (.fn (.func 15) [] [])) [(.t 33), (.t 34), (.t 37)], (some (31, true))⟩, ⟨(some 39), .call 103 (.k (.fn (.func 17) [] [])) [(.t 32), (.t 38)], (some (31, true))⟩, ⟨(some 40), .pick (.t 31) (.t 39) (.k (.bool false)), none⟩, ⟨(some 41), .mv (.t 40), none⟩, ⟨(some 42), .mv (.t 10), (some (41, true))⟩, ⟨(some 43), .ld (some 2) (.t 4), (some (41, true))⟩, ⟨(some 44), .mv (.t 1), (some (41, true))⟩, ⟨(some 45), .call 109 (.k (.fn (.func 13) [] [])) [(.t 43), (.t 44)], (some (41, true))⟩, ⟨(some 46), .call 110 (.k (.fn (.func 17) [] [])) [(.t 42), (.t 45)], (some (41, true))⟩, ⟨(some 47), .pick (.t 41) (.t 46) (.k (.bool false)), none⟩, ⟨(some 48), .mv (.t 47), none⟩, ⟨(some 49), .ld (some 2) (.t 4), (some (48, true))⟩, ⟨(some 50), .mv (.t 1), (some (48, true))⟩, ⟨(some 51), .mv (.t 10), (some (48, true))⟩, ⟨(some 52), .mv (.t 2), (some (48, true))⟩, ⟨(some 53), .bin .and (.t 51) (.t 52), (some (48, true))⟩, ⟨(some 54), .call 118 (.k (.fn (.func 15) [] [])) [(.t 49), (.t 50), (.t 53)], (some (48, true))⟩, ⟨(some 55), .mv (.t 10), (some (48, true))⟩, ⟨(some 56), .bin .eql (.t 54) (.t 55), (some (48, true))⟩, ⟨(some 57), .pick (.t 48) (.t 56) (.k (.bool false)), none⟩, ⟨(some 58), .mv (.t 57), none⟩, ⟨(some 59), .ld (some 2) (.t 4), (some (58, true))⟩, ⟨(some 60), .mv (.t 1), (some (58, true))⟩, ⟨(some 61), .mv (.t 2), (some (58, true))⟩, ⟨(some 62), .bin .and (.t 60) (.t 61), (some (58, true))⟩, ⟨(some 63), .mv (.t 2), (some (58, true))⟩, ⟨(some 64), .mv (.t 3), (some (58, true))⟩, ⟨(some 65), .bin .or (.t 63) (.t 64), (some (58, true))⟩, ⟨(some 66), .call 130 (.k (.fn (.func 15) [] [])) [(.t 59), (.t 62), (.t 65)], (some (58, true))⟩, ⟨(some 67), .ld (some 2) (.t 4), (some (58, true))⟩, ⟨(some 68), .mv (.t 1), (some (58, true))⟩, ⟨(some 69), .mv (.t 2), (some (58, true))⟩, ⟨(some 70), .bin .and (.t 68) (.t 69), (some (58, true))⟩, ⟨(some 71), .mv (.t 2), (some (58, true))⟩, ⟨(some 72), .mv (.t 3), (some (58, true))⟩, ⟨(some 73), .bin .or (.t 71) (.t 72), (some (58, true))⟩, ⟨(some 74), .mv (.t 1), (some (58, true))⟩, ⟨(some 75), .mv (.t 2), (some (58, true))⟩, ⟨(some 76), .bin .and (.t 74) (.t 75), (some (58, true))⟩, ⟨(some 77), .bin .or (.t 73) (.t 76), (some (58, true))⟩, ⟨(some 78), .call 142 (.k (.fn (.func 15) [] [])) [(.t 67), (.t 70), (.t 77)], (some (58, true))⟩, ⟨(some 79), .bin .eql (.t 66) (.t 78), (some (58, true))⟩, ⟨(some 80), .pick (.t 58) (.t 79) (.k (.bool false)), none⟩, ⟨(some 8), .mv (.t 80), none⟩] (some [(2, 6), (5, 6), (39, 47), (46, 47)]))
 .ret))))))⟩
/-- besom/besomlaw04.ReachDist -/
def m6 : MFn := ⟨2, 138, [.tmp 4], (.seq (.reg [⟨(some 2), .box 66 (.t 0), none⟩, ⟨(some 4), .mv (.k (.bool false)), none⟩] none)
 (.seq (.reg [⟨(some 14), .call 78 (.k (.fn (.func 9) [] [])) [], none⟩, ⟨(some 5), .mv (.t 14), none⟩] none)
 (.seq (.seq (.reg [⟨(some 15), .mv (.t 5), none⟩, ⟨(some 16), .un .not (.t 15), none⟩] none)
 (.cond (.t 16) (.seq (.reg [⟨(some 4), .mv (.k (.bool false)), none⟩] none)
 .ret) .skip))
 (.seq (.seq (.reg [⟨(some 17), .ld (some 2) (.t 2), none⟩, ⟨(some 18), .call 82 (.k (.fn (.func 19) [] [])) [(.t 17)], none⟩, ⟨(some 19), .un .not (.t 18), none⟩] none)
 (.cond (.t 19) (.seq (.reg [⟨(some 20), .mv (.t 5), none⟩, ⟨(some 4), .mv (.t 20), none⟩] none)
 .ret) .skip))
 (.seq (.reg [⟨(some 21), .ld (some 2) (.t 2), none⟩, ⟨(some 22), .mv (.t 1), none⟩, ⟨(some 23), .call 87 (.k (.fn (.func 11) [] [])) [(.t 21), (.t 22)], none⟩, ⟨(some 6), .mv (.t 23), none⟩] none)
 (.seq (.reg [⟨(some 24), .ld (some 2) (.t 2), none⟩, ⟨(some 25), .mv (.t 1), none⟩, ⟨(some 26), .call 90 (.k (.fn (.func 13) [] [])) [(.t 24), (.t 25)], none⟩, ⟨(some 7), .mv (.t 26), none⟩] none)
 (.seq (.seq (.reg [⟨(some 27), .mv (.t 6), none⟩, ⟨(some 28), .len (.t 27), none⟩, ⟨(some 29), .fa 1 (.t 2), none⟩, ⟨(some 30), .ld none (.t 29), none⟩, ⟨(some 31), .len (.t 30), none⟩, ⟨(some 32), .bin .neq (.t 28) (.t 31), none⟩] none)
 (.cond (.t 32) (.seq (.reg [⟨(some 4), .mv (.k (.bool false)), none⟩] none)
 .ret) .skip))
 (.seq (.seq (.reg [⟨(some 8), .mv (.k (.int .i64 0)), none⟩] none)
 (.block 0 (.loop (.seq (.seq (.reg [⟨(some 33), .mv (.t 8), none⟩, ⟨(some 34), .mv (.t 6), none⟩, ⟨(some 35), .len (.t 34), none⟩, ⟨(some 36), .bin .lss (.t 33) (.t 35), none⟩] none)
 (.cond (.t 36) .skip (.exit 0)))
 (.seq (.block 1 (.seq (.seq (.reg [⟨(some 39), .mv (.t 6), none⟩, ⟨(some 40), .mv (.t 8), none⟩, ⟨(some 41), .ixs 1 (.t 39) (.t 40), none⟩, ⟨(some 42), .ld none (.t 41), none⟩, ⟨(some 43), .bin .geq (.t 42) (.k (.int .i64 0)), none⟩, ⟨(some 44), .mv (.t 7), none⟩, ⟨(some 45), .mv (.t 8), none⟩, ⟨(some 46), .bin .add (.t 45) (.k (.int .i64 1)), none⟩, ⟨(some 47), .call 111 (.k (.fn (.func 20) [] [])) [(.t 44), (.t 46)], none⟩, ⟨(some 48), .binb .neq (.t 43) (.t 47), none⟩, ⟨(some 49), .mv (.t 48), none⟩, ⟨(some 50), .mv (.t 6), (some (49, false))⟩, ⟨(some 51), .mv (.t 8), (some (49, false))⟩, ⟨(some 52), .ixs 1 (.t 50) (.t 51), (some (49, false))⟩, ⟨(some 53), .ld none (.t 52), (some (49, false))⟩, ⟨(some 54), .bin .eql (.t 53) (.k (.int .i64 0)), (some (49, false))⟩, ⟨(some 55), .mv (.t 1), (some (49, false))⟩, ⟨(some 56), .mv (.t 8), (some (49, false))⟩, ⟨(some 57), .bin .add (.t 56) (.k (.int .i64 1)), (some (49, false))⟩, ⟨(some 58), .call 122 (.k (.fn (.func 20) [] [])) [(.t 55), (.t 57)], (some (49, false))⟩, ⟨(some 59), .binb .neq (.t 54) (.t 58), (some (49, false))⟩, ⟨(some 60), .pick (.t 49) (.k (.bool true)) (.t 59), none⟩] (some [(2, 8), (3, 8), (13, 19), (14, 19)]))
 (.cond (.t 60) (.seq (.reg [⟨(some 4), .mv (.k (.bool false)), none⟩] none)
 .ret) .skip))
 (.seq (.reg [⟨(some 61), .mv (.t 6), none⟩, ⟨(some 62), .mv (.t 8), none⟩, ⟨(some 63), .ixs 1 (.t 61) (.t 62), none⟩, ⟨(some 64), .ld none (.t 63), none⟩, ⟨(some 65), .bin .leq (.t 64) (.k (.int .i64 0)), none⟩, ⟨(some 9), .mv (.t 65), none⟩] none)
 (.seq (.seq (.reg [⟨(some 10), .mv (.k (.int .i64 0)), none⟩] none)
 (.block 2 (.loop (.seq (.seq (.reg [⟨(some 66), .mv (.t 10), none⟩, ⟨(some 67), .mv (.t 6), none⟩, ⟨(some 68), .len (.t 67), none⟩, ⟨(some 69), .bin .lss (.t 66) (.t 68), none⟩] none)
 (.cond (.t 69) .skip (.exit 2)))
 (.seq (.block 3 (.seq (.reg [⟨(some 11), .mv (.k (.int .i64 0)), none⟩] none)
 (.block 4 (.loop (.seq (.seq (.reg [⟨(some 72), .mv (.t 11), none⟩, ⟨(some 73), .fa 0 (.t 2), none⟩, ⟨(some 74), .ld none (.t 73), none⟩, ⟨(some 75), .bin .lss (.t 72) (.t 74), none⟩] none)
 (.cond (.t 75) .skip (.exit 4)))
 (.seq (.block 5 (.seq (.reg [⟨(some 79), .ld (some 2) (.t 2), none⟩, ⟨(some 80), .mv (.t 10), none⟩, ⟨(some 81), .bin .add (.t 80) (.k (.int .i64 1)), none⟩, ⟨(some 82), .mv (.t 11), none⟩, ⟨(some 83), .call 147 (.k (.fn (.func 21) [] [])) [(.t 79), (.t 81), (.t 82)], none⟩, ⟨(some 78), .mv (.t 83), none⟩, ⟨(some 84), .ext (.t 78) 0, none⟩, ⟨(some 85), .ext (.t 78) 1, none⟩, ⟨(some 12), .mv (.t 84), none⟩, ⟨(some 13), .mv (.t 85), none⟩] none)
 (.seq (.seq (.reg [⟨(some 86), .mv (.t 12), none⟩, ⟨(some 87), .mv (.t 8), none⟩, ⟨(some 88), .bin .add (.t 87) (.k (.int .i64 1)), none⟩, ⟨(some 89), .bin .eql (.t 86) (.t 88), none⟩, ⟨(some 90), .mv (.t 89), none⟩, ⟨(some 91), .mv (.t 6), (some (90, true))⟩, ⟨(some 92), .mv (.t 10), (some (90, true))⟩, ⟨(some 93), .ixs 1 (.t 91) (.t 92), (some (90, true))⟩, ⟨(some 94), .ld none (.t 93), (some (90, true))⟩, ⟨(some 95), .bin .geq (.t 94) (.k (.int .i64 0)), (some (90, true))⟩, ⟨(some 96), .pick (.t 90) (.t 95) (.k (.bool false)), none⟩, ⟨(some 97), .mv (.t 96), none⟩, ⟨(some 98), .mv (.t 6), (some (97, true))⟩, ⟨(some 99), .mv (.t 8), (some (97, true))⟩, ⟨(some 100), .ixs 1 (.t 98) (.t 99), (some (97, true))⟩, ⟨(some 101), .ld none (.t 100), (some (97, true))⟩, ⟨(some 102), .mv (.t 6), (some (97, true))⟩, ⟨(some 103), .mv (.t 10), (some (97, true))⟩, ⟨(some 104), .ixs 1 (.t 102) (.t 103), (some (97, true))⟩, ⟨(some 105), .ld none (.t 104), (some (97, true))⟩, ⟨(some 106), .bin .add (.t 105) (.k (.int .i64 1)), (some (97, true))⟩, ⟨(some 107), .bin .gtr (.t 101) (.t 106), (some (97, true))⟩, ⟨(some 108), .pick (.t 97) (.t 107) (.k (.bool false)), none⟩] (some [(14, 18), (15, 18), (14, 19), (15, 19)]))
 (.cond (.t 108) (.seq (.reg [⟨(some 4), .mv (.k (.bool false)), none⟩] none)
 .ret) .skip))
 (.reg [⟨(some 109), .mv (.t 9), none⟩, ⟨(some 110), .mv (.t 109), none⟩, ⟨(some 111), .mv (.t 12), (some (110, false))⟩, ⟨(some 112), .mv (.t 8), (some (110, false))⟩, ⟨(some 113), .bin .add (.t 112) (.k (.int .i64 1)), (some (110, false))⟩, ⟨(some 114), .bin .eql (.t 111) (.t 113), (some (110, false))⟩, ⟨(some 115), .mv (.t 114), (some (110, false))⟩, ⟨(some 116), .mv (.t 6), (some (115, true))⟩, ⟨(some 117), .mv (.t 10), (some (115, true))⟩, ⟨(some 118), .ixs 1 (.t 116) (.t 117), (some (115, true))⟩, ⟨(some 119), .ld none (.t 118), (some (115, true))⟩, ⟨(some 120), .bin .geq (.t 119) (.k (.int .i64 0)), (some (115, true))⟩, ⟨(some 121), .pick (.t 115) (.t 120) (.k (.bool false)), (some (110, false))⟩, ⟨(some 122), .mv (.t 121), (some (110, false))⟩, ⟨(some 123), .mv (.t 6), (some (122, true))⟩, ⟨(some 124), .mv (.t 10), (some (122, true))⟩, ⟨(some 125), .ixs 1 (.t 123) (.t 124), (some (122, true))⟩, ⟨(some 126), .ld none (.t 125), (some (122, true))⟩, ⟨(some 127), .mv (.t 6), (some (122, true))⟩, ⟨(some 128), .mv (.t 8), (some (122, true))⟩, ⟨(some 129), .ixs 1 (.t 127) (.t 128), (some (122, true))⟩, ⟨(some 130), .ld none (.t 129), (some (122, true))⟩, ⟨(some 131), .bin .sub (.t 130) (.k (.int .i64 1)), (some (122, true))⟩, ⟨(some 132), .bin .eql (.t 126) (.t 131), (some (122, true))⟩, ⟨(some 133), .pick (.t 122) (.t 132) (.k (.bool false)), (some (110, false))⟩, ⟨(some 134), .pick (.t 110) (.k (.bool true)) (.t 133), none⟩, ⟨(some 9), .mv (.t 134), none⟩] (some [(16, 20), (17, 20), (16, 21), (17, 21)])))))
 (.reg [⟨(some 76), .mv (.t 11), none⟩, ⟨(some 77), .bin .add (.t 76) (.k (.int .i64 1)), none⟩, ⟨(some 11), .mv (.t 77), none⟩] none)))))))
 (.reg [⟨(some 70), .mv (.t 10), none⟩, ⟨(some 71), .bin .add (.t 70) (.k (.int .i64 1)), none⟩, ⟨(some 10), .mv (.t 71), none⟩] none))))))
 (.seq (.reg [⟨(some 135), .mv (.t 9), none⟩, ⟨(some 136), .un .not (.t 135), none⟩] none)
 (.cond (.t 136) (.seq (.reg [⟨(some 4), .mv (.k (.bool false)), none⟩] none)
 .ret) .skip))))))
 (.reg [⟨(some 37), .mv (.t 8), none⟩, ⟨(some 38), .bin .add (.t 37) (.k (.int .i64 1)), none⟩, ⟨(some 8), .mv (.t 38), none⟩] none))))))
 (.seq (.reg [⟨(some 137), .mv (.t 5), none⟩, ⟨(some 4), .mv (.t 137), none⟩] none)
 .ret)))))))))⟩
/-- besom/besomlaw04.ReachLeast -/
def m7 : MFn := ⟨3, 132, [.tmp 6], (.seq (.reg [⟨(some 3), .box 67 (.t 0), none⟩, ⟨(some 6), .mv (.k (.bool false)), none⟩] none)
 (.seq (.reg [⟨(some 20), .call 84 (.k (.fn (.func 9) [] [])) [], none⟩, ⟨(some 7), .mv (.t 20), none⟩] none)
 (.seq (.seq (.reg [⟨(some 21), .mv (.t 7), none⟩, ⟨(some 22), .un .not (.t 21), none⟩] none)
 (.cond (.t 22) (.seq (.reg [⟨(some 6), .mv (.k (.bool false)), none⟩] none)
 .ret) .skip))
 (.seq (.seq (.reg [⟨(some 23), .ld (some 2) (.t 3), none⟩, ⟨(some 24), .call 88 (.k (.fn (.func 19) [] [])) [(.t 23)], none⟩, ⟨(some 25), .un .not (.t 24), none⟩] none)
 (.cond (.t 25) (.seq (.reg [⟨(some 26), .mv (.t 7), none⟩, ⟨(some 6), .mv (.t 26), none⟩] none)
 .ret) .skip))
 (.seq (.reg [⟨(some 27), .ld (some 2) (.t 3), none⟩, ⟨(some 28), .mv (.t 1), none⟩, ⟨(some 29), .call 93 (.k (.fn (.func 13) [] [])) [(.t 27), (.t 28)], none⟩, ⟨(some 8), .mv (.t 29), none⟩] none)
 (.seq (.reg [⟨(some 30), .fa 1 (.t 3), none⟩, ⟨(some 31), .ld none (.t 30), none⟩, ⟨(some 32), .len (.t 31), none⟩, ⟨(some 9), .mv (.t 32), none⟩] none)
 (.seq (.seq (.reg [⟨(some 10), .mv (.k (.int .i64 1)), none⟩] none)
 (.block 0 (.loop (.seq (.seq (.reg [⟨(some 33), .mv (.t 10), none⟩, ⟨(some 34), .mv (.t 9), none⟩, ⟨(some 35), .bin .leq (.t 33) (.t 34), none⟩] none)
 (.cond (.t 35) .skip (.exit 0)))
 (.seq (.block 1 (.seq (.reg [⟨(some 11), .mv (.k (.int .i64 0)), none⟩] none)
 (.block 2 (.loop (.seq (.seq (.reg [⟨(some 38), .mv (.t 11), none⟩, ⟨(some 39), .fa 0 (.t 3), none⟩, ⟨(some 40), .ld none (.t 39), none⟩, ⟨(some 41), .bin .lss (.t 38) (.t 40), none⟩, ⟨(some 42), .mv (.t 41), none⟩, ⟨(some 43), .mv (.t 8), (some (42, true))⟩, ⟨(some 44), .mv (.t 10), (some (42, true))⟩, ⟨(some 45), .call 109 (.k (.fn (.func 20) [] [])) [(.t 43), (.t 44)], (some (42, true))⟩, ⟨(some 46), .pick (.t 42) (.t 45) (.k (.bool false)), none⟩] none)
 (.cond (.t 46) .skip (.exit 2)))
 (.seq (.block 3 (.seq (.reg [⟨(some 50), .ld (some 2) (.t 3), none⟩, ⟨(some 51), .mv (.t 10), none⟩, ⟨(some 52), .mv (.t 11), none⟩, ⟨(some 53), .call 117 (.k (.fn (.func 21) [] [])) [(.t 50), (.t 51), (.t 52)], none⟩, ⟨(some 49), .mv (.t 53), none⟩, ⟨(some 54), .ext (.t 49) 0, none⟩, ⟨(some 55), .ext (.t 49) 1, none⟩, ⟨(some 12), .mv (.t 54), none⟩, ⟨(some 13), .mv (.t 55), none⟩] none)
 (.seq (.reg [⟨(some 56), .mv (.t 12), none⟩, ⟨(some 57), .bin .neq (.t 56) (.k (.int .i64 0)), none⟩, ⟨(some 58), .mv (.t 57), none⟩, ⟨(some 59), .mv (.t 8), (some (58, true))⟩, ⟨(some 60), .mv (.t 12), (some (58, true))⟩, ⟨(some 61), .call 125 (.k (.fn (.func 20) [] [])) [(.t 59), (.t 60)], (some (58, true))⟩, ⟨(some 62), .un .not (.t 61), (some (58, true))⟩, ⟨(some 63), .pick (.t 58) (.t 62) (.k (.bool false)), none⟩] none)
 (.cond (.t 63) (.seq (.reg [⟨(some 6), .mv (.k (.bool false)), none⟩] none)
 .ret) .skip))))
 (.reg [⟨(some 47), .mv (.t 11), none⟩, ⟨(some 48), .bin .add (.t 47) (.k (.int .i64 1)), none⟩, ⟨(some 11), .mv (.t 48), none⟩] none)))))))
 (.reg [⟨(some 36), .mv (.t 10), none⟩, ⟨(some 37), .bin .add (.t 36) (.k (.int .i64 1)), none⟩, ⟨(some 10), .mv (.t 37), none⟩] none))))))
 (.seq (.reg [⟨(some 64), .mv (.t 2), none⟩, ⟨(some 65), .conv .i64 (.t 64), none⟩, ⟨(some 66), .bin .rem (.t 65) (.k (.int .i64 64)), none⟩, ⟨(some 67), .bin .add (.t 66) (.k (.int .i64 1)), none⟩, ⟨(some 14), .mv (.t 67), none⟩] none)
 (.seq (.reg [⟨(some 68), .mv (.t 1), none⟩, ⟨(some 69), .mv (.t 14), none⟩, ⟨(some 70), .call 134 (.k (.fn (.func 20) [] [])) [(.t 68), (.t 69)], none⟩, ⟨(some 71), .mv (.t 70), none⟩, ⟨(some 72), .mv (.t 14), (some (71, true))⟩, ⟨(some 73), .mv (.t 9), (some (71, true))⟩, ⟨(some 74), .bin .leq (.t 72) (.t 73), (some (71, true))⟩, ⟨(some 75), .pick (.t 71) (.t 74) (.k (.bool false)), none⟩, ⟨(some 15), .mv (.t 75), none⟩] none)
 (.seq (.seq (.reg [⟨(some 16), .mv (.k (.int .i64 1)), none⟩] none)
 (.block 4 (.loop (.seq (.seq (.reg [⟨(some 76), .mv (.t 16), none⟩, ⟨(some 77), .mv (.t 9), none⟩, ⟨(some 78), .bin .leq (.t 76) (.t 77), none⟩] none)
 (.cond (.t 78) .skip (.exit 4)))
 (.seq (.block 5 (.seq (.reg [⟨(some 17), .mv (.k (.int .i64 0)), none⟩] none)
 (.block 6 (.loop (.seq (.seq (.reg [⟨(some 81), .mv (.t 17), none⟩, ⟨(some 82), .fa 0 (.t 3), none⟩, ⟨(some 83), .ld none (.t 82), none⟩, ⟨(some 84), .bin .lss (.t 81) (.t 83), none⟩, ⟨(some 85), .mv (.t 84), none⟩, ⟨(some 86), .mv (.t 16), (some (85, true))⟩, ⟨(some 87), .mv (.t 14), (some (85, true))⟩, ⟨(some 88), .bin .neq (.t 86) (.t 87), (some (85, true))⟩, ⟨(some 89), .pick (.t 85) (.t 88) (.k (.bool false)), none⟩] none)
 (.cond (.t 89) .skip (.exit 6)))
 (.seq (.block 7 (.seq (.reg [⟨(some 93), .ld (some 2) (.t 3), none⟩, ⟨(some 94), .mv (.t 16), none⟩, ⟨(some 95), .mv (.t 17), none⟩, ⟨(some 96), .call 160 (.k (.fn (.func 21) [] [])) [(.t 93), (.t 94), (.t 95)], none⟩, ⟨(some 92), .mv (.t 96), none⟩, ⟨(some 97), .ext (.t 92) 0, none⟩, ⟨(some 98), .ext (.t 92) 1, none⟩, ⟨(some 18), .mv (.t 97), none⟩, ⟨(some 19), .mv (.t 98), none⟩] none)
 (.reg [⟨(some 99), .mv (.t 15), none⟩, ⟨(some 100), .mv (.t 99), none⟩, ⟨(some 101), .mv (.t 18), (some (100, false))⟩, ⟨(some 102), .mv (.t 14), (some (100, false))⟩, ⟨(some 103), .bin .eql (.t 101) (.t 102), (some (100, false))⟩, ⟨(some 104), .mv (.t 103), (some (100, false))⟩, ⟨(some 105), .mv (.t 8), (some (104, true))⟩, ⟨(some 106), .mv (.t 16), (some (104, true))⟩, ⟨(some 107), .call 171 (.k (.fn (.func 20) [] [])) [(.t 105), (.t 106)], (some (104, true))⟩, ⟨(some 108), .pick (.t 104) (.t 107) (.k (.bool false)), (some (100, false))⟩, ⟨(some 109), .pick (.t 100) (.k (.bool true)) (.t 108), none⟩, ⟨(some 15), .mv (.t 109), none⟩] none)))
 (.reg [⟨(some 90), .mv (.t 17), none⟩, ⟨(some 91), .bin .add (.t 90) (.k (.int .i64 1)), none⟩, ⟨(some 17), .mv (.t 91), none⟩] none)))))))
 (.reg [⟨(some 79), .mv (.t 16), none⟩, ⟨(some 80), .bin .add (.t 79) (.k (.int .i64 1)), none⟩, ⟨(some 16), .mv (.t 80), none⟩] none))))))
 (.seq (.reg [⟨(some 110), .mv (.t 7), none⟩, ⟨(some 111), .mv (.t 110), none⟩, ⟨(some 112), .mv (.t 1), (some (111, true))⟩, ⟨(some 113), .mv (.t 9), (some (111, true))⟩, ⟨(some 114), .call 178 (.k (.fn (.func 18) [] [])) [(.t 113)], (some (111, true))⟩, ⟨(some 115), .bin .and (.t 112) (.t 114), (some (111, true))⟩, ⟨(some 116), .mv (.t 8), (some (111, true))⟩, ⟨(some 117), .call 181 (.k (.fn (.func 17) [] [])) [(.t 115), (.t 116)], (some (111, true))⟩, ⟨(some 118), .pick (.t 111) (.t 117) (.k (.bool false)), none⟩, ⟨(some 119), .mv (.t 118), none⟩, ⟨(some 120), .mv (.t 8), (some (119, true))⟩, ⟨(some 121), .mv (.t 9), (some (119, true))⟩, ⟨(some 122), .call 186 (.k (.fn (.func 18) [] [])) [(.t 121)], (some (119, true))⟩, ⟨(some 123), .call 187 (.k (.fn (.func 17) [] [])) [(.t 120), (.t 122)], (some (119, true))⟩, ⟨(some 124), .pick (.t 119) (.t 123) (.k (.bool false)), none⟩, ⟨(some 125), .mv (.t 124), none⟩, ⟨(some 126), .mv (.t 8), (some (125, true))⟩, ⟨(some 127), .mv (.t 14), (some (125, true))⟩, ⟨(some 128), .call 192 (.k (.fn (.func 20) [] [])) [(.t 126), (.t 127)], (some (125, true))⟩, ⟨(some 129), .mv (.t 15), (some (125, true))⟩, ⟨(some 130), .binb .eql (.t 128) (.t 129), (some (125, true))⟩, ⟨(some 131), .pick (.t 125) (.t 130) (.k (.bool false)), none⟩, ⟨(some 6), .mv (.t 131), none⟩] none)
 .ret)))))))))))⟩
/-- besom/besomlaw04.ReachCut -/
def m8 : MFn := ⟨4, 85, [.tmp 8], (.seq (.reg [⟨(some 4), .box 68 (.t 0), none⟩, ⟨(some 8), .mv (.k (.bool false)), none⟩] none)
 (.seq (.reg [⟨(some 17), .call 81 (.k (.fn (.func 9) [] [])) [], none⟩, ⟨(some 9), .mv (.t 17), none⟩] none)
 (.seq (.seq (.reg [⟨(some 18), .mv (.t 9), none⟩, ⟨(some 19), .un .not (.t 18), none⟩] none)
 (.cond (.t 19) (.seq (.reg [⟨(some 8), .mv (.k (.bool false)), none⟩] none)
 .ret) .skip))
 (.seq (.seq (.reg [⟨(some 20), .ld (some 2) (.t 4), none⟩, ⟨(some 21), .call 85 (.k (.fn (.func 19) [] [])) [(.t 20)], none⟩, ⟨(some 22), .un .not (.t 21), none⟩] none)
 (.cond (.t 22) (.seq (.reg [⟨(some 23), .mv (.t 9), none⟩, ⟨(some 8), .mv (.t 23), none⟩] none)
 .ret) .skip))
 (.seq (.reg [⟨(some 24), .mv (.t 2), none⟩, ⟨(some 25), .bin .rem (.t 24) (.k (.int .u8 8)), none⟩, ⟨(some 26), .conv .i64 (.t 25), none⟩, ⟨(some 27), .bin .add (.t 26) (.k (.int .i64 1)), none⟩, ⟨(some 10), .mv (.t 27), none⟩] none)
 (.seq (.reg [⟨(some 28), .ld (some 2) (.t 4), none⟩, ⟨(some 29), .mv (.t 1), none⟩, ⟨(some 30), .call 94 (.k (.fn (.func 13) [] [])) [(.t 28), (.t 29)], none⟩, ⟨(some 11), .mv (.t 30), none⟩] none)
 (.seq (.reg [⟨(some 32), .ld (some 2) (.t 4), none⟩, ⟨(some 33), .mv (.t 10), none⟩, ⟨(some 34), .mv (.t 3), none⟩, ⟨(some 35), .bin .rem (.t 34) (.k (.int .u8 4)), none⟩, ⟨(some 36), .conv .i64 (.t 35), none⟩, ⟨(some 37), .call 101 (.k (.fn (.func 21) [] [])) [(.t 32), (.t 33), (.t 36)], none⟩, ⟨(some 31), .mv (.t 37), none⟩, ⟨(some 38), .ext (.t 31) 0, none⟩, ⟨(some 39), .ext (.t 31) 1, none⟩, ⟨(some 12), .mv (.t 38), none⟩, ⟨(some 13), .mv (.t 39), none⟩] none)
 (.seq (.reg [⟨(some 41), .ld (some 2) (.t 4), none⟩, ⟨(some 42), .mv (.t 10), none⟩, ⟨(some 43), .mv (.t 3), none⟩, ⟨(some 44), .bin .rem (.t 43) (.k (.int .u8 4)), none⟩, ⟨(some 45), .conv .i64 (.t 44), none⟩, ⟨(some 46), .call 110 (.k (.fn (.func 22) [] [])) [(.t 41), (.t 42), (.t 45), (.k (.int .i64 0))], none⟩, ⟨(some 40), .mv (.t 46), none⟩, ⟨(some 47), .ext (.t 40) 0, none⟩, ⟨(some 48), .ext (.t 40) 1, none⟩, ⟨(some 14), .alloc 78 [(.int .i64 0), .nils], none⟩, ⟨none, .st 2 (.t 14) (.t 47), none⟩, ⟨(some 15), .mv (.t 48), none⟩] none)
 (.seq (.reg [⟨(some 49), .ld (some 2) (.t 14), none⟩, ⟨(some 50), .mv (.t 1), none⟩, ⟨(some 51), .call 115 (.k (.fn (.func 13) [] [])) [(.t 49), (.t 50)], none⟩, ⟨(some 16), .mv (.t 51), none⟩] none)
 (.seq (.seq (.reg [⟨(some 52), .mv (.t 13), none⟩, ⟨(some 53), .un .not (.t 52), none⟩, ⟨(some 54), .mv (.t 53), none⟩, ⟨(some 55), .mv (.t 12), (some (54, false))⟩, ⟨(some 56), .bin .eql (.t 55) (.k (.int .i64 0)), (some (54, false))⟩, ⟨(some 57), .pick (.t 54) (.k (.bool true)) (.t 56), none⟩, ⟨(some 58), .mv (.t 57), none⟩, ⟨(some 59), .mv (.t 11), (some (58, false))⟩, ⟨(some 60), .mv (.t 10), (some (58, false))⟩, ⟨(some 61), .call 125 (.k (.fn (.func 20) [] [])) [(.t 59), (.t 60)], (some (58, false))⟩, ⟨(some 62), .un .not (.t 61), (some (58, false))⟩, ⟨(some 63), .pick (.t 58) (.k (.bool true)) (.t 62), none⟩] none)
 (.cond (.t 63) (.seq (.reg [⟨(some 64), .mv (.t 9), none⟩, ⟨(some 65), .mv (.t 64), none⟩, ⟨(some 66), .mv (.t 11), (some (65, true))⟩, ⟨(some 67), .mv (.t 16), (some (65, true))⟩, ⟨(some 68), .bin .eql (.t 66) (.t 67), (some (65, true))⟩, ⟨(some 69), .pick (.t 65) (.t 68) (.k (.bool false)), none⟩, ⟨(some 8), .mv (.t 69), none⟩] none)
 .ret) .skip))
 (.seq (.reg [⟨(some 70), .mv (.t 9), none⟩, ⟨(some 71), .mv (.t 70), none⟩, ⟨(some 72), .mv (.t 16), (some (71, true))⟩, ⟨(some 73), .mv (.t 11), (some (71, true))⟩, ⟨(some 74), .call 138 (.k (.fn (.func 17) [] [])) [(.t 72), (.t 73)], (some (71, true))⟩, ⟨(some 75), .pick (.t 71) (.t 74) (.k (.bool false)), none⟩, ⟨(some 76), .mv (.t 75), none⟩, ⟨(some 77), .mv (.t 16), (some (76, true))⟩, ⟨(some 78), .mv (.t 11), (some (76, true))⟩, ⟨(some 79), .bin .eql (.t 77) (.t 78), (some (76, true))⟩, ⟨(some 80), .mv (.t 16), (some (76, true))⟩, ⟨(some 81), .mv (.t 12), (some (76, true))⟩, ⟨(some 82), .call 146 (.k (.fn (.func 20) [] [])) [(.t 80), (.t 81)], (some (76, true))⟩, ⟨(some 83), .binb .eql (.t 79) (.t 82), (some (76, true))⟩, ⟨(some 84), .pick (.t 76) (.t 83) (.k (.bool false)), none⟩, ⟨(some 8), .mv (.t 84), none⟩] none)
 .ret)))))))))))⟩
/-- besom/besomlaw04.examples -/
def m9 : MFn := ⟨0, 66, [.tmp 0], (.seq (.reg [⟨(some 0), .mv (.k (.bool false)), none⟩] none)
 (.seq (.reg [⟨(some 3), .bslt 1 [(.k (.int .i64 2))], none⟩, ⟨(some 4), .bslt 1 [(.k (.int .i64 3))], none⟩, ⟨(some 5), .bslt 1 [(.k (.int .i64 1))], none⟩, ⟨(some 6), .bslt 1 [(.k (.int .i64 0))], none⟩, ⟨(some 7), .bslt 1 [(.t 3), (.t 4), (.t 5), (.t 6)], none⟩, ⟨(some 8), .bld [(.int .i64 0), .nils] [(0, 1, (.k (.int .i64 1))), (1, 1, (.t 7))], none⟩, ⟨(some 1), .alloc 65 [(.int .i64 0), .nils], none⟩, ⟨none, .st 2 (.t 1) (.t 8), none⟩] none)
 (.seq (.reg [⟨(some 9), .ld (some 2) (.t 1), none⟩, ⟨(some 10), .call 74 (.k (.fn (.func 11) [] [])) [(.t 9), (.k (.int .u64 2))], none⟩, ⟨(some 2), .mv (.t 10), none⟩] none)
 (.seq (.seq (.reg [⟨(some 11), .mv (.t 2), none⟩, ⟨(some 12), .len (.t 11), none⟩, ⟨(some 13), .bin .neq (.t 12) (.k (.int .i64 4)), none⟩] none)
 (.cond (.t 13) (.seq (.reg [⟨(some 0), .mv (.k (.bool false)), none⟩] none)
 .ret) .skip))
 (.seq (.reg [⟨(some 14), .ld (some 2) (.t 1), none⟩, ⟨(some 15), .call 79 (.k (.fn (.func 13) [] [])) [(.t 14), (.k (.int .u64 1))], none⟩, ⟨(some 16), .bin .eql (.t 15) (.k (.int .u64 7)), none⟩, ⟨(some 17), .mv (.t 16), none⟩, ⟨(some 18), .ld (some 2) (.t 1), (some (17, true))⟩, ⟨(some 19), .call 83 (.k (.fn (.func 13) [] [])) [(.t 18), (.k (.int .u64 8))], (some (17, true))⟩, ⟨(some 20), .bin .eql (.t 19) (.k (.int .u64 8)), (some (17, true))⟩, ⟨(some 21), .pick (.t 17) (.t 20) (.k (.bool false)), none⟩, ⟨(some 22), .mv (.t 21), none⟩, ⟨(some 23), .ld (some 2) (.t 1), (some (22, true))⟩, ⟨(some 24), .call 88 (.k (.fn (.func 13) [] [])) [(.t 23), (.k (.int .u64 0))], (some (22, true))⟩, ⟨(some 25), .bin .eql (.t 24) (.k (.int .u64 0)), (some (22, true))⟩, ⟨(some 26), .pick (.t 22) (.t 25) (.k (.bool false)), none⟩, ⟨(some 27), .mv (.t 26), none⟩, ⟨(some 28), .ld (some 2) (.t 1), (some (27, true))⟩, ⟨(some 29), .call 93 (.k (.fn (.func 13) [] [])) [(.t 28), (.k (.int .u64 1099511627776))], (some (27, true))⟩, ⟨(some 30), .bin .eql (.t 29) (.k (.int .u64 0)), (some (27, true))⟩, ⟨(some 31), .pick (.t 27) (.t 30) (.k (.bool false)), none⟩, ⟨(some 32), .mv (.t 31), none⟩, ⟨(some 33), .mv (.t 2), (some (32, true))⟩, ⟨(some 34), .ixs 1 (.t 33) (.k (.int .i64 0)), (some (32, true))⟩, ⟨(some 35), .ld none (.t 34), (some (32, true))⟩, ⟨(some 36), .bin .eql (.t 35) (.k (.int .i64 2)), (some (32, true))⟩, ⟨(some 37), .pick (.t 32) (.t 36) (.k (.bool false)), none⟩, ⟨(some 38), .mv (.t 37), none⟩, ⟨(some 39), .mv (.t 2), (some (38, true))⟩, ⟨(some 40), .ixs 1 (.t 39) (.k (.int .i64 1)), (some (38, true))⟩, ⟨(some 41), .ld none (.t 40), (some (38, true))⟩, ⟨(some 42), .bin .eql (.t 41) (.k (.int .i64 0)), (some (38, true))⟩, ⟨(some 43), .pick (.t 38) (.t 42) (.k (.bool false)), none⟩, ⟨(some 44), .mv (.t 43), none⟩, ⟨(some 45), .mv (.t 2), (some (44, true))⟩, ⟨(some 46), .ixs 1 (.t 45) (.k (.int .i64 2)), (some (44, true))⟩, ⟨(some 47), .ld none (.t 46), (some (44, true))⟩, ⟨(some 48), .bin .eql (.t 47) (.k (.int .i64 1)), (some (44, true))⟩, ⟨(some 49), .pick (.t 44) (.t 48) (.k (.bool false)), none⟩, ⟨(some 50), .mv (.t 49), none⟩, ⟨(some 51), .mv (.t 2), (some (50, true))⟩, ⟨(some 52), .ixs 1 (.t 51) (.k (.int .i64 3)), (some (50, true))⟩, ⟨(some 53), .ld none (.t 52), (some (50, true))⟩, ⟨(some 54), .bin .eql (.t 53) (.k (.int .i64 (-1))), (some (50, true))⟩, ⟨(some 55), .pick (.t 50) (.t 54) (.k (.bool false)), none⟩, ⟨(some 56), .mv (.t 55), none⟩, ⟨(some 57), .ld (some 2) (.t 1), (some (56, true))⟩, ⟨(some 58), .call 122 (.k (.fn (.func 15) [] [])) [(.t 57), (.k (.int .u64 1)), (.k (.int .u64 0))], (some (56, true))⟩, ⟨(some 59), .bin .eql (.t 58) (.k (.int .u64 3)), (some (56, true))⟩, ⟨(some 60), .pick (.t 56) (.t 59) (.k (.bool false)), none⟩, ⟨(some 61), .mv (.t 60), none⟩, ⟨(some 62), .ld (some 2) (.t 1), (some (61, true))⟩, ⟨(some 63), .call 127 (.k (.fn (.func 15) [] [])) [(.t 62), (.k (.int .u64 1)), (.k (.int .u64 2))], (some (61, true))⟩, ⟨(some 64), .bin .eql (.t 63) (.k (.int .u64 7)), (some (61, true))⟩, ⟨(some 65), .pick (.t 61) (.t 64) (.k (.bool false)), none⟩, ⟨(some 0), .mv (.t 65), none⟩] none)
 .ret)))))⟩
/-- besom/besomlaw04.refHeap -/
def m10 : MFn := ⟨1, 8, [.cell 2 (some 2)], (.seq (.reg [⟨(some 1), .box 65 (.t 0), none⟩, ⟨(some 2), .alloc 66 [(.int .i64 0), .nils], none⟩] none)
 (.seq (.reg [⟨(some 3), .fa 0 (.t 1), none⟩, ⟨(some 4), .ld none (.t 3), none⟩, ⟨(some 5), .fa 1 (.t 1), none⟩, ⟨(some 6), .ld none (.t 5), none⟩, ⟨(some 7), .bld [(.int .i64 0), .nils] [(0, 1, (.t 4)), (1, 1, (.t 6))], none⟩, ⟨none, .st 2 (.t 2) (.t 7), none⟩] none)
 .ret))⟩
/-- besom/reach.Dist -/
def m11 : MFn := ⟨2, 29, [.tmp 4], (.seq (.reg [⟨(some 2), .box 66 (.t 0), none⟩, ⟨(some 4), .mv (.k .nils), none⟩] none)
 (.seq (.reg [⟨(some 8), .ld (some 2) (.t 2), none⟩, ⟨(some 9), .mv (.t 1), none⟩, ⟨(some 10), .call 74 (.k (.fn (.func 23) [] [])) [(.t 8), (.t 9), (.k (.fn (.func 24) [] []))], none⟩, ⟨(some 5), .alloca 69 [(.int .i64 0), (.int .i64 0), (.int .i64 0), (.int .i64 0), (.int .i64 0), (.int .i64 0), (.int .i64 0), (.int .i64 0), (.int .i64 0), (.int .i64 0), (.int .i64 0), (.int .i64 0), (.int .i64 0), (.int .i64 0), (.int .i64 0), (.int .i64 0), (.int .i64 0), (.int .i64 0), (.int .i64 0), (.int .i64 0), (.int .i64 0), (.int .i64 0), (.int .i64 0), (.int .i64 0), (.int .i64 0), (.int .i64 0), (.int .i64 0), (.int .i64 0), (.int .i64 0), (.int .i64 0), (.int .i64 0), (.int .i64 0), (.int .i64 0), (.int .i64 0), (.int .i64 0), (.int .i64 0), (.int .i64 0), (.int .i64 0), (.int .i64 0), (.int .i64 0), (.int .i64 0), (.int .i64 0), (.int .i64 0), (.int .i64 0), (.int .i64 0), (.int .i64 0), (.int .i64 0), (.int .i64 0), (.int .i64 0), (.int .i64 0), (.int .i64 0), (.int .i64 0), (.int .i64 0), (.int .i64 0), (.int .i64 0), (.int .i64 0), (.int .i64 0), (.int .i64 0), (.int .i64 0), (.int .i64 0), (.int .i64 0), (.int .i64 0), (.int .i64 0), (.int .i64 0)], none⟩, ⟨none, .st 64 (.t 5) (.t 10), none⟩] none)
 (.seq (.reg [⟨(some 11), .fa 1 (.t 2), none⟩, ⟨(some 12), .ld none (.t 11), none⟩, ⟨(some 13), .len (.t 12), none⟩, ⟨(some 14), .mn (.t 13) (.k (.int .i64 64)), none⟩, ⟨(some 15), .slp 1 64 (.t 5) none (some (.t 14)), none⟩, ⟨(some 6), .mv (.t 15), none⟩] none)
 (.seq (.seq (.reg [⟨(some 16), .mv (.t 6), none⟩, ⟨(some 17), .len (.t 16), none⟩, ⟨(some 18), .mv (.k (.int .i64 0)), none⟩] none)
 (.block 0 (.loop (.seq (.reg [⟨(some 19), .bin .lss (.t 18) (.t 17), none⟩] none)
 (.seq (.cond (.t 19) .skip (.exit 0))
 (.seq (.block 1 (.seq (.reg [⟨(some 20), .mv (.t 18), none⟩, ⟨(some 7), .mv (.t 20), none⟩] none)
 (.reg [⟨(some 21), .mv (.t 6), none⟩, ⟨(some 22), .mv (.t 7), none⟩, ⟨(some 23), .ixs 1 (.t 21) (.t 22), none⟩, ⟨(some 24), .ld none (.t 23), none⟩, ⟨(some 25), .bin .sub (.t 24) (.k (.int .i64 1)), none⟩, ⟨(some 26), .ixs 1 (.t 21) (.t 22), none⟩, ⟨none, .st 1 (.t 26) (.t 25), none⟩] none)))
 (.reg [⟨(some 27), .bin .add (.t 18) (.k (.int .i64 1)), none⟩, ⟨(some 18), .mv (.t 27), none⟩] none)))))))
 (.seq (.reg [⟨(some 28), .mv (.t 6), none⟩, ⟨(some 4), .mv (.t 28), none⟩] none)
 .ret)))))⟩
/-- besom/besomref04.Dist -/
def m12 : MFn := ⟨2, 69, [.tmp 4], (.seq (.reg [⟨(some 2), .box 66 (.t 0), none⟩, ⟨(some 4), .mv (.k .nils), none⟩] none)
 (.seq (.reg [⟨(some 12), .fa 1 (.t 2), none⟩, ⟨(some 13), .ld none (.t 12), none⟩, ⟨(some 14), .len (.t 13), none⟩, ⟨(some 15), .mn (.t 14) (.k (.int .i64 64)), none⟩, ⟨(some 5), .mv (.t 15), none⟩] none)
 (.seq (.reg [⟨(some 16), .mv (.t 5), none⟩, ⟨(some 17), .mks 81 1 8 (.int .i64 0) (.t 16), none⟩, ⟨(some 6), .mv (.t 17), none⟩] none)
 (.seq (.reg [⟨(some 18), .mv (.t 1), none⟩, ⟨(some 19), .ld (some 2) (.t 2), none⟩, ⟨(some 20), .call 84 (.k (.fn (.func 25) [] [])) [(.t 19)], none⟩, ⟨(some 21), .bin .and (.t 18) (.t 20), none⟩, ⟨(some 7), .mv (.t 21), none⟩] none)
 (.seq (.seq (.reg [⟨(some 8), .mv (.k (.int .i64 0)), none⟩] none)
 (.block 0 (.loop (.seq (.seq (.reg [⟨(some 22), .mv (.t 8), none⟩, ⟨(some 23), .mv (.t 5), none⟩, ⟨(some 24), .bin .lss (.t 22) (.t 23), none⟩] none)
 (.cond (.t 24) .skip (.exit 0)))
 (.seq (.block 1 (.seq (.reg [⟨(some 27), .mv (.t 6), none⟩, ⟨(some 28), .mv (.t 8), none⟩, ⟨(some 29), .ixs 1 (.t 27) (.t 28), none⟩, ⟨none, .st 1 (.t 29) (.k (.int .i64 (-1))), none⟩] none)
 (.seq (.reg [⟨(some 30), .mv (.t 7), none⟩, ⟨(some 31), .mv (.t 8), none⟩, ⟨(some 32), .bin .add (.t 31) (.k (.int .i64 1)), none⟩, ⟨(some 33), .call 97 (.k (.fn (.func 26) [] [])) [(.t 30), (.t 32)], none⟩] none)
 (.cond (.t 33) (.reg [⟨(some 34), .mv (.t 6), none⟩, ⟨(some 35), .mv (.t 8), none⟩, ⟨(some 36), .ixs 1 (.t 34) (.t 35), none⟩, ⟨none, .st 1 (.t 36) (.k (.int .i64 0)), none⟩] none) .skip))))
 (.reg [⟨(some 25), .mv (.t 8), none⟩, ⟨(some 26), .bin .add (.t 25) (.k (.int .i64 1)), none⟩, ⟨(some 8), .mv (.t 26), none⟩] none))))))
 (.seq (.seq (.reg [⟨(some 9), .mv (.k (.int .i64 1)), none⟩] none)
 (.block 2 (.loop (.seq (.seq (.reg [⟨(some 37), .mv (.t 9), none⟩, ⟨(some 38), .mv (.t 5), none⟩, ⟨(some 39), .bin .leq (.t 37) (.t 38), none⟩] none)
 (.cond (.t 39) .skip (.exit 2)))
 (.seq (.block 3 (.seq (.reg [⟨(some 42), .ld (some 2) (.t 2), none⟩, ⟨(some 43), .mv (.t 7), none⟩, ⟨(some 44), .call 108 (.k (.fn (.func 27) [] [])) [(.t 42), (.t 43)], none⟩, ⟨(some 10), .mv (.t 44), none⟩] none)
 (.seq (.seq (.reg [⟨(some 11), .mv (.k (.int .i64 0)), none⟩] none)
 (.block 4 (.loop (.seq (.seq (.reg [⟨(some 45), .mv (.t 11), none⟩, ⟨(some 46), .mv (.t 5), none⟩, ⟨(some 47), .bin .lss (.t 45) (.t 46), none⟩] none)
 (.cond (.t 47) .skip (.exit 4)))
 (.seq (.block 5 (.seq (.reg [⟨(some 50), .mv (.t 10), none⟩, ⟨(some 51), .mv (.t 11), none⟩, ⟨(some 52), .bin .add (.t 51) (.k (.int .i64 1)), none⟩, ⟨(some 53), .call 117 (.k (.fn (.func 26) [] [])) [(.t 50), (.t 52)], none⟩, ⟨(some 54), .mv (.t 53), none⟩, ⟨(some 55), .mv (.t 6), (some (54, true))⟩, ⟨(some 56), .mv (.t 11), (some (54, true))⟩, ⟨(some 57), .ixs 1 (.t 55) (.t 56), (some (54, true))⟩, ⟨(some 58), .ld none (.t 57), (some (54, true))⟩, ⟨(some 59), .bin .lss (.t 58) (.k (.int .i64 0)), (some (54, true))⟩, ⟨(some 60), .pick (.t 54) (.t 59) (.k (.bool false)), none⟩] none)
 (.cond (.t 60) (.reg [⟨(some 61), .mv (.t 6), none⟩, ⟨(some 62), .mv (.t 11), none⟩, ⟨(some 63), .mv (.t 9), none⟩, ⟨(some 64), .ixs 1 (.t 61) (.t 62), none⟩, ⟨none, .st 1 (.t 64) (.t 63), none⟩] none) .skip)))
 (.reg [⟨(some 48), .mv (.t 11), none⟩, ⟨(some 49), .bin .add (.t 48) (.k (.int .i64 1)), none⟩, ⟨(some 11), .mv (.t 49), none⟩] none))))))
 (.reg [⟨(some 65), .mv (.t 7), none⟩, ⟨(some 66), .mv (.t 10), none⟩, ⟨(some 67), .bin .or (.t 65) (.t 66), none⟩, ⟨(some 7), .mv (.t 67), none⟩] none))))
 (.reg [⟨(some 40), .mv (.t 9), none⟩, ⟨(some 41), .bin .add (.t 40) (.k (.int .i64 1)), none⟩, ⟨(some 9), .mv (.t 41), none⟩] none))))))
 (.seq (.reg [⟨(some 68), .mv (.t 6), none⟩, ⟨(some 4), .mv (.t 68), none⟩] none)
 .ret)))))))⟩
/-- besom/reach.From -/
def m13 : MFn := ⟨2, 9, [.tmp 4], (.seq (.reg [⟨(some 2), .box 66 (.t 0), none⟩, ⟨(some 4), .mv (.k (.int .u64 0)), none⟩] none)
 (.seq (.reg [⟨(some 5), .ld (some 2) (.t 2), none⟩, ⟨(some 6), .mv (.t 1), none⟩, ⟨(some 7), .call 71 (.k (.fn (.func 23) [] [])) [(.t 5), (.t 6), (.k (.fn (.func 29) [] []))], none⟩, ⟨(some 8), .call 72 (.k (.fn (.func 28) [] [])) [(.t 7)], none⟩, ⟨(some 4), .mv (.t 8), none⟩] none)
 .ret))⟩
/-- besom/besomref04.From -/
def m14 : MFn := ⟨2, 10, [.tmp 4], (.seq (.reg [⟨(some 2), .box 66 (.t 0), none⟩, ⟨(some 4), .mv (.k (.int .u64 0)), none⟩] none)
 (.seq (.reg [⟨(some 5), .ld (some 2) (.t 2), none⟩, ⟨(some 6), .mv (.t 1), none⟩, ⟨(some 7), .ld (some 2) (.t 2), none⟩, ⟨(some 8), .call 72 (.k (.fn (.func 25) [] [])) [(.t 7)], none⟩, ⟨(some 9), .call 73 (.k (.fn (.func 16) [] [])) [(.t 5), (.t 6), (.t 8)], none⟩, ⟨(some 4), .mv (.t 9), none⟩] (some [(0, 2), (0, 3)]))
 .ret))⟩
/-- besom/reach.Via -/
def m15 : MFn := ⟨3, 12, [.tmp 6], (.seq (.reg [⟨(some 3), .box 67 (.t 0), none⟩, ⟨(some 4), .box 68 (.t 1), none⟩, ⟨(some 5), .box 69 (.t 2), none⟩, ⟨(some 6), .mv (.k (.int .u64 0)), none⟩] none)
 (.seq (.reg [⟨(some 7), .ld (some 2) (.t 3), none⟩, ⟨(some 8), .ld none (.t 4), none⟩, ⟨(some 9), .mkf (.func 30) [] [(.t 4), (.t 5)], none⟩, ⟨(some 10), .call 74 (.k (.fn (.func 23) [] [])) [(.t 7), (.t 8), (.t 9)], none⟩, ⟨(some 11), .call 75 (.k (.fn (.func 28) [] [])) [(.t 10)], none⟩, ⟨(some 6), .mv (.t 11), none⟩] none)
 .ret))⟩
/-- besom/besomref04.Via -/
def m16 : MFn := ⟨3, 28, [.tmp 6], (.seq (.reg [⟨(some 3), .box 67 (.t 0), none⟩, ⟨(some 6), .mv (.k (.int .u64 0)), none⟩] none)
 (.seq (.reg [⟨(some 9), .mv (.t 1), none⟩, ⟨(some 10), .ld (some 2) (.t 3), none⟩, ⟨(some 11), .call 75 (.k (.fn (.func 25) [] [])) [(.t 10)], none⟩, ⟨(some 12), .bin .and (.t 9) (.t 11), none⟩, ⟨(some 1), .mv (.t 12), none⟩] none)
 (.seq (.reg [⟨(some 13), .mv (.t 1), none⟩, ⟨(some 7), .mv (.t 13), none⟩] none)
 (.block 0 (.loop (.block 1 (.seq (.reg [⟨(some 14), .mv (.t 7), none⟩, ⟨(some 15), .ld (some 2) (.t 3), none⟩, ⟨(some 16), .mv (.t 7), none⟩, ⟨(some 17), .mv (.t 1), none⟩, ⟨(some 18), .mv (.t 2), none⟩, ⟨(some 19), .bin .or (.t 17) (.t 18), none⟩, ⟨(some 20), .bin .and (.t 16) (.t 19), none⟩, ⟨(some 21), .call 85 (.k (.fn (.func 27) [] [])) [(.t 15), (.t 20)], none⟩, ⟨(some 22), .bin .or (.t 14) (.t 21), none⟩, ⟨(some 8), .mv (.t 22), none⟩] none)
 (.seq (.seq (.reg [⟨(some 23), .mv (.t 8), none⟩, ⟨(some 24), .mv (.t 7), none⟩, ⟨(some 25), .bin .eql (.t 23) (.t 24), none⟩] none)
 (.cond (.t 25) (.seq (.reg [⟨(some 26), .mv (.t 7), none⟩, ⟨(some 6), .mv (.t 26), none⟩] none)
 .ret) .skip))
 (.reg [⟨(some 27), .mv (.t 8), none⟩, ⟨(some 7), .mv (.t 27), none⟩] none)))))))))⟩
/-- besom/set.Under -/
def m17 : MFn := ⟨2, 9, [.tmp 4], (.seq (.reg [⟨(some 4), .mv (.k (.bool false)), none⟩] none)
 (.seq (.reg [⟨(some 5), .mv (.t 0), none⟩, ⟨(some 6), .mv (.t 1), none⟩, ⟨(some 7), .bin .andNot (.t 5) (.t 6), none⟩, ⟨(some 8), .bin .eql (.t 7) (.k (.int .u64 0)), none⟩, ⟨(some 4), .mv (.t 8), none⟩] none)
 .ret))⟩
/-- besom/set.First -/
def m18 : MFn := ⟨1, 9, [.tmp 2], (.seq (.reg [⟨(some 2), .mv (.k (.int .u64 0)), none⟩] none)
 (.seq (.seq (.reg [⟨(some 3), .mv (.t 0), none⟩, ⟨(some 4), .bin .lss (.t 3) (.k (.int .i64 1)), none⟩] none)
 (.cond (.t 4) (.seq (.reg [⟨(some 2), .mv (.k (.int .u64 0)), none⟩] none)
 .ret) .skip))
 (.seq (.reg [⟨(some 5), .mv (.t 0), none⟩, ⟨(some 6), .mn (.t 5) (.k (.int .i64 64)), none⟩, ⟨(some 7), .bin .sub (.k (.int .i64 64)) (.t 6), none⟩, ⟨(some 8), .bin .shr (.k (.int .u64 18446744073709551615)) (.t 7), none⟩, ⟨(some 2), .mv (.t 8), none⟩] none)
 .ret)))⟩
/-- besom/heap.Right -/
def m19 : MFn := ⟨1, 26, [.tmp 2], (.seq (.reg [⟨(some 1), .box 65 (.t 0), none⟩, ⟨(some 2), .mv (.k (.bool false)), none⟩] none)
 (.seq (.reg [⟨(some 4), .mkf (.func 31) [] [(.t 1)], none⟩, ⟨(some 3), .mv (.t 4), none⟩] none)
 (.seq (.reg [⟨(some 5), .fa 0 (.t 1), none⟩, ⟨(some 6), .ld none (.t 5), none⟩, ⟨(some 7), .bin .geq (.t 6) (.k (.int .i64 1)), none⟩, ⟨(some 8), .mv (.t 7), none⟩, ⟨(some 9), .fa 0 (.t 1), (some (8, true))⟩, ⟨(some 10), .ld none (.t 9), (some (8, true))⟩, ⟨(some 11), .bin .leq (.t 10) (.k (.int .i64 4)), (some (8, true))⟩, ⟨(some 12), .pick (.t 8) (.t 11) (.k (.bool false)), none⟩, ⟨(some 13), .mv (.t 12), none⟩, ⟨(some 14), .fa 1 (.t 1), (some (13, true))⟩, ⟨(some 15), .ld none (.t 14), (some (13, true))⟩, ⟨(some 16), .len (.t 15), (some (13, true))⟩, ⟨(some 17), .bin .leq (.t 16) (.k (.int .i64 64)), (some (13, true))⟩, ⟨(some 18), .pick (.t 13) (.t 17) (.k (.bool false)), none⟩, ⟨(some 19), .mv (.t 18), none⟩, ⟨(some 20), .fa 1 (.t 1), (some (19, true))⟩, ⟨(some 21), .ld none (.t 20), (some (19, true))⟩, ⟨(some 22), .mv (.t 3), (some (19, true))⟩, ⟨(some 23), .call 87 (.k (.fn (.func 34) [] [])) [(.t 21), (.t 22)], (some (19, true))⟩, ⟨(some 24), .un .not (.t 23), (some (19, true))⟩, ⟨(some 25), .pick (.t 19) (.t 24) (.k (.bool false)), none⟩, ⟨(some 2), .mv (.t 25), none⟩] none)
 .ret)))⟩
/-- besom/set.Has -/
def m20 : MFn := ⟨2, 10, [.tmp 4], (.seq (.reg [⟨(some 4), .mv (.k (.bool false)), none⟩] none)
 (.seq (.reg [⟨(some 5), .mv (.t 0), none⟩, ⟨(some 6), .mv (.t 1), none⟩, ⟨(some 7), .call 71 (.k (.fn (.func 35) [] [])) [(.t 6)], none⟩, ⟨(some 8), .bin .and (.t 5) (.t 7), none⟩, ⟨(some 9), .bin .neq (.t 8) (.k (.int .u64 0)), none⟩, ⟨(some 4), .mv (.t 9), none⟩] none)
 .ret))⟩
/-- besom/heap.Get -/
def m21 : MFn := ⟨3, 22, [.tmp 6, .tmp 7], (.seq (.reg [⟨(some 3), .box 67 (.t 0), none⟩, ⟨(some 6), .mv (.k (.int .i64 0)), none⟩, ⟨(some 7), .mv (.k (.bool false)), none⟩] none)
 (.seq (.seq (.reg [⟨(some 8), .ld (some 2) (.t 3), none⟩, ⟨(some 9), .mv (.t 1), none⟩, ⟨(some 10), .mv (.t 2), none⟩, ⟨(some 11), .call 75 (.k (.fn (.func 36) [] [])) [(.t 8), (.t 9), (.t 10)], none⟩, ⟨(some 12), .un .not (.t 11), none⟩] none)
 (.cond (.t 12) (.seq (.reg [⟨(some 6), .mv (.k (.int .i64 0)), none⟩, ⟨(some 7), .mv (.k (.bool false)), none⟩] none)
 .ret) .skip))
 (.seq (.reg [⟨(some 13), .fa 1 (.t 3), none⟩, ⟨(some 14), .ld none (.t 13), none⟩, ⟨(some 15), .mv (.t 1), none⟩, ⟨(some 16), .bin .sub (.t 15) (.k (.int .i64 1)), none⟩, ⟨(some 17), .ixs 1 (.t 14) (.t 16), none⟩, ⟨(some 18), .ld none (.t 17), none⟩, ⟨(some 19), .mv (.t 2), none⟩, ⟨(some 20), .ixs 1 (.t 18) (.t 19), none⟩, ⟨(some 21), .ld none (.t 20), none⟩, ⟨(some 6), .mv (.t 21), none⟩, ⟨(some 7), .mv (.k (.bool true)), none⟩] none)
 .ret)))⟩
/-- besom/heap.Put -/
def m22 : MFn := ⟨4, 53, [.cell 8 (some 2), .tmp 9], (.seq (.reg [⟨(some 4), .box 68 (.t 0), none⟩, ⟨(some 8), .alloc 72 [(.int .i64 0), .nils], none⟩, ⟨(some 9), .mv (.k (.bool false)), none⟩] none)
 (.seq (.seq (.reg [⟨(some 10), .ld (some 2) (.t 4), none⟩, ⟨(some 11), .mv (.t 1), none⟩, ⟨(some 12), .mv (.t 2), none⟩, ⟨(some 13), .call 77 (.k (.fn (.func 36) [] [])) [(.t 10), (.t 11), (.t 12)], none⟩, ⟨(some 14), .un .not (.t 13), none⟩, ⟨(some 15), .mv (.t 14), none⟩, ⟨(some 16), .mv (.t 3), (some (15, false))⟩, ⟨(some 17), .bin .lss (.t 16) (.k (.int .i64 0)), (some (15, false))⟩, ⟨(some 18), .pick (.t 15) (.k (.bool true)) (.t 17), none⟩, ⟨(some 19), .mv (.t 18), none⟩, ⟨(some 20), .mv (.t 3), (some (19, false))⟩, ⟨(some 21), .fa 1 (.t 4), (some (19, false))⟩, ⟨(some 22), .ld none (.t 21), (some (19, false))⟩, ⟨(some 23), .len (.t 22), (some (19, false))⟩, ⟨(some 24), .bin .gtr (.t 20) (.t 23), (some (19, false))⟩, ⟨(some 25), .pick (.t 19) (.k (.bool true)) (.t 24), none⟩] none)
 (.cond (.t 25) (.seq (.reg [⟨(some 26), .ld (some 2) (.t 4), none⟩, ⟨none, .st 2 (.t 8) (.t 26), none⟩, ⟨(some 9), .mv (.k (.bool false)), none⟩] none)
 .ret) .skip))
 (.seq (.reg [⟨(some 27), .fa 1 (.t 4), none⟩, ⟨(some 28), .ld none (.t 27), none⟩, ⟨(some 29), .call 93 (.k (.fn (.func 37) [] [])) [(.t 28)], none⟩, ⟨(some 30), .fa 1 (.t 4), none⟩, ⟨none, .st 1 (.t 30) (.t 29), none⟩] none)
 (.seq (.reg [⟨(some 31), .fa 1 (.t 4), none⟩, ⟨(some 32), .ld none (.t 31), none⟩, ⟨(some 33), .mv (.t 1), none⟩, ⟨(some 34), .bin .sub (.t 33) (.k (.int .i64 1)), none⟩, ⟨(some 35), .fa 1 (.t 4), none⟩, ⟨(some 36), .ld none (.t 35), none⟩, ⟨(some 37), .mv (.t 1), none⟩, ⟨(some 38), .bin .sub (.t 37) (.k (.int .i64 1)), none⟩, ⟨(some 39), .ixs 1 (.t 36) (.t 38), none⟩, ⟨(some 40), .ld none (.t 39), none⟩, ⟨(some 41), .call 105 (.k (.fn (.func 38) [] [])) [(.t 40)], none⟩, ⟨(some 42), .ixs 1 (.t 32) (.t 34), none⟩, ⟨none, .st 1 (.t 42) (.t 41), none⟩] (some [(1, 5), (1, 8), (1, 9), (1, 10)]))
 (.seq (.reg [⟨(some 43), .fa 1 (.t 4), none⟩, ⟨(some 44), .ld none (.t 43), none⟩, ⟨(some 45), .mv (.t 1), none⟩, ⟨(some 46), .bin .sub (.t 45) (.k (.int .i64 1)), none⟩, ⟨(some 47), .ixs 1 (.t 44) (.t 46), none⟩, ⟨(some 48), .ld none (.t 47), none⟩, ⟨(some 49), .mv (.t 2), none⟩, ⟨(some 50), .mv (.t 3), none⟩, ⟨(some 51), .ixs 1 (.t 48) (.t 49), none⟩, ⟨none, .st 1 (.t 51) (.t 50), none⟩] none)
 (.seq (.reg [⟨(some 52), .ld (some 2) (.t 4), none⟩, ⟨none, .st 2 (.t 8) (.t 52), none⟩, ⟨(some 9), .mv (.k (.bool true)), none⟩] none)
 .ret))))))⟩
/-- besom/reach.walk -/
def m23 : MFn := ⟨3, 80, [.cell 6 (some 64)], (.seq (.reg [⟨(some 3), .box 67 (.t 0), none⟩, ⟨(some 6), .alloca 70 [(.int .i64 0), (.int .i64 0), (.int .i64 0), (.int .i64 0), (.int .i64 0), (.int .i64 0), (.int .i64 0), (.int .i64 0), (.int .i64 0), (.int .i64 0), (.int .i64 0), (.int .i64 0), (.int .i64 0), (.int .i64 0), (.int .i64 0), (.int .i64 0), (.int .i64 0), (.int .i64 0), (.int .i64 0), (.int .i64 0), (.int .i64 0), (.int .i64 0), (.int .i64 0), (.int .i64 0), (.int .i64 0), (.int .i64 0), (.int .i64 0), (.int .i64 0), (.int .i64 0), (.int .i64 0), (.int .i64 0), (.int .i64 0), (.int .i64 0), (.int .i64 0), (.int .i64 0), (.int .i64 0), (.int .i64 0), (.int .i64 0), (.int .i64 0), (.int .i64 0), (.int .i64 0), (.int .i64 0), (.int .i64 0), (.int .i64 0), (.int .i64 0), (.int .i64 0), (.int .i64 0), (.int .i64 0), (.int .i64 0), (.int .i64 0), (.int .i64 0), (.int .i64 0), (.int .i64 0), (.int .i64 0), (.int .i64 0), (.int .i64 0), (.int .i64 0), (.int .i64 0), (.int .i64 0), (.int .i64 0), (.int .i64 0), (.int .i64 0), (.int .i64 0), (.int .i64 0)], none⟩] none)
 (.seq (.reg [⟨(some 7), .alloca 71 [(.int .i64 0), (.int .i64 0), (.int .i64 0), (.int .i64 0), (.int .i64 0), (.int .i64 0), (.int .i64 0), (.int .i64 0), (.int .i64 0), (.int .i64 0), (.int .i64 0), (.int .i64 0), (.int .i64 0), (.int .i64 0), (.int .i64 0), (.int .i64 0), (.int .i64 0), (.int .i64 0), (.int .i64 0), (.int .i64 0), (.int .i64 0), (.int .i64 0), (.int .i64 0), (.int .i64 0), (.int .i64 0), (.int .i64 0), (.int .i64 0), (.int .i64 0), (.int .i64 0), (.int .i64 0), (.int .i64 0), (.int .i64 0), (.int .i64 0), (.int .i64 0), (.int .i64 0), (.int .i64 0), (.int .i64 0), (.int .i64 0), (.int .i64 0), (.int .i64 0), (.int .i64 0), (.int .i64 0), (.int .i64 0), (.int .i64 0), (.int .i64 0), (.int .i64 0), (.int .i64 0), (.int .i64 0), (.int .i64 0), (.int .i64 0), (.int .i64 0), (.int .i64 0), (.int .i64 0), (.int .i64 0), (.int .i64 0), (.int .i64 0), (.int .i64 0), (.int .i64 0), (.int .i64 0), (.int .i64 0), (.int .i64 0), (.int .i64 0), (.int .i64 0), (.int .i64 0)], none⟩] none)
 (.seq (.reg [⟨(some 15), .fa 1 (.t 3), none⟩, ⟨(some 16), .ld none (.t 15), none⟩, ⟨(some 17), .len (.t 16), none⟩, ⟨(some 18), .call 82 (.k (.fn (.func 18) [] [])) [(.t 17)], none⟩, ⟨(some 8), .mv (.t 18), none⟩] none)
 (.seq (.reg [⟨(some 19), .mv (.t 1), none⟩, ⟨(some 20), .mv (.t 8), none⟩, ⟨(some 21), .bin .and (.t 19) (.t 20), none⟩, ⟨(some 22), .call 86 (.k (.fn (.func 39) [] [])) [(.t 21)], none⟩, ⟨(some 9), .mv (.t 22), none⟩] none)
 (.seq (.seq (.reg [⟨(some 23), .mv (.t 9), none⟩, ⟨(some 24), .len (.t 23), none⟩, ⟨(some 25), .mv (.k (.int .i64 0)), none⟩] none)
 (.block 0 (.loop (.seq (.reg [⟨(some 26), .bin .lss (.t 25) (.t 24), none⟩] none)
 (.seq (.cond (.t 26) .skip (.exit 0))
 (.seq (.block 1 (.seq (.reg [⟨(some 27), .ixs 1 (.t 23) (.t 25), none⟩, ⟨(some 28), .ld none (.t 27), none⟩, ⟨(some 11), .mv (.t 28), none⟩] none)
 (.reg [⟨(some 29), .mv (.t 11), none⟩, ⟨(some 30), .bin .sub (.t 29) (.k (.int .i64 1)), none⟩, ⟨(some 31), .ixa 64 1 (.t 7) (.t 30), none⟩, ⟨none, .st 1 (.t 31) (.k (.int .i64 1)), none⟩] none)))
 (.reg [⟨(some 32), .bin .add (.t 25) (.k (.int .i64 1)), none⟩, ⟨(some 25), .mv (.t 32), none⟩] none)))))))
 (.seq (.block 2 (.loop (.seq (.seq (.reg [⟨(some 33), .mv (.t 9), none⟩, ⟨(some 34), .len (.t 33), none⟩, ⟨(some 35), .bin .gtr (.t 34) (.k (.int .i64 0)), none⟩] none)
 (.cond (.t 35) .skip (.exit 2)))
 (.seq (.block 3 (.seq (.reg [⟨(some 38), .mv (.t 9), none⟩, ⟨(some 39), .ixs 1 (.t 38) (.k (.int .i64 0)), none⟩, ⟨(some 40), .ld none (.t 39), none⟩, ⟨(some 12), .mv (.t 40), none⟩] none)
 (.seq (.seq (.reg [⟨(some 41), .mv (.t 2), none⟩, ⟨(some 42), .mv (.t 12), none⟩, ⟨(some 43), .call 107 (.t 41) [(.t 42)], none⟩, ⟨(some 44), .un .not (.t 43), none⟩] none)
 (.cond (.t 44) (.exit 3) .skip))
 (.seq (.reg [⟨(some 45), .fa 1 (.t 3), none⟩, ⟨(some 46), .ld none (.t 45), none⟩, ⟨(some 47), .mv (.t 12), none⟩, ⟨(some 48), .bin .sub (.t 47) (.k (.int .i64 1)), none⟩, ⟨(some 49), .ixs 1 (.t 46) (.t 48), none⟩, ⟨(some 50), .ld none (.t 49), none⟩, ⟨(some 51), .len (.t 50), none⟩, ⟨(some 52), .mv (.k (.int .i64 0)), none⟩] none)
 (.block 4 (.loop (.seq (.reg [⟨(some 53), .bin .lss (.t 52) (.t 51), none⟩] none)
 (.seq (.cond (.t 53) .skip (.exit 4))
 (.seq (.block 5 (.seq (.reg [⟨(some 54), .ixs 1 (.t 50) (.t 52), none⟩, ⟨(some 55), .ld none (.t 54), none⟩, ⟨(some 14), .mv (.t 55), none⟩] none)
 (.seq (.reg [⟨(some 56), .mv (.t 8), none⟩, ⟨(some 57), .mv (.t 14), none⟩, ⟨(some 58), .call 122 (.k (.fn (.func 20) [] [])) [(.t 56), (.t 57)], none⟩, ⟨(some 59), .mv (.t 58), none⟩, ⟨(some 60), .mv (.t 14), (some (59, true))⟩, ⟨(some 61), .bin .sub (.t 60) (.k (.int .i64 1)), (some (59, true))⟩, ⟨(some 62), .ixa 64 1 (.t 7) (.t 61), (some (59, true))⟩, ⟨(some 63), .ld none (.t 62), (some (59, true))⟩, ⟨(some 64), .bin .eql (.t 63) (.k (.int .i64 0)), (some (59, true))⟩, ⟨(some 65), .pick (.t 59) (.t 64) (.k (.bool false)), none⟩] none)
 (.cond (.t 65) (.seq (.reg [⟨(some 66), .mv (.t 14), none⟩, ⟨(some 67), .bin .sub (.t 66) (.k (.int .i64 1)), none⟩, ⟨(some 68), .mv (.t 12), none⟩, ⟨(some 69), .bin .sub (.t 68) (.k (.int .i64 1)), none⟩, ⟨(some 70), .ixa 64 1 (.t 7) (.t 69), none⟩, ⟨(some 71), .ld none (.t 70), none⟩, ⟨(some 72), .bin .add (.t 71) (.k (.int .i64 1)), none⟩, ⟨(some 73), .ixa 64 1 (.t 7) (.t 67), none⟩, ⟨none, .st 1 (.t 73) (.t 72), none⟩] none)
 (.reg [⟨(some 74), .mv (.t 9), none⟩, ⟨(some 75), .mv (.t 14), none⟩, ⟨(some 76), .bslt 1 [(.t 75)], none⟩, ⟨(some 77), .app 141 1 8 (.t 74) (.t 76), none⟩, ⟨(some 9), .mv (.t 77), none⟩] none)) .skip))))
 (.reg [⟨(some 78), .bin .add (.t 52) (.k (.int .i64 1)), none⟩, ⟨(some 52), .mv (.t 78), none⟩] none))))))))))
 (.reg [⟨(some 36), .mv (.t 9), none⟩, ⟨(some 37), .sll 1 (.t 36) (some (.k (.int .i64 1))) none, none⟩, ⟨(some 9), .mv (.t 37), none⟩] none)))))
 (.seq (.reg [⟨(some 79), .ld (some 64) (.t 7), none⟩, ⟨none, .st 64 (.t 6) (.t 79), none⟩] none)
 .ret)))))))⟩
/-- besom/reach.Dist$1 -/
def m24 : MFn := ⟨1, 3, [.tmp 2], (.seq (.reg [⟨(some 2), .mv (.k (.bool false)), none⟩] none)
 (.seq (.reg [⟨(some 2), .mv (.k (.bool true)), none⟩] none)
 .ret))⟩
/-- besom/besomref04.own -/
def m25 : MFn := ⟨1, 7, [.tmp 2], (.seq (.reg [⟨(some 1), .box 65 (.t 0), none⟩, ⟨(some 2), .mv (.k (.int .u64 0)), none⟩] none)
 (.seq (.reg [⟨(some 3), .fa 1 (.t 1), none⟩, ⟨(some 4), .ld none (.t 3), none⟩, ⟨(some 5), .len (.t 4), none⟩, ⟨(some 6), .call 70 (.k (.fn (.func 40) [] [])) [(.t 5)], none⟩, ⟨(some 2), .mv (.t 6), none⟩] none)
 .ret))⟩
/-- besom/besomref02.Has -/
def m26 : MFn := ⟨2, 15, [.tmp 4], (.seq (.reg [⟨(some 4), .mv (.k (.bool false)), none⟩] none)
 (.seq (.reg [⟨(some 5), .mv (.t 1), none⟩, ⟨(some 6), .call 70 (.k (.fn (.func 41) [] [])) [(.t 5)], none⟩, ⟨(some 7), .mv (.t 6), none⟩, ⟨(some 8), .mv (.t 0), (some (7, true))⟩, ⟨(some 9), .mv (.t 1), (some (7, true))⟩, ⟨(some 10), .bin .sub (.t 9) (.k (.int .i64 1)), (some (7, true))⟩, ⟨(some 11), .bin .shr (.t 8) (.t 10), (some (7, true))⟩, ⟨(some 12), .bin .rem (.t 11) (.k (.int .u64 2)), (some (7, true))⟩, ⟨(some 13), .bin .eql (.t 12) (.k (.int .u64 1)), (some (7, true))⟩, ⟨(some 14), .pick (.t 7) (.t 13) (.k (.bool false)), none⟩, ⟨(some 4), .mv (.t 14), none⟩] none)
 .ret))⟩
/-- besom/besomref04.next -/
def m27 : MFn := ⟨2, 32, [.tmp 4], (.seq (.reg [⟨(some 2), .box 66 (.t 0), none⟩, ⟨(some 4), .mv (.k (.int .u64 0)), none⟩] none)
 (.seq (.reg [⟨(some 5), .mv (.k (.int .u64 0)), none⟩] none)
 (.seq (.reg [⟨(some 8), .mv (.t 1), none⟩, ⟨(some 9), .call 73 (.k (.fn (.func 42) [] [])) [(.t 8)], none⟩, ⟨(some 6), .mv (.t 9), none⟩] none)
 (.seq (.seq (.reg [⟨(some 7), .mv (.k (.int .i64 0)), none⟩] none)
 (.block 0 (.loop (.seq (.seq (.reg [⟨(some 10), .mv (.t 7), none⟩, ⟨(some 11), .mv (.t 6), none⟩, ⟨(some 12), .len (.t 11), none⟩, ⟨(some 13), .bin .lss (.t 10) (.t 12), none⟩] none)
 (.cond (.t 13) .skip (.exit 0)))
 (.seq (.block 1 (.reg [⟨(some 16), .mv (.t 5), none⟩, ⟨(some 17), .fa 1 (.t 2), none⟩, ⟨(some 18), .ld none (.t 17), none⟩, ⟨(some 19), .mv (.t 6), none⟩, ⟨(some 20), .mv (.t 7), none⟩, ⟨(some 21), .ixs 1 (.t 19) (.t 20), none⟩, ⟨(some 22), .ld none (.t 21), none⟩, ⟨(some 23), .bin .sub (.t 22) (.k (.int .i64 1)), none⟩, ⟨(some 24), .ixs 1 (.t 18) (.t 23), none⟩, ⟨(some 25), .ld none (.t 24), none⟩, ⟨(some 26), .call 90 (.k (.fn (.func 43) [] [])) [(.t 25)], none⟩, ⟨(some 27), .ld (some 2) (.t 2), none⟩, ⟨(some 28), .call 92 (.k (.fn (.func 25) [] [])) [(.t 27)], none⟩, ⟨(some 29), .bin .and (.t 26) (.t 28), none⟩, ⟨(some 30), .bin .or (.t 16) (.t 29), none⟩, ⟨(some 5), .mv (.t 30), none⟩] (some [(2, 5), (2, 6), (2, 11), (5, 11), (6, 11), (8, 11), (9, 11), (10, 11)])))
 (.reg [⟨(some 14), .mv (.t 7), none⟩, ⟨(some 15), .bin .add (.t 14) (.k (.int .i64 1)), none⟩, ⟨(some 7), .mv (.t 15), none⟩] none))))))
 (.seq (.reg [⟨(some 31), .mv (.t 5), none⟩, ⟨(some 4), .mv (.t 31), none⟩] none)
 .ret)))))⟩
/-- besom/reach.gathered -/
def m28 : MFn := ⟨1, 19, [.tmp 2], (.seq (.reg [⟨(some 1), .boxa 65 (.t 0), none⟩, ⟨(some 2), .mv (.k (.int .u64 0)), none⟩] none)
 (.seq (.reg [⟨(some 3), .mv (.k (.int .u64 0)), none⟩] none)
 (.seq (.seq (.reg [⟨(some 6), .ld (some 64) (.t 1), none⟩, ⟨(some 7), .mv (.k (.int .i64 0)), none⟩] none)
 (.block 0 (.loop (.seq (.reg [⟨(some 8), .bin .lss (.t 7) (.k (.int .i64 64)), none⟩] none)
 (.seq (.cond (.t 8) .skip (.exit 0))
 (.seq (.block 1 (.seq (.reg [⟨(some 9), .mv (.t 7), none⟩, ⟨(some 10), .ixv 64 (.t 6) (.t 7), none⟩, ⟨(some 4), .mv (.t 9), none⟩, ⟨(some 5), .mv (.t 10), none⟩] none)
 (.seq (.reg [⟨(some 11), .mv (.t 5), none⟩, ⟨(some 12), .bin .gtr (.t 11) (.k (.int .i64 0)), none⟩] none)
 (.cond (.t 12) (.reg [⟨(some 13), .mv (.t 3), none⟩, ⟨(some 14), .mv (.t 4), none⟩, ⟨(some 15), .bin .add (.t 14) (.k (.int .i64 1)), none⟩, ⟨(some 16), .call 80 (.k (.fn (.func 44) [] [])) [(.t 13), (.t 15)], none⟩, ⟨(some 3), .mv (.t 16), none⟩] none) .skip))))
 (.reg [⟨(some 17), .bin .add (.t 7) (.k (.int .i64 1)), none⟩, ⟨(some 7), .mv (.t 17), none⟩] none)))))))
 (.seq (.reg [⟨(some 18), .mv (.t 3), none⟩, ⟨(some 2), .mv (.t 18), none⟩] none)
 .ret))))⟩
/-- besom/reach.From$1 -/
def m29 : MFn := ⟨1, 3, [.tmp 2], (.seq (.reg [⟨(some 2), .mv (.k (.bool false)), none⟩] none)
 (.seq (.reg [⟨(some 2), .mv (.k (.bool true)), none⟩] none)
 .ret))⟩
/-- besom/reach.Via$1 -/
def m30 : MFn := ⟨3, 10, [.tmp 4], (.seq (.reg [⟨(some 4), .mv (.k (.bool false)), none⟩] none)
 (.seq (.reg [⟨(some 5), .ld none (.t 1), none⟩, ⟨(some 6), .ld none (.t 2), none⟩, ⟨(some 7), .bin .or (.t 5) (.t 6), none⟩, ⟨(some 8), .mv (.t 0), none⟩, ⟨(some 9), .call 73 (.k (.fn (.func 20) [] [])) [(.t 7), (.t 8)], none⟩, ⟨(some 4), .mv (.t 9), none⟩] none)
 .ret))⟩
/-- besom/heap.Right$1 -/
def m31 : MFn := ⟨2, 14, [.tmp 3], (.seq (.reg [⟨(some 3), .mv (.k (.bool false)), none⟩] none)
 (.seq (.reg [⟨(some 4), .mv (.t 0), none⟩, ⟨(some 5), .len (.t 4), none⟩, ⟨(some 6), .fa 0 (.t 1), none⟩, ⟨(some 7), .ld none (.t 6), none⟩, ⟨(some 8), .bin .neq (.t 5) (.t 7), none⟩, ⟨(some 9), .mv (.t 8), none⟩, ⟨(some 10), .mv (.t 0), (some (9, false))⟩, ⟨(some 11), .mkf (.func 33) [] [(.t 1)], (some (9, false))⟩, ⟨(some 12), .call 76 (.k (.fn (.func 32) [] [])) [(.t 10), (.t 11)], (some (9, false))⟩, ⟨(some 13), .pick (.t 9) (.k (.bool true)) (.t 12), none⟩, ⟨(some 3), .mv (.t 13), none⟩] none)
 .ret))⟩
/-- slices.ContainsFunc[[]int,int] -/
def m32 : MFn := ⟨2, 9, [.tmp 4], (.seq (.reg [⟨(some 4), .mv (.k (.bool false)), none⟩] none)
 (.seq (.reg [⟨(some 5), .mv (.t 0), none⟩, ⟨(some 6), .mv (.t 1), none⟩, ⟨(some 7), .call 71 (.k (.fn (.func 45) [] [])) [(.t 5), (.t 6)], none⟩, ⟨(some 8), .bin .geq (.t 7) (.k (.int .i64 0)), none⟩, ⟨(some 4), .mv (.t 8), none⟩] none)
 .ret))⟩
/-- besom/heap.Right$1$1 -/
def m33 : MFn := ⟨2, 13, [.tmp 3], (.seq (.reg [⟨(some 3), .mv (.k (.bool false)), none⟩] none)
 (.seq (.reg [⟨(some 4), .mv (.t 0), none⟩, ⟨(some 5), .bin .lss (.t 4) (.k (.int .i64 0)), none⟩, ⟨(some 6), .mv (.t 5), none⟩, ⟨(some 7), .mv (.t 0), (some (6, false))⟩, ⟨(some 8), .fa 1 (.t 1), (some (6, false))⟩, ⟨(some 9), .ld none (.t 8), (some (6, false))⟩, ⟨(some 10), .len (.t 9), (some (6, false))⟩, ⟨(some 11), .bin .gtr (.t 7) (.t 10), (some (6, false))⟩, ⟨(some 12), .pick (.t 6) (.k (.bool true)) (.t 11), none⟩, ⟨(some 3), .mv (.t 12), none⟩] none)
 .ret))⟩
/-- slices.ContainsFunc[[][]int,[]int] -/
def m34 : MFn := ⟨2, 9, [.tmp 4], (.seq (.reg [⟨(some 4), .mv (.k (.bool false)), none⟩] none)
 (.seq (.reg [⟨(some 5), .mv (.t 0), none⟩, ⟨(some 6), .mv (.t 1), none⟩, ⟨(some 7), .call 71 (.k (.fn (.func 46) [] [])) [(.t 5), (.t 6)], none⟩, ⟨(some 8), .bin .geq (.t 7) (.k (.int .i64 0)), none⟩, ⟨(some 4), .mv (.t 8), none⟩] none)
 .ret))⟩
/-- besom/set.bit -/
def m35 : MFn := ⟨1, 12, [.tmp 2], (.seq (.reg [⟨(some 2), .mv (.k (.int .u64 0)), none⟩] none)
 (.seq (.seq (.reg [⟨(some 3), .mv (.t 0), none⟩, ⟨(some 4), .bin .lss (.t 3) (.k (.int .i64 1)), none⟩, ⟨(some 5), .mv (.t 4), none⟩, ⟨(some 6), .mv (.t 0), (some (5, false))⟩, ⟨(some 7), .bin .gtr (.t 6) (.k (.int .i64 64)), (some (5, false))⟩, ⟨(some 8), .pick (.t 5) (.k (.bool true)) (.t 7), none⟩] none)
 (.cond (.t 8) (.seq (.reg [⟨(some 2), .mv (.k (.int .u64 0)), none⟩] none)
 .ret) .skip))
 (.seq (.reg [⟨(some 9), .mv (.t 0), none⟩, ⟨(some 10), .bin .sub (.t 9) (.k (.int .i64 1)), none⟩, ⟨(some 11), .bin .shl (.k (.int .u64 1)) (.t 10), none⟩, ⟨(some 2), .mv (.t 11), none⟩] none)
 .ret)))⟩
/-- (besom/heap.Heap).there -/
def m36 : MFn := ⟨3, 31, [.tmp 6], (.seq (.reg [⟨(some 3), .box 67 (.t 0), none⟩, ⟨(some 6), .mv (.k (.bool false)), none⟩] none)
 (.seq (.reg [⟨(some 7), .mv (.t 1), none⟩, ⟨(some 8), .bin .geq (.t 7) (.k (.int .i64 1)), none⟩, ⟨(some 9), .mv (.t 8), none⟩, ⟨(some 10), .mv (.t 1), (some (9, true))⟩, ⟨(some 11), .fa 1 (.t 3), (some (9, true))⟩, ⟨(some 12), .ld none (.t 11), (some (9, true))⟩, ⟨(some 13), .len (.t 12), (some (9, true))⟩, ⟨(some 14), .bin .leq (.t 10) (.t 13), (some (9, true))⟩, ⟨(some 15), .pick (.t 9) (.t 14) (.k (.bool false)), none⟩, ⟨(some 16), .mv (.t 15), none⟩, ⟨(some 17), .mv (.t 2), (some (16, true))⟩, ⟨(some 18), .bin .geq (.t 17) (.k (.int .i64 0)), (some (16, true))⟩, ⟨(some 19), .pick (.t 16) (.t 18) (.k (.bool false)), none⟩, ⟨(some 20), .mv (.t 19), none⟩, ⟨(some 21), .mv (.t 2), (some (20, true))⟩, ⟨(some 22), .fa 1 (.t 3), (some (20, true))⟩, ⟨(some 23), .ld none (.t 22), (some (20, true))⟩, ⟨(some 24), .mv (.t 1), (some (20, true))⟩, ⟨(some 25), .bin .sub (.t 24) (.k (.int .i64 1)), (some (20, true))⟩, ⟨(some 26), .ixs 1 (.t 23) (.t 25), (some (20, true))⟩, ⟨(some 27), .ld none (.t 26), (some (20, true))⟩, ⟨(some 28), .len (.t 27), (some (20, true))⟩, ⟨(some 29), .bin .lss (.t 21) (.t 28), (some (20, true))⟩, ⟨(some 30), .pick (.t 20) (.t 29) (.k (.bool false)), none⟩, ⟨(some 6), .mv (.t 30), none⟩] none)
 .ret))⟩
/-- slices.Clone[[][]int,[]int] -/
def m37 : MFn := ⟨1, 8, [.tmp 2], (.seq (.reg [⟨(some 2), .mv (.k .nils), none⟩] none)
 (.seq (.seq (.reg [⟨(some 3), .mv (.t 0), none⟩, ⟨(some 4), .isn 0 false (.t 3), none⟩] none)
 (.cond (.t 4) (.seq (.reg [⟨(some 2), .mv (.k .nils), none⟩] none)
 .ret) .skip))
 (.seq (.reg [⟨(some 5), .bslt 1 [], none⟩, ⟨(some 6), .mv (.t 0), none⟩, ⟨(some 7), .app 71 1 24 (.t 5) (.t 6), none⟩, ⟨(some 2), .mv (.t 7), none⟩] none)
 .ret)))⟩
/-- slices.Clone[[]int,int] -/
def m38 : MFn := ⟨1, 8, [.tmp 2], (.seq (.reg [⟨(some 2), .mv (.k .nils), none⟩] none)
 (.seq (.seq (.reg [⟨(some 3), .mv (.t 0), none⟩, ⟨(some 4), .isn 0 false (.t 3), none⟩] none)
 (.cond (.t 4) (.seq (.reg [⟨(some 2), .mv (.k .nils), none⟩] none)
 .ret) .skip))
 (.seq (.reg [⟨(some 5), .bslt 1 [], none⟩, ⟨(some 6), .mv (.t 0), none⟩, ⟨(some 7), .app 71 1 8 (.t 5) (.t 6), none⟩, ⟨(some 2), .mv (.t 7), none⟩] none)
 .ret)))⟩
/-- besom/besomref02.First -/
def m40 : MFn := ⟨1, 18, [.tmp 2], (.seq (.reg [⟨(some 2), .mv (.k (.int .u64 0)), none⟩] none)
 (.seq (.reg [⟨(some 3), .mv (.k (.int .u64 0)), none⟩] none)
 (.seq (.seq (.reg [⟨(some 4), .mv (.k (.int .i64 1)), none⟩] none)
 (.block 0 (.loop (.seq (.seq (.reg [⟨(some 5), .mv (.t 4), none⟩, ⟨(some 6), .mv (.t 0), none⟩, ⟨(some 7), .bin .leq (.t 5) (.t 6), none⟩, ⟨(some 8), .mv (.t 7), none⟩, ⟨(some 9), .mv (.t 4), (some (8, true))⟩, ⟨(some 10), .bin .leq (.t 9) (.k (.int .i64 64)), (some (8, true))⟩, ⟨(some 11), .pick (.t 8) (.t 10) (.k (.bool false)), none⟩] none)
 (.cond (.t 11) .skip (.exit 0)))
 (.seq (.block 1 (.reg [⟨(some 14), .mv (.t 3), none⟩, ⟨(some 15), .mv (.t 4), none⟩, ⟨(some 16), .call 80 (.k (.fn (.func 48) [] [])) [(.t 14), (.t 15)], none⟩, ⟨(some 3), .mv (.t 16), none⟩] none))
 (.reg [⟨(some 12), .mv (.t 4), none⟩, ⟨(some 13), .bin .add (.t 12) (.k (.int .i64 1)), none⟩, ⟨(some 4), .mv (.t 13), none⟩] none))))))
 (.seq (.reg [⟨(some 17), .mv (.t 3), none⟩, ⟨(some 2), .mv (.t 17), none⟩] none)
 .ret))))⟩
/-- besom/besomref02.object -/
def m41 : MFn := ⟨1, 9, [.tmp 2], (.seq (.reg [⟨(some 2), .mv (.k (.bool false)), none⟩] none)
 (.seq (.reg [⟨(some 3), .mv (.t 0), none⟩, ⟨(some 4), .bin .geq (.t 3) (.k (.int .i64 1)), none⟩, ⟨(some 5), .mv (.t 4), none⟩, ⟨(some 6), .mv (.t 0), (some (5, true))⟩, ⟨(some 7), .bin .leq (.t 6) (.k (.int .i64 64)), (some (5, true))⟩, ⟨(some 8), .pick (.t 5) (.t 7) (.k (.bool false)), none⟩, ⟨(some 2), .mv (.t 8), none⟩] none)
 .ret))⟩
/-- besom/besomref02.List -/
def m42 : MFn := ⟨1, 17, [.tmp 2], (.seq (.reg [⟨(some 2), .mv (.k .nils), none⟩] none)
 (.seq (.reg [⟨(some 3), .mv (.k .nils), none⟩] none)
 (.seq (.seq (.reg [⟨(some 4), .mv (.k (.int .i64 1)), none⟩] none)
 (.block 0 (.loop (.seq (.seq (.reg [⟨(some 5), .mv (.t 4), none⟩, ⟨(some 6), .bin .leq (.t 5) (.k (.int .i64 64)), none⟩] none)
 (.cond (.t 6) .skip (.exit 0)))
 (.seq (.block 1 (.seq (.reg [⟨(some 9), .mv (.t 0), none⟩, ⟨(some 10), .mv (.t 4), none⟩, ⟨(some 11), .call 75 (.k (.fn (.func 26) [] [])) [(.t 9), (.t 10)], none⟩] none)
 (.cond (.t 11) (.reg [⟨(some 12), .mv (.t 3), none⟩, ⟨(some 13), .mv (.t 4), none⟩, ⟨(some 14), .bslt 1 [(.t 13)], none⟩, ⟨(some 15), .app 79 1 8 (.t 12) (.t 14), none⟩, ⟨(some 3), .mv (.t 15), none⟩] none) .skip)))
 (.reg [⟨(some 7), .mv (.t 4), none⟩, ⟨(some 8), .bin .add (.t 7) (.k (.int .i64 1)), none⟩, ⟨(some 4), .mv (.t 8), none⟩] none))))))
 (.seq (.reg [⟨(some 16), .mv (.t 3), none⟩, ⟨(some 2), .mv (.t 16), none⟩] none)
 .ret))))⟩
/-- besom/besomref02.Of -/
def m43 : MFn := ⟨1, 18, [.tmp 2], (.seq (.reg [⟨(some 2), .mv (.k (.int .u64 0)), none⟩] none)
 (.seq (.reg [⟨(some 3), .mv (.k (.int .u64 0)), none⟩] none)
 (.seq (.seq (.reg [⟨(some 4), .mv (.k (.int .i64 0)), none⟩] none)
 (.block 0 (.loop (.seq (.seq (.reg [⟨(some 5), .mv (.t 4), none⟩, ⟨(some 6), .mv (.t 0), none⟩, ⟨(some 7), .len (.t 6), none⟩, ⟨(some 8), .bin .lss (.t 5) (.t 7), none⟩] none)
 (.cond (.t 8) .skip (.exit 0)))
 (.seq (.block 1 (.reg [⟨(some 11), .mv (.t 3), none⟩, ⟨(some 12), .mv (.t 0), none⟩, ⟨(some 13), .mv (.t 4), none⟩, ⟨(some 14), .ixs 1 (.t 12) (.t 13), none⟩, ⟨(some 15), .ld none (.t 14), none⟩, ⟨(some 16), .call 80 (.k (.fn (.func 48) [] [])) [(.t 11), (.t 15)], none⟩, ⟨(some 3), .mv (.t 16), none⟩] none))
 (.reg [⟨(some 9), .mv (.t 4), none⟩, ⟨(some 10), .bin .add (.t 9) (.k (.int .i64 1)), none⟩, ⟨(some 4), .mv (.t 10), none⟩] none))))))
 (.seq (.reg [⟨(some 17), .mv (.t 3), none⟩, ⟨(some 2), .mv (.t 17), none⟩] none)
 .ret))))⟩
/-- besom/set.Add -/
def m44 : MFn := ⟨2, 9, [.tmp 4], (.seq (.reg [⟨(some 4), .mv (.k (.int .u64 0)), none⟩] none)
 (.seq (.reg [⟨(some 5), .mv (.t 0), none⟩, ⟨(some 6), .mv (.t 1), none⟩, ⟨(some 7), .call 71 (.k (.fn (.func 35) [] [])) [(.t 6)], none⟩, ⟨(some 8), .bin .or (.t 5) (.t 7), none⟩, ⟨(some 4), .mv (.t 8), none⟩] none)
 .ret))⟩
/-- slices.IndexFunc[[]int,int] -/
def m45 : MFn := ⟨2, 19, [.tmp 4], (.seq (.reg [⟨(some 4), .mv (.k (.int .i64 0)), none⟩] none)
 (.seq (.seq (.reg [⟨(some 6), .mv (.t 0), none⟩, ⟨(some 7), .len (.t 6), none⟩, ⟨(some 8), .mv (.k (.int .i64 0)), none⟩] none)
 (.block 0 (.loop (.seq (.reg [⟨(some 9), .bin .lss (.t 8) (.t 7), none⟩] none)
 (.seq (.cond (.t 9) .skip (.exit 0))
 (.seq (.block 1 (.seq (.reg [⟨(some 10), .mv (.t 8), none⟩, ⟨(some 5), .mv (.t 10), none⟩] none)
 (.seq (.reg [⟨(some 11), .mv (.t 1), none⟩, ⟨(some 12), .mv (.t 0), none⟩, ⟨(some 13), .mv (.t 5), none⟩, ⟨(some 14), .ixs 1 (.t 12) (.t 13), none⟩, ⟨(some 15), .ld none (.t 14), none⟩, ⟨(some 16), .call 80 (.t 11) [(.t 15)], none⟩] none)
 (.cond (.t 16) (.seq (.reg [⟨(some 17), .mv (.t 5), none⟩, ⟨(some 4), .mv (.t 17), none⟩] none)
 .ret) .skip))))
 (.reg [⟨(some 18), .bin .add (.t 8) (.k (.int .i64 1)), none⟩, ⟨(some 8), .mv (.t 18), none⟩] none)))))))
 (.seq (.reg [⟨(some 4), .mv (.k (.int .i64 (-1))), none⟩] none)
 .ret)))⟩
/-- slices.IndexFunc[[][]int,[]int] -/
def m46 : MFn := ⟨2, 19, [.tmp 4], (.seq (.reg [⟨(some 4), .mv (.k (.int .i64 0)), none⟩] none)
 (.seq (.seq (.reg [⟨(some 6), .mv (.t 0), none⟩, ⟨(some 7), .len (.t 6), none⟩, ⟨(some 8), .mv (.k (.int .i64 0)), none⟩] none)
 (.block 0 (.loop (.seq (.reg [⟨(some 9), .bin .lss (.t 8) (.t 7), none⟩] none)
 (.seq (.cond (.t 9) .skip (.exit 0))
 (.seq (.block 1 (.seq (.reg [⟨(some 10), .mv (.t 8), none⟩, ⟨(some 5), .mv (.t 10), none⟩] none)
 (.seq (.reg [⟨(some 11), .mv (.t 1), none⟩, ⟨(some 12), .mv (.t 0), none⟩, ⟨(some 13), .mv (.t 5), none⟩, ⟨(some 14), .ixs 1 (.t 12) (.t 13), none⟩, ⟨(some 15), .ld none (.t 14), none⟩, ⟨(some 16), .call 80 (.t 11) [(.t 15)], none⟩] none)
 (.cond (.t 16) (.seq (.reg [⟨(some 17), .mv (.t 5), none⟩, ⟨(some 4), .mv (.t 17), none⟩] none)
 .ret) .skip))))
 (.reg [⟨(some 18), .bin .add (.t 8) (.k (.int .i64 1)), none⟩, ⟨(some 8), .mv (.t 18), none⟩] none)))))))
 (.seq (.reg [⟨(some 4), .mv (.k (.int .i64 (-1))), none⟩] none)
 .ret)))⟩
/-- besom/set.each -/
def m47 : MFn := ⟨1, 4, [.tmp 2], (.seq (.reg [⟨(some 1), .box 65 (.t 0), none⟩, ⟨(some 2), .mv (.k .nilfn), none⟩] none)
 (.seq (.reg [⟨(some 3), .mkf (.func 49) [] [(.t 1)], none⟩, ⟨(some 2), .mv (.t 3), none⟩] none)
 .ret))⟩
/-- besom/besomref02.Add -/
def m48 : MFn := ⟨2, 14, [.tmp 4], (.seq (.reg [⟨(some 4), .mv (.k (.int .u64 0)), none⟩] none)
 (.seq (.seq (.reg [⟨(some 5), .mv (.t 1), none⟩, ⟨(some 6), .call 70 (.k (.fn (.func 41) [] [])) [(.t 5)], none⟩, ⟨(some 7), .un .not (.t 6), none⟩] none)
 (.cond (.t 7) (.seq (.reg [⟨(some 8), .mv (.t 0), none⟩, ⟨(some 4), .mv (.t 8), none⟩] none)
 .ret) .skip))
 (.seq (.reg [⟨(some 9), .mv (.t 0), none⟩, ⟨(some 10), .mv (.t 1), none⟩, ⟨(some 11), .bin .sub (.t 10) (.k (.int .i64 1)), none⟩, ⟨(some 12), .bin .shl (.k (.int .u64 1)) (.t 11), none⟩, ⟨(some 13), .bin .or (.t 9) (.t 12), none⟩, ⟨(some 4), .mv (.t 13), none⟩] none)
 .ret)))⟩
/-- besom/set.each$1 -/
def m49 : MFn := ⟨2, 15, [], (.block 0 (.loop (.seq (.seq (.reg [⟨(some 3), .ld none (.t 1), none⟩, ⟨(some 4), .bin .neq (.t 3) (.k (.int .u64 0)), none⟩] none)
 (.cond (.t 4) .skip (.exit 0)))
 (.seq (.block 1 (.seq (.reg [⟨(some 9), .mv (.t 0), none⟩, ⟨(some 10), .ld none (.t 1), none⟩, ⟨(some 11), .call 75 (.k (.fn (.func 50) [] [])) [(.t 10)], none⟩, ⟨(some 12), .bin .add (.t 11) (.k (.int .i64 1)), none⟩, ⟨(some 13), .call 77 (.t 9) [(.t 12)], none⟩, ⟨(some 14), .un .not (.t 13), none⟩] none)
 (.cond (.t 14) .ret .skip)))
 (.reg [⟨(some 5), .ld none (.t 1), none⟩, ⟨(some 6), .ld none (.t 1), none⟩, ⟨(some 7), .bin .sub (.t 6) (.k (.int .u64 1)), none⟩, ⟨(some 8), .bin .and (.t 5) (.t 7), none⟩, ⟨none, .st 1 (.t 1) (.t 8), none⟩] none)))))⟩
/-- math/bits.TrailingZeros64 -/
def m50 : MFn := ⟨1, 14, [.tmp 2], (.seq (.reg [⟨(some 2), .mv (.k (.int .i64 0)), none⟩] none)
 (.seq (.seq (.reg [⟨(some 3), .mv (.t 0), none⟩, ⟨(some 4), .bin .eql (.t 3) (.k (.int .u64 0)), none⟩] none)
 (.cond (.t 4) (.seq (.reg [⟨(some 2), .mv (.k (.int .i64 64)), none⟩] none)
 .ret) .skip))
 (.seq (.reg [⟨(some 5), .mv (.t 0), none⟩, ⟨(some 6), .mv (.t 0), none⟩, ⟨(some 7), .un .neg (.t 6), none⟩, ⟨(some 8), .bin .and (.t 5) (.t 7), none⟩, ⟨(some 9), .bin .mul (.t 8) (.k (.int .u64 285870213051353865)), none⟩, ⟨(some 10), .bin .shr (.t 9) (.k (.int .u64 58)), none⟩, ⟨(some 11), .ixa 64 1 (.g 0) (.t 10), none⟩, ⟨(some 12), .ld none (.t 11), none⟩, ⟨(some 13), .conv .i64 (.t 12), none⟩, ⟨(some 2), .mv (.t 13), none⟩] none)
 .ret)))⟩
/-- gosem.cut.vars -/
def m70 : MFn := ⟨0, 1, [], (.reg [⟨(some 0), .bld [(.int .u8 0), (.int .u8 0), (.int .u8 0), (.int .u8 0), (.int .u8 0), (.int .u8 0), (.int .u8 0), (.int .u8 0), (.int .u8 0), (.int .u8 0), (.int .u8 0), (.int .u8 0), (.int .u8 0), (.int .u8 0), (.int .u8 0), (.int .u8 0), (.int .u8 0), (.int .u8 0), (.int .u8 0), (.int .u8 0), (.int .u8 0), (.int .u8 0), (.int .u8 0), (.int .u8 0), (.int .u8 0), (.int .u8 0), (.int .u8 0), (.int .u8 0), (.int .u8 0), (.int .u8 0), (.int .u8 0), (.int .u8 0), (.int .u8 0), (.int .u8 0), (.int .u8 0), (.int .u8 0), (.int .u8 0), (.int .u8 0), (.int .u8 0), (.int .u8 0), (.int .u8 0), (.int .u8 0), (.int .u8 0), (.int .u8 0), (.int .u8 0), (.int .u8 0), (.int .u8 0), (.int .u8 0), (.int .u8 0), (.int .u8 0), (.int .u8 0), (.int .u8 0), (.int .u8 0), (.int .u8 0), (.int .u8 0), (.int .u8 0), (.int .u8 0), (.int .u8 0), (.int .u8 0), (.int .u8 0), (.int .u8 0), (.int .u8 0), (.int .u8 0), (.int .u8 0)] [(0, 1, (.k (.int .u8 0))), (1, 1, (.k (.int .u8 1))), (2, 1, (.k (.int .u8 56))), (3, 1, (.k (.int .u8 2))), (4, 1, (.k (.int .u8 57))), (5, 1, (.k (.int .u8 49))), (6, 1, (.k (.int .u8 28))), (7, 1, (.k (.int .u8 3))), (8, 1, (.k (.int .u8 61))), (9, 1, (.k (.int .u8 58))), (10, 1, (.k (.int .u8 42))), (11, 1, (.k (.int .u8 50))), (12, 1, (.k (.int .u8 38))), (13, 1, (.k (.int .u8 29))), (14, 1, (.k (.int .u8 17))), (15, 1, (.k (.int .u8 4))), (16, 1, (.k (.int .u8 62))), (17, 1, (.k (.int .u8 47))), (18, 1, (.k (.int .u8 59))), (19, 1, (.k (.int .u8 36))), (20, 1, (.k (.int .u8 45))), (21, 1, (.k (.int .u8 43))), (22, 1, (.k (.int .u8 51))), (23, 1, (.k (.int .u8 22))), (24, 1, (.k (.int .u8 53))), (25, 1, (.k (.int .u8 39))), (26, 1, (.k (.int .u8 33))), (27, 1, (.k (.int .u8 30))), (28, 1, (.k (.int .u8 24))), (29, 1, (.k (.int .u8 18))), (30, 1, (.k (.int .u8 12))), (31, 1, (.k (.int .u8 5))), (32, 1, (.k (.int .u8 63))), (33, 1, (.k (.int .u8 55))), (34, 1, (.k (.int .u8 48))), (35, 1, (.k (.int .u8 27))), (36, 1, (.k (.int .u8 60))), (37, 1, (.k (.int .u8 41))), (38, 1, (.k (.int .u8 37))), (39, 1, (.k (.int .u8 16))), (40, 1, (.k (.int .u8 46))), (41, 1, (.k (.int .u8 35))), (42, 1, (.k (.int .u8 44))), (43, 1, (.k (.int .u8 21))), (44, 1, (.k (.int .u8 52))), (45, 1, (.k (.int .u8 32))), (46, 1, (.k (.int .u8 23))), (47, 1, (.k (.int .u8 11))), (48, 1, (.k (.int .u8 54))), (49, 1, (.k (.int .u8 26))), (50, 1, (.k (.int .u8 40))), (51, 1, (.k (.int .u8 15))), (52, 1, (.k (.int .u8 34))), (53, 1, (.k (.int .u8 20))), (54, 1, (.k (.int .u8 31))), (55, 1, (.k (.int .u8 10))), (56, 1, (.k (.int .u8 25))), (57, 1, (.k (.int .u8 14))), (58, 1, (.k (.int .u8 19))), (59, 1, (.k (.int .u8 9))), (60, 1, (.k (.int .u8 13))), (61, 1, (.k (.int .u8 8))), (62, 1, (.k (.int .u8 7))), (63, 1, (.k (.int .u8 6)))], none⟩, ⟨none, .st 64 (.g 0) (.t 0), none⟩] none)⟩

theorem low3 : lowFn Tryd.prog Tryd.f3 = some m3 := by kernel_rfl
theorem low4 : lowFn Tryd.prog Tryd.f4 = some m4 := by kernel_rfl
theorem low5 : lowFn Tryd.prog Tryd.f5 = some m5 := by kernel_rfl
theorem low6 : lowFn Tryd.prog Tryd.f6 = some m6 := by kernel_rfl
theorem low7 : lowFn Tryd.prog Tryd.f7 = some m7 := by kernel_rfl
theorem low8 : lowFn Tryd.prog Tryd.f8 = some m8 := by kernel_rfl
theorem low9 : lowFn Tryd.prog Tryd.f9 = some m9 := by kernel_rfl
theorem low10 : lowFn Tryd.prog Tryd.f10 = some m10 := by kernel_rfl
theorem low11 : lowFn Tryd.prog Tryd.f11 = some m11 := by kernel_rfl
theorem low12 : lowFn Tryd.prog Tryd.f12 = some m12 := by kernel_rfl
theorem low13 : lowFn Tryd.prog Tryd.f13 = some m13 := by kernel_rfl
theorem low14 : lowFn Tryd.prog Tryd.f14 = some m14 := by kernel_rfl
theorem low15 : lowFn Tryd.prog Tryd.f15 = some m15 := by kernel_rfl
theorem low16 : lowFn Tryd.prog Tryd.f16 = some m16 := by kernel_rfl
theorem low17 : lowFn Tryd.prog Tryd.f17 = some m17 := by kernel_rfl
theorem low18 : lowFn Tryd.prog Tryd.f18 = some m18 := by kernel_rfl
theorem low19 : lowFn Tryd.prog Tryd.f19 = some m19 := by kernel_rfl
theorem low20 : lowFn Tryd.prog Tryd.f20 = some m20 := by kernel_rfl
theorem low21 : lowFn Tryd.prog Tryd.f21 = some m21 := by kernel_rfl
theorem low22 : lowFn Tryd.prog Tryd.f22 = some m22 := by kernel_rfl
theorem low23 : lowFn Tryd.prog Tryd.f23 = some m23 := by kernel_rfl
theorem low24 : lowFn Tryd.prog Tryd.f24 = some m24 := by kernel_rfl
theorem low25 : lowFn Tryd.prog Tryd.f25 = some m25 := by kernel_rfl
theorem low26 : lowFn Tryd.prog Tryd.f26 = some m26 := by kernel_rfl
theorem low27 : lowFn Tryd.prog Tryd.f27 = some m27 := by kernel_rfl
theorem low28 : lowFn Tryd.prog Tryd.f28 = some m28 := by kernel_rfl
theorem low29 : lowFn Tryd.prog Tryd.f29 = some m29 := by kernel_rfl
theorem low30 : lowFn Tryd.prog Tryd.f30 = some m30 := by kernel_rfl
theorem low31 : lowFn Tryd.prog Tryd.f31 = some m31 := by kernel_rfl
theorem low32 : lowFn Tryd.prog Tryd.f32 = some m32 := by kernel_rfl
theorem low33 : lowFn Tryd.prog Tryd.f33 = some m33 := by kernel_rfl
theorem low34 : lowFn Tryd.prog Tryd.f34 = some m34 := by kernel_rfl
theorem low35 : lowFn Tryd.prog Tryd.f35 = some m35 := by kernel_rfl
theorem low36 : lowFn Tryd.prog Tryd.f36 = some m36 := by kernel_rfl
theorem low37 : lowFn Tryd.prog Tryd.f37 = some m37 := by kernel_rfl
theorem low38 : lowFn Tryd.prog Tryd.f38 = some m38 := by kernel_rfl
theorem low40 : lowFn Tryd.prog Tryd.f40 = some m40 := by kernel_rfl
theorem low41 : lowFn Tryd.prog Tryd.f41 = some m41 := by kernel_rfl
theorem low42 : lowFn Tryd.prog Tryd.f42 = some m42 := by kernel_rfl
theorem low43 : lowFn Tryd.prog Tryd.f43 = some m43 := by kernel_rfl
theorem low44 : lowFn Tryd.prog Tryd.f44 = some m44 := by kernel_rfl
theorem low45 : lowFn Tryd.prog Tryd.f45 = some m45 := by kernel_rfl
theorem low46 : lowFn Tryd.prog Tryd.f46 = some m46 := by kernel_rfl
theorem low47 : lowFn Tryd.prog Tryd.f47 = some m47 := by kernel_rfl
theorem low48 : lowFn Tryd.prog Tryd.f48 = some m48 := by kernel_rfl
theorem low49 : lowFn Tryd.prog Tryd.f49 = some m49 := by kernel_rfl
theorem low50 : lowFn Tryd.prog Tryd.f50 = some m50 := by kernel_rfl
theorem low70 : lowFn Tryd.prog Tryd.f70 = some m70 := by kernel_rfl
end Go.Nx
