/-
  THE FUNCTIONS OF THE SEAT, LOWERED.
-/
import Derived.Test.YtpmpkcjcjccboaaDoorXy
import Derived.Test.YtpmpkcjcjccboaaDoorRows
set_option linter.unusedVariables false
namespace Go.Nx
open Go.RowKit Go.Proofs

/-- besom/besomlaw02.SetTells -/
def m3 : MFn := ⟨5, 111, [.tmp 10], (.seq (.reg [⟨(some 10), .mv (.k (.bool false)), none⟩] none)
 (.seq (.reg [⟨(some 17), .call 81 (.k (.fn (.func 9) [] [])) [], none⟩, ⟨(some 11), .mv (.t 17), none⟩] none)
 (.seq (.seq (.reg [⟨(some 18), .mv (.t 11), none⟩, ⟨(some 19), .un .not (.t 18), none⟩] none)
 (.cond (.t 19) (.seq (.reg [⟨(some 10), .mv (.k (.bool false)), none⟩] none)
 .ret) .skip))
 (.seq (.reg [⟨(some 21), .mv (.t 4), none⟩, ⟨(some 22), .call 86 (.k (.fn (.func 10) [] [])) [(.t 21)], none⟩, ⟨(some 20), .mv (.t 22), none⟩, ⟨(some 23), .ext (.t 20) 0, none⟩, ⟨(some 24), .ext (.t 20) 1, none⟩, ⟨(some 12), .mv (.t 23), none⟩, ⟨(some 13), .mv (.t 24), none⟩] none)
 (.seq (.reg [⟨(some 26), .mv (.t 4), none⟩, ⟨(some 27), .call 91 (.k (.fn (.func 11) [] [])) [(.t 26)], none⟩, ⟨(some 25), .mv (.t 27), none⟩, ⟨(some 28), .ext (.t 25) 0, none⟩, ⟨(some 29), .ext (.t 25) 1, none⟩, ⟨(some 14), .mv (.t 28), none⟩, ⟨(some 15), .mv (.t 29), none⟩] none)
 (.seq (.reg [⟨(some 30), .mv (.t 0), none⟩, ⟨(some 16), .mv (.t 30), none⟩] none)
 (.seq (.seq (.reg [⟨(some 31), .mv (.t 12), none⟩, ⟨(some 32), .mv (.t 14), none⟩, ⟨(some 33), .bin .neq (.t 31) (.t 32), none⟩, ⟨(some 34), .mv (.t 33), none⟩, ⟨(some 35), .mv (.t 13), (some (34, false))⟩, ⟨(some 36), .mv (.t 15), (some (34, false))⟩, ⟨(some 37), .bin .neq (.t 35) (.t 36), (some (34, false))⟩, ⟨(some 38), .pick (.t 34) (.k (.bool true)) (.t 37), none⟩, ⟨(some 39), .mv (.t 38), none⟩, ⟨(some 40), .mv (.t 0), (some (39, false))⟩, ⟨(some 41), .mv (.t 2), (some (39, false))⟩, ⟨(some 42), .call 106 (.k (.fn (.func 12) [] [])) [(.t 40), (.t 41)], (some (39, false))⟩, ⟨(some 43), .mv (.t 16), (some (39, false))⟩, ⟨(some 44), .mv (.t 2), (some (39, false))⟩, ⟨(some 45), .call 109 (.k (.fn (.func 13) [] [])) [(.t 43), (.t 44)], (some (39, false))⟩, ⟨(some 46), .binb .neq (.t 42) (.t 45), (some (39, false))⟩, ⟨(some 47), .pick (.t 39) (.k (.bool true)) (.t 46), none⟩, ⟨(some 48), .mv (.t 47), none⟩, ⟨(some 49), .mv (.t 0), (some (48, false))⟩, ⟨(some 50), .mv (.t 2), (some (48, false))⟩, ⟨(some 51), .call 115 (.k (.fn (.func 14) [] [])) [(.t 49), (.t 50)], (some (48, false))⟩, ⟨(some 52), .mv (.t 16), (some (48, false))⟩, ⟨(some 53), .mv (.t 2), (some (48, false))⟩, ⟨(some 54), .call 118 (.k (.fn (.func 15) [] [])) [(.t 52), (.t 53)], (some (48, false))⟩, ⟨(some 55), .bin .neq (.t 51) (.t 54), (some (48, false))⟩, ⟨(some 56), .pick (.t 48) (.k (.bool true)) (.t 55), none⟩, ⟨(some 57), .mv (.t 56), none⟩, ⟨(some 58), .mv (.t 0), (some (57, false))⟩, ⟨(some 59), .mv (.t 2), (some (57, false))⟩, ⟨(some 60), .call 124 (.k (.fn (.func 16) [] [])) [(.t 58), (.t 59)], (some (57, false))⟩, ⟨(some 61), .mv (.t 16), (some (57, false))⟩, ⟨(some 62), .mv (.t 2), (some (57, false))⟩, ⟨(some 63), .call 127 (.k (.fn (.func 17) [] [])) [(.t 61), (.t 62)], (some (57, false))⟩, ⟨(some 64), .bin .neq (.t 60) (.t 63), (some (57, false))⟩, ⟨(some 65), .pick (.t 57) (.k (.bool true)) (.t 64), none⟩, ⟨(some 66), .mv (.t 65), none⟩, ⟨(some 67), .mv (.t 0), (some (66, false))⟩, ⟨(some 68), .call 132 (.k (.fn (.func 18) [] [])) [(.t 67)], (some (66, false))⟩, ⟨(some 69), .mv (.t 16), (some (66, false))⟩, ⟨(some 70), .call 134 (.k (.fn (.func 19) [] [])) [(.t 69)], (some (66, false))⟩, ⟨(some 71), .bin .neq (.t 68) (.t 70), (some (66, false))⟩, ⟨(some 72), .pick (.t 66) (.k (.bool true)) (.t 71), none⟩] none)
 (.cond (.t 72) (.seq (.reg [⟨(some 10), .mv (.k (.bool false)), none⟩] none)
 .ret) .skip))
 (.seq (.reg [⟨(some 73), .mv (.t 11), none⟩, ⟨(some 74), .mv (.t 73), none⟩, ⟨(some 75), .mv (.t 3), (some (74, true))⟩, ⟨(some 76), .call 140 (.k (.fn (.func 20) [] [])) [(.t 75)], (some (74, true))⟩, ⟨(some 77), .mv (.t 3), (some (74, true))⟩, ⟨(some 78), .call 142 (.k (.fn (.func 21) [] [])) [(.t 77)], (some (74, true))⟩, ⟨(some 79), .bin .eql (.t 76) (.t 78), (some (74, true))⟩, ⟨(some 80), .pick (.t 74) (.t 79) (.k (.bool false)), none⟩, ⟨(some 81), .mv (.t 80), none⟩, ⟨(some 82), .mv (.t 0), (some (81, true))⟩, ⟨(some 83), .call 147 (.k (.fn (.func 23) [] [])) [(.t 82)], (some (81, true))⟩, ⟨(some 84), .mv (.t 16), (some (81, true))⟩, ⟨(some 85), .call 149 (.k (.fn (.func 24) [] [])) [(.t 84)], (some (81, true))⟩, ⟨(some 86), .call 150 (.k (.fn (.func 22) [] [])) [(.t 83), (.t 85)], (some (81, true))⟩, ⟨(some 87), .pick (.t 81) (.t 86) (.k (.bool false)), none⟩, ⟨(some 88), .mv (.t 87), none⟩, ⟨(some 89), .mv (.t 0), (some (88, true))⟩, ⟨(some 90), .mv (.t 1), (some (88, true))⟩, ⟨(some 91), .call 155 (.k (.fn (.func 25) [] [])) [(.t 89), (.t 90)], (some (88, true))⟩, ⟨(some 92), .mv (.t 16), (some (88, true))⟩, ⟨(some 93), .mv (.t 1), (some (88, true))⟩, ⟨(some 94), .call 158 (.k (.fn (.func 26) [] [])) [(.t 92), (.t 93)], (some (88, true))⟩, ⟨(some 95), .binb .eql (.t 91) (.t 94), (some (88, true))⟩, ⟨(some 96), .pick (.t 88) (.t 95) (.k (.bool false)), none⟩, ⟨(some 97), .mv (.t 96), none⟩, ⟨(some 98), .mv (.t 2), (some (97, true))⟩, ⟨(some 99), .call 163 (.k (.fn (.func 27) [] [])) [(.t 98)], (some (97, true))⟩, ⟨(some 100), .mv (.t 2), (some (97, true))⟩, ⟨(some 101), .call 165 (.k (.fn (.func 28) [] [])) [(.t 100)], (some (97, true))⟩, ⟨(some 102), .bin .eql (.t 99) (.t 101), (some (97, true))⟩, ⟨(some 103), .pick (.t 97) (.t 102) (.k (.bool false)), none⟩, ⟨(some 104), .mv (.t 103), none⟩, ⟨(some 105), .mv (.t 0), (some (104, true))⟩, ⟨(some 106), .call 170 (.k (.fn (.func 29) [] [])) [(.t 105)], (some (104, true))⟩, ⟨(some 107), .mv (.t 16), (some (104, true))⟩, ⟨(some 108), .call 172 (.k (.fn (.func 30) [] [])) [(.t 107)], (some (104, true))⟩, ⟨(some 109), .bin .eql (.t 106) (.t 108), (some (104, true))⟩, ⟨(some 110), .pick (.t 104) (.t 109) (.k (.bool false)), none⟩, ⟨(some 10), .mv (.t 110), none⟩] none)
 .ret))))))))⟩
/-- besom/besomlaw02.SetTurns -/
def m4 : MFn := ⟨3, 94, [.tmp 6], (.seq (.reg [⟨(some 6), .mv (.k (.bool false)), none⟩] none)
 (.seq (.reg [⟨(some 12), .call 76 (.k (.fn (.func 9) [] [])) [], none⟩, ⟨(some 7), .mv (.t 12), none⟩] none)
 (.seq (.seq (.reg [⟨(some 13), .mv (.t 7), none⟩, ⟨(some 14), .un .not (.t 13), none⟩] none)
 (.cond (.t 14) (.seq (.reg [⟨(some 6), .mv (.k (.bool false)), none⟩] none)
 .ret) .skip))
 (.seq (.reg [⟨(some 15), .mv (.t 1), none⟩, ⟨(some 16), .bin .rem (.t 15) (.k (.int .u8 64)), none⟩, ⟨(some 17), .conv .i64 (.t 16), none⟩, ⟨(some 18), .bin .add (.k (.int .i64 1)) (.t 17), none⟩, ⟨(some 8), .mv (.t 18), none⟩] none)
 (.seq (.reg [⟨(some 19), .mv (.t 2), none⟩, ⟨(some 20), .bin .rem (.t 19) (.k (.int .u8 64)), none⟩, ⟨(some 21), .conv .i64 (.t 20), none⟩, ⟨(some 22), .bin .add (.k (.int .i64 1)) (.t 21), none⟩, ⟨(some 9), .mv (.t 22), none⟩] none)
 (.seq (.reg [⟨(some 23), .mv (.t 0), none⟩, ⟨(some 24), .mv (.t 8), none⟩, ⟨(some 25), .call 89 (.k (.fn (.func 14) [] [])) [(.t 23), (.t 24)], none⟩, ⟨(some 10), .mv (.t 25), none⟩] none)
 (.seq (.reg [⟨(some 26), .mv (.t 0), none⟩, ⟨(some 27), .mv (.t 8), none⟩, ⟨(some 28), .call 92 (.k (.fn (.func 16) [] [])) [(.t 26), (.t 27)], none⟩, ⟨(some 11), .mv (.t 28), none⟩] none)
 (.seq (.seq (.reg [⟨(some 29), .mv (.t 10), none⟩, ⟨(some 30), .mv (.t 8), none⟩, ⟨(some 31), .call 95 (.k (.fn (.func 12) [] [])) [(.t 29), (.t 30)], none⟩, ⟨(some 32), .un .not (.t 31), none⟩, ⟨(some 33), .mv (.t 32), none⟩, ⟨(some 34), .mv (.t 11), (some (33, false))⟩, ⟨(some 35), .mv (.t 8), (some (33, false))⟩, ⟨(some 36), .call 100 (.k (.fn (.func 12) [] [])) [(.t 34), (.t 35)], (some (33, false))⟩, ⟨(some 37), .pick (.t 33) (.k (.bool true)) (.t 36), none⟩, ⟨(some 38), .mv (.t 37), none⟩, ⟨(some 39), .mv (.t 8), (some (38, false))⟩, ⟨(some 40), .mv (.t 9), (some (38, false))⟩, ⟨(some 41), .bin .neq (.t 39) (.t 40), (some (38, false))⟩, ⟨(some 42), .mv (.t 41), (some (38, false))⟩, ⟨(some 43), .mv (.t 10), (some (42, true))⟩, ⟨(some 44), .mv (.t 9), (some (42, true))⟩, ⟨(some 45), .call 109 (.k (.fn (.func 12) [] [])) [(.t 43), (.t 44)], (some (42, true))⟩, ⟨(some 46), .mv (.t 0), (some (42, true))⟩, ⟨(some 47), .mv (.t 9), (some (42, true))⟩, ⟨(some 48), .call 112 (.k (.fn (.func 12) [] [])) [(.t 46), (.t 47)], (some (42, true))⟩, ⟨(some 49), .binb .neq (.t 45) (.t 48), (some (42, true))⟩, ⟨(some 50), .mv (.t 49), (some (42, true))⟩, ⟨(some 51), .mv (.t 11), (some (50, false))⟩, ⟨(some 52), .mv (.t 9), (some (50, false))⟩, ⟨(some 53), .call 117 (.k (.fn (.func 12) [] [])) [(.t 51), (.t 52)], (some (50, false))⟩, ⟨(some 54), .mv (.t 0), (some (50, false))⟩, ⟨(some 55), .mv (.t 9), (some (50, false))⟩, ⟨(some 56), .call 120 (.k (.fn (.func 12) [] [])) [(.t 54), (.t 55)], (some (50, false))⟩, ⟨(some 57), .binb .neq (.t 53) (.t 56), (some (50, false))⟩, ⟨(some 58), .pick (.t 50) (.k (.bool true)) (.t 57), (some (42, true))⟩, ⟨(some 59), .pick (.t 42) (.t 58) (.k (.bool false)), (some (38, false))⟩, ⟨(some 60), .pick (.t 38) (.k (.bool true)) (.t 59), none⟩] none)
 (.cond (.t 60) (.seq (.reg [⟨(some 6), .mv (.k (.bool false)), none⟩] none)
 .ret) .skip))
 (.seq (.reg [⟨(some 61), .mv (.t 7), none⟩, ⟨(some 62), .mv (.t 61), none⟩, ⟨(some 63), .mv (.t 10), (some (62, true))⟩, ⟨(some 64), .mv (.t 8), (some (62, true))⟩, ⟨(some 65), .call 129 (.k (.fn (.func 16) [] [])) [(.t 63), (.t 64)], (some (62, true))⟩, ⟨(some 66), .mv (.t 11), (some (62, true))⟩, ⟨(some 67), .bin .eql (.t 65) (.t 66), (some (62, true))⟩, ⟨(some 68), .pick (.t 62) (.t 67) (.k (.bool false)), none⟩, ⟨(some 69), .mv (.t 68), none⟩, ⟨(some 70), .mv (.t 11), (some (69, true))⟩, ⟨(some 71), .mv (.t 8), (some (69, true))⟩, ⟨(some 72), .call 136 (.k (.fn (.func 14) [] [])) [(.t 70), (.t 71)], (some (69, true))⟩, ⟨(some 73), .mv (.t 10), (some (69, true))⟩, ⟨(some 74), .bin .eql (.t 72) (.t 73), (some (69, true))⟩, ⟨(some 75), .pick (.t 69) (.t 74) (.k (.bool false)), none⟩, ⟨(some 76), .mv (.t 75), none⟩, ⟨(some 77), .mv (.t 10), (some (76, true))⟩, ⟨(some 78), .call 142 (.k (.fn (.func 18) [] [])) [(.t 77)], (some (76, true))⟩, ⟨(some 79), .mv (.t 11), (some (76, true))⟩, ⟨(some 80), .call 144 (.k (.fn (.func 18) [] [])) [(.t 79)], (some (76, true))⟩, ⟨(some 81), .bin .add (.t 80) (.k (.int .i64 1)), (some (76, true))⟩, ⟨(some 82), .bin .eql (.t 78) (.t 81), (some (76, true))⟩, ⟨(some 83), .pick (.t 76) (.t 82) (.k (.bool false)), none⟩, ⟨(some 84), .mv (.t 83), none⟩, ⟨(some 85), .mv (.t 0), (some (84, true))⟩, ⟨(some 86), .mv (.t 10), (some (84, true))⟩, ⟨(some 87), .bin .eql (.t 85) (.t 86), (some (84, true))⟩, ⟨(some 88), .mv (.t 87), (some (84, true))⟩, ⟨(some 89), .mv (.t 0), (some (88, false))⟩, ⟨(some 90), .mv (.t 11), (some (88, false))⟩, ⟨(some 91), .bin .eql (.t 89) (.t 90), (some (88, false))⟩, ⟨(some 92), .pick (.t 88) (.k (.bool true)) (.t 91), (some (84, true))⟩, ⟨(some 93), .pick (.t 84) (.t 92) (.k (.bool false)), none⟩, ⟨(some 6), .mv (.t 93), none⟩] none)
 .ret)))))))))⟩
/-- besom/besomlaw02.SetLists -/
def m5 : MFn := ⟨2, 106, [.tmp 4], (.seq (.reg [⟨(some 4), .mv (.k (.bool false)), none⟩] none)
 (.seq (.reg [⟨(some 10), .call 74 (.k (.fn (.func 9) [] [])) [], none⟩, ⟨(some 5), .mv (.t 10), none⟩] none)
 (.seq (.seq (.reg [⟨(some 11), .mv (.t 5), none⟩, ⟨(some 12), .un .not (.t 11), none⟩] none)
 (.cond (.t 12) (.seq (.reg [⟨(some 4), .mv (.k (.bool false)), none⟩] none)
 .ret) .skip))
 (.seq (.reg [⟨(some 13), .mv (.t 0), none⟩, ⟨(some 14), .call 78 (.k (.fn (.func 23) [] [])) [(.t 13)], none⟩, ⟨(some 6), .mv (.t 14), none⟩] none)
 (.seq (.seq (.reg [⟨(some 7), .mv (.k (.int .i64 0)), none⟩] none)
 (.block 0 (.loop (.seq (.seq (.reg [⟨(some 15), .mv (.t 7), none⟩, ⟨(some 16), .mv (.t 6), none⟩, ⟨(some 17), .len (.t 16), none⟩, ⟨(some 18), .bin .lss (.t 15) (.t 17), none⟩] none)
 (.cond (.t 18) .skip (.exit 0)))
 (.seq (.block 1 (.seq (.reg [⟨(some 21), .mv (.t 0), none⟩, ⟨(some 22), .mv (.t 6), none⟩, ⟨(some 23), .mv (.t 7), none⟩, ⟨(some 24), .ixs 1 (.t 22) (.t 23), none⟩, ⟨(some 25), .ld none (.t 24), none⟩, ⟨(some 26), .call 90 (.k (.fn (.func 12) [] [])) [(.t 21), (.t 25)], none⟩, ⟨(some 27), .un .not (.t 26), none⟩, ⟨(some 28), .mv (.t 27), none⟩, ⟨(some 29), .mv (.t 6), (some (28, false))⟩, ⟨(some 30), .mv (.t 7), (some (28, false))⟩, ⟨(some 31), .ixs 1 (.t 29) (.t 30), (some (28, false))⟩, ⟨(some 32), .ld none (.t 31), (some (28, false))⟩, ⟨(some 33), .bin .lss (.t 32) (.k (.int .i64 1)), (some (28, false))⟩, ⟨(some 34), .pick (.t 28) (.k (.bool true)) (.t 33), none⟩, ⟨(some 35), .mv (.t 34), none⟩, ⟨(some 36), .mv (.t 6), (some (35, false))⟩, ⟨(some 37), .mv (.t 7), (some (35, false))⟩, ⟨(some 38), .ixs 1 (.t 36) (.t 37), (some (35, false))⟩, ⟨(some 39), .ld none (.t 38), (some (35, false))⟩, ⟨(some 40), .bin .gtr (.t 39) (.k (.int .i64 64)), (some (35, false))⟩, ⟨(some 41), .pick (.t 35) (.k (.bool true)) (.t 40), none⟩, ⟨(some 42), .mv (.t 41), none⟩, ⟨(some 43), .mv (.t 7), (some (42, false))⟩, ⟨(some 44), .bin .gtr (.t 43) (.k (.int .i64 0)), (some (42, false))⟩, ⟨(some 45), .mv (.t 44), (some (42, false))⟩, ⟨(some 46), .mv (.t 6), (some (45, true))⟩, ⟨(some 47), .mv (.t 7), (some (45, true))⟩, ⟨(some 48), .bin .sub (.t 47) (.k (.int .i64 1)), (some (45, true))⟩, ⟨(some 49), .ixs 1 (.t 46) (.t 48), (some (45, true))⟩, ⟨(some 50), .ld none (.t 49), (some (45, true))⟩, ⟨(some 51), .mv (.t 6), (some (45, true))⟩, ⟨(some 52), .mv (.t 7), (some (45, true))⟩, ⟨(some 53), .ixs 1 (.t 51) (.t 52), (some (45, true))⟩, ⟨(some 54), .ld none (.t 53), (some (45, true))⟩, ⟨(some 55), .bin .geq (.t 50) (.t 54), (some (45, true))⟩, ⟨(some 56), .pick (.t 45) (.t 55) (.k (.bool false)), (some (42, false))⟩, ⟨(some 57), .pick (.t 42) (.k (.bool true)) (.t 56), none⟩] (some [(28, 32), (29, 32), (28, 33), (29, 33)]))
 (.cond (.t 57) (.seq (.reg [⟨(some 4), .mv (.k (.bool false)), none⟩] none)
 .ret) .skip)))
 (.reg [⟨(some 19), .mv (.t 7), none⟩, ⟨(some 20), .bin .add (.t 19) (.k (.int .i64 1)), none⟩, ⟨(some 7), .mv (.t 20), none⟩] none))))))
 (.seq (.reg [⟨(some 58), .mv (.t 1), none⟩, ⟨(some 59), .call 123 (.k (.fn (.func 20) [] [])) [(.t 58)], none⟩, ⟨(some 8), .mv (.t 59), none⟩] none)
 (.seq (.seq (.reg [⟨(some 9), .mv (.k (.int .i64 0)), none⟩] none)
 (.block 2 (.loop (.seq (.seq (.reg [⟨(some 60), .mv (.t 9), none⟩, ⟨(some 61), .mv (.t 1), none⟩, ⟨(some 62), .len (.t 61), none⟩, ⟨(some 63), .bin .lss (.t 60) (.t 62), none⟩] none)
 (.cond (.t 63) .skip (.exit 2)))
 (.seq (.block 3 (.seq (.reg [⟨(some 66), .mv (.t 8), none⟩, ⟨(some 67), .mv (.t 1), none⟩, ⟨(some 68), .mv (.t 9), none⟩, ⟨(some 69), .ixs 1 (.t 67) (.t 68), none⟩, ⟨(some 70), .ld none (.t 69), none⟩, ⟨(some 71), .call 135 (.k (.fn (.func 12) [] [])) [(.t 66), (.t 70)], none⟩, ⟨(some 72), .mv (.t 1), none⟩, ⟨(some 73), .mv (.t 9), none⟩, ⟨(some 74), .ixs 1 (.t 72) (.t 73), none⟩, ⟨(some 75), .ld none (.t 74), none⟩, ⟨(some 76), .bin .geq (.t 75) (.k (.int .i64 1)), none⟩, ⟨(some 77), .mv (.t 76), none⟩, ⟨(some 78), .mv (.t 1), (some (77, true))⟩, ⟨(some 79), .mv (.t 9), (some (77, true))⟩, ⟨(some 80), .ixs 1 (.t 78) (.t 79), (some (77, true))⟩, ⟨(some 81), .ld none (.t 80), (some (77, true))⟩, ⟨(some 82), .bin .leq (.t 81) (.k (.int .i64 64)), (some (77, true))⟩, ⟨(some 83), .pick (.t 77) (.t 82) (.k (.bool false)), none⟩, ⟨(some 84), .binb .neq (.t 71) (.t 83), none⟩] (some [(3, 8), (4, 8), (5, 8), (3, 9), (4, 9), (5, 9)]))
 (.cond (.t 84) (.seq (.reg [⟨(some 4), .mv (.k (.bool false)), none⟩] none)
 .ret) .skip)))
 (.reg [⟨(some 64), .mv (.t 9), none⟩, ⟨(some 65), .bin .add (.t 64) (.k (.int .i64 1)), none⟩, ⟨(some 9), .mv (.t 65), none⟩] none))))))
 (.seq (.reg [⟨(some 85), .mv (.t 5), none⟩, ⟨(some 86), .mv (.t 85), none⟩, ⟨(some 87), .mv (.t 6), (some (86, true))⟩, ⟨(some 88), .call 152 (.k (.fn (.func 20) [] [])) [(.t 87)], (some (86, true))⟩, ⟨(some 89), .mv (.t 0), (some (86, true))⟩, ⟨(some 90), .bin .eql (.t 88) (.t 89), (some (86, true))⟩, ⟨(some 91), .pick (.t 86) (.t 90) (.k (.bool false)), none⟩, ⟨(some 92), .mv (.t 91), none⟩, ⟨(some 93), .mv (.t 6), (some (92, true))⟩, ⟨(some 94), .len (.t 93), (some (92, true))⟩, ⟨(some 95), .mv (.t 0), (some (92, true))⟩, ⟨(some 96), .call 160 (.k (.fn (.func 18) [] [])) [(.t 95)], (some (92, true))⟩, ⟨(some 97), .bin .eql (.t 94) (.t 96), (some (92, true))⟩, ⟨(some 98), .pick (.t 92) (.t 97) (.k (.bool false)), none⟩, ⟨(some 99), .mv (.t 98), none⟩, ⟨(some 100), .mv (.t 8), (some (99, true))⟩, ⟨(some 101), .call 165 (.k (.fn (.func 18) [] [])) [(.t 100)], (some (99, true))⟩, ⟨(some 102), .mv (.t 1), (some (99, true))⟩, ⟨(some 103), .len (.t 102), (some (99, true))⟩, ⟨(some 104), .bin .leq (.t 101) (.t 103), (some (99, true))⟩, ⟨(some 105), .pick (.t 99) (.t 104) (.k (.bool false)), none⟩, ⟨(some 4), .mv (.t 105), none⟩] none)
 .ret))))))))⟩
/-- besom/besomlaw02.SetUnder -/
def m6 : MFn := ⟨4, 98, [.tmp 8], (.seq (.reg [⟨(some 8), .mv (.k (.bool false)), none⟩] none)
 (.seq (.reg [⟨(some 11), .call 75 (.k (.fn (.func 9) [] [])) [], none⟩, ⟨(some 9), .mv (.t 11), none⟩] none)
 (.seq (.seq (.reg [⟨(some 12), .mv (.t 9), none⟩, ⟨(some 13), .un .not (.t 12), none⟩] none)
 (.cond (.t 13) (.seq (.reg [⟨(some 8), .mv (.k (.bool false)), none⟩] none)
 .ret) .skip))
 (.seq (.seq (.reg [⟨(some 14), .mv (.t 0), none⟩, ⟨(some 15), .mv (.t 0), none⟩, ⟨(some 16), .call 80 (.k (.fn (.func 25) [] [])) [(.t 14), (.t 15)], none⟩, ⟨(some 17), .un .not (.t 16), none⟩, ⟨(some 18), .mv (.t 17), none⟩, ⟨(some 19), .mv (.t 0), (some (18, false))⟩, ⟨(some 20), .mv (.t 1), (some (18, false))⟩, ⟨(some 21), .call 85 (.k (.fn (.func 25) [] [])) [(.t 19), (.t 20)], (some (18, false))⟩, ⟨(some 22), .mv (.t 21), (some (18, false))⟩, ⟨(some 23), .mv (.t 1), (some (22, true))⟩, ⟨(some 24), .mv (.t 0), (some (22, true))⟩, ⟨(some 25), .call 89 (.k (.fn (.func 25) [] [])) [(.t 23), (.t 24)], (some (22, true))⟩, ⟨(some 26), .mv (.t 0), (some (22, true))⟩, ⟨(some 27), .mv (.t 1), (some (22, true))⟩, ⟨(some 28), .bin .eql (.t 26) (.t 27), (some (22, true))⟩, ⟨(some 29), .binb .neq (.t 25) (.t 28), (some (22, true))⟩, ⟨(some 30), .pick (.t 22) (.t 29) (.k (.bool false)), (some (18, false))⟩, ⟨(some 31), .pick (.t 18) (.k (.bool true)) (.t 30), none⟩, ⟨(some 32), .mv (.t 31), none⟩, ⟨(some 33), .mv (.t 0), (some (32, false))⟩, ⟨(some 34), .mv (.t 1), (some (32, false))⟩, ⟨(some 35), .call 99 (.k (.fn (.func 25) [] [])) [(.t 33), (.t 34)], (some (32, false))⟩, ⟨(some 36), .mv (.t 35), (some (32, false))⟩, ⟨(some 37), .mv (.t 1), (some (36, true))⟩, ⟨(some 38), .mv (.t 2), (some (36, true))⟩, ⟨(some 39), .call 103 (.k (.fn (.func 25) [] [])) [(.t 37), (.t 38)], (some (36, true))⟩, ⟨(some 40), .pick (.t 36) (.t 39) (.k (.bool false)), (some (32, false))⟩, ⟨(some 41), .mv (.t 40), (some (32, false))⟩, ⟨(some 42), .mv (.t 0), (some (41, true))⟩, ⟨(some 43), .mv (.t 2), (some (41, true))⟩, ⟨(some 44), .call 108 (.k (.fn (.func 25) [] [])) [(.t 42), (.t 43)], (some (41, true))⟩, ⟨(some 45), .un .not (.t 44), (some (41, true))⟩, ⟨(some 46), .pick (.t 41) (.t 45) (.k (.bool false)), (some (32, false))⟩, ⟨(some 47), .pick (.t 32) (.k (.bool true)) (.t 46), none⟩] none)
 (.cond (.t 47) (.seq (.reg [⟨(some 8), .mv (.k (.bool false)), none⟩] none)
 .ret) .skip))
 (.seq (.reg [⟨(some 48), .mv (.t 0), none⟩, ⟨(some 49), .mv (.t 3), none⟩, ⟨(some 50), .bin .rem (.t 49) (.k (.int .u8 64)), none⟩, ⟨(some 51), .conv .i64 (.t 50), none⟩, ⟨(some 52), .bin .add (.k (.int .i64 1)) (.t 51), none⟩, ⟨(some 53), .call 117 (.k (.fn (.func 16) [] [])) [(.t 48), (.t 52)], none⟩, ⟨(some 10), .mv (.t 53), none⟩] none)
 (.seq (.reg [⟨(some 54), .mv (.t 9), none⟩, ⟨(some 55), .mv (.t 54), none⟩, ⟨(some 56), .mv (.t 10), (some (55, true))⟩, ⟨(some 57), .mv (.t 0), (some (55, true))⟩, ⟨(some 58), .call 122 (.k (.fn (.func 25) [] [])) [(.t 56), (.t 57)], (some (55, true))⟩, ⟨(some 59), .pick (.t 55) (.t 58) (.k (.bool false)), none⟩, ⟨(some 60), .mv (.t 59), none⟩, ⟨(some 61), .mv (.t 0), (some (60, true))⟩, ⟨(some 62), .call 126 (.k (.fn (.func 27) [] [])) [(.k (.int .i64 64))], (some (60, true))⟩, ⟨(some 63), .call 127 (.k (.fn (.func 25) [] [])) [(.t 61), (.t 62)], (some (60, true))⟩, ⟨(some 64), .pick (.t 60) (.t 63) (.k (.bool false)), none⟩, ⟨(some 65), .mv (.t 64), none⟩, ⟨(some 66), .mv (.t 0), (some (65, true))⟩, ⟨(some 67), .call 131 (.k (.fn (.func 25) [] [])) [(.k (.int .u64 0)), (.t 66)], (some (65, true))⟩, ⟨(some 68), .pick (.t 65) (.t 67) (.k (.bool false)), none⟩, ⟨(some 69), .mv (.t 68), none⟩, ⟨(some 70), .mv (.t 0), (some (69, true))⟩, ⟨(some 71), .mv (.t 1), (some (69, true))⟩, ⟨(some 72), .call 136 (.k (.fn (.func 25) [] [])) [(.t 70), (.t 71)], (some (69, true))⟩, ⟨(some 73), .un .not (.t 72), (some (69, true))⟩, ⟨(some 74), .mv (.t 73), (some (69, true))⟩, ⟨(some 75), .mv (.t 0), (some (74, false))⟩, ⟨(some 76), .call 140 (.k (.fn (.func 18) [] [])) [(.t 75)], (some (74, false))⟩, ⟨(some 77), .mv (.t 1), (some (74, false))⟩, ⟨(some 78), .call 142 (.k (.fn (.func 18) [] [])) [(.t 77)], (some (74, false))⟩, ⟨(some 79), .bin .leq (.t 76) (.t 78), (some (74, false))⟩, ⟨(some 80), .pick (.t 74) (.k (.bool true)) (.t 79), (some (69, true))⟩, ⟨(some 81), .pick (.t 69) (.t 80) (.k (.bool false)), none⟩, ⟨(some 82), .mv (.t 81), none⟩, ⟨(some 83), .mv (.t 0), (some (82, true))⟩, ⟨(some 84), .mv (.t 1), (some (82, true))⟩, ⟨(some 85), .call 149 (.k (.fn (.func 25) [] [])) [(.t 83), (.t 84)], (some (82, true))⟩, ⟨(some 86), .mv (.t 0), (some (82, true))⟩, ⟨(some 87), .call 151 (.k (.fn (.func 23) [] [])) [(.t 86)], (some (82, true))⟩, ⟨(some 88), .mv (.t 1), (some (82, true))⟩, ⟨(some 89), .call 153 (.k (.fn (.func 23) [] [])) [(.t 88)], (some (82, true))⟩, ⟨(some 90), .app 154 1 8 (.t 87) (.t 89), (some (82, true))⟩, ⟨(some 91), .call 155 (.k (.fn (.func 20) [] [])) [(.t 90)], (some (82, true))⟩, ⟨(some 92), .call 156 (.k (.fn (.func 18) [] [])) [(.t 91)], (some (82, true))⟩, ⟨(some 93), .mv (.t 1), (some (82, true))⟩, ⟨(some 94), .call 158 (.k (.fn (.func 18) [] [])) [(.t 93)], (some (82, true))⟩, ⟨(some 95), .bin .eql (.t 92) (.t 94), (some (82, true))⟩, ⟨(some 96), .binb .eql (.t 85) (.t 95), (some (82, true))⟩, ⟨(some 97), .pick (.t 82) (.t 96) (.k (.bool false)), none⟩, ⟨(some 8), .mv (.t 97), none⟩] none)
 .ret))))))⟩
/-- besom/besomlaw02.SetBack -/
def m7 : MFn := ⟨2, 52, [.tmp 4], (.seq (.reg [⟨(some 4), .mv (.k (.bool false)), none⟩] none)
 (.seq (.reg [⟨(some 10), .call 74 (.k (.fn (.func 9) [] [])) [], none⟩, ⟨(some 5), .mv (.t 10), none⟩] none)
 (.seq (.seq (.reg [⟨(some 11), .mv (.t 5), none⟩, ⟨(some 12), .un .not (.t 11), none⟩] none)
 (.cond (.t 12) (.seq (.reg [⟨(some 4), .mv (.k (.bool false)), none⟩] none)
 .ret) .skip))
 (.seq (.reg [⟨(some 14), .mv (.t 0), none⟩, ⟨(some 15), .call 79 (.k (.fn (.func 29) [] [])) [(.t 14)], none⟩, ⟨(some 16), .call 80 (.k (.fn (.func 10) [] [])) [(.t 15)], none⟩, ⟨(some 13), .mv (.t 16), none⟩, ⟨(some 17), .ext (.t 13) 0, none⟩, ⟨(some 18), .ext (.t 13) 1, none⟩, ⟨(some 6), .mv (.t 17), none⟩, ⟨(some 7), .mv (.t 18), none⟩] none)
 (.seq (.reg [⟨(some 20), .mv (.t 1), none⟩, ⟨(some 21), .call 85 (.k (.fn (.func 10) [] [])) [(.t 20)], none⟩, ⟨(some 19), .mv (.t 21), none⟩, ⟨(some 22), .ext (.t 19) 0, none⟩, ⟨(some 23), .ext (.t 19) 1, none⟩, ⟨(some 8), .mv (.t 22), none⟩, ⟨(some 9), .mv (.t 23), none⟩] none)
 (.seq (.reg [⟨(some 24), .mv (.t 5), none⟩, ⟨(some 25), .mv (.t 24), none⟩, ⟨(some 26), .mv (.t 7), (some (25, true))⟩, ⟨(some 27), .bin .eql (.t 26) (.k (.int .i64 0)), (some (25, true))⟩, ⟨(some 28), .pick (.t 25) (.t 27) (.k (.bool false)), none⟩, ⟨(some 29), .mv (.t 28), none⟩, ⟨(some 30), .mv (.t 6), (some (29, true))⟩, ⟨(some 31), .mv (.t 0), (some (29, true))⟩, ⟨(some 32), .bin .eql (.t 30) (.t 31), (some (29, true))⟩, ⟨(some 33), .pick (.t 29) (.t 32) (.k (.bool false)), none⟩, ⟨(some 34), .mv (.t 33), none⟩, ⟨(some 35), .mv (.t 9), (some (34, true))⟩, ⟨(some 36), .bin .eql (.t 35) (.k (.int .i64 0)), (some (34, true))⟩, ⟨(some 37), .mv (.t 36), (some (34, true))⟩, ⟨(some 38), .mv (.t 8), (some (37, true))⟩, ⟨(some 39), .call 103 (.k (.fn (.func 29) [] [])) [(.t 38)], (some (37, true))⟩, ⟨(some 40), .mv (.t 1), (some (37, true))⟩, ⟨(some 41), .bin .eql (.t 39) (.t 40), (some (37, true))⟩, ⟨(some 42), .pick (.t 37) (.t 41) (.k (.bool false)), (some (34, true))⟩, ⟨(some 43), .mv (.t 42), (some (34, true))⟩, ⟨(some 44), .mv (.t 9), (some (43, false))⟩, ⟨(some 45), .bin .eql (.t 44) (.k (.int .i64 2)), (some (43, false))⟩, ⟨(some 46), .mv (.t 45), (some (43, false))⟩, ⟨(some 47), .mv (.t 8), (some (46, true))⟩, ⟨(some 48), .bin .eql (.t 47) (.k (.int .u64 0)), (some (46, true))⟩, ⟨(some 49), .pick (.t 46) (.t 48) (.k (.bool false)), (some (43, false))⟩, ⟨(some 50), .pick (.t 43) (.k (.bool true)) (.t 49), (some (34, true))⟩, ⟨(some 51), .pick (.t 34) (.t 50) (.k (.bool false)), none⟩, ⟨(some 4), .mv (.t 51), none⟩] none)
 .ret))))))⟩
/-- besom/besomlaw02.SetFirst -/
def m8 : MFn := ⟨1, 44, [.tmp 2], (.seq (.reg [⟨(some 2), .mv (.k (.bool false)), none⟩] none)
 (.seq (.reg [⟨(some 6), .call 70 (.k (.fn (.func 9) [] [])) [], none⟩, ⟨(some 3), .mv (.t 6), none⟩] none)
 (.seq (.seq (.reg [⟨(some 7), .mv (.t 3), none⟩, ⟨(some 8), .un .not (.t 7), none⟩] none)
 (.cond (.t 8) (.seq (.reg [⟨(some 2), .mv (.k (.bool false)), none⟩] none)
 .ret) .skip))
 (.seq (.reg [⟨(some 9), .mv (.t 0), none⟩, ⟨(some 10), .call 74 (.k (.fn (.func 27) [] [])) [(.t 9)], none⟩, ⟨(some 4), .mv (.t 10), none⟩] none)
 (.seq (.reg [⟨(some 11), .mv (.t 0), none⟩, ⟨(some 12), .mx (.t 11) (.k (.int .i64 0)), none⟩, ⟨(some 13), .mn (.t 12) (.k (.int .i64 64)), none⟩, ⟨(some 5), .mv (.t 13), none⟩] none)
 (.seq (.reg [⟨(some 14), .mv (.t 3), none⟩, ⟨(some 15), .mv (.t 14), none⟩, ⟨(some 16), .mv (.t 4), (some (15, true))⟩, ⟨(some 17), .call 81 (.k (.fn (.func 18) [] [])) [(.t 16)], (some (15, true))⟩, ⟨(some 18), .mv (.t 5), (some (15, true))⟩, ⟨(some 19), .bin .eql (.t 17) (.t 18), (some (15, true))⟩, ⟨(some 20), .pick (.t 15) (.t 19) (.k (.bool false)), none⟩, ⟨(some 21), .mv (.t 20), none⟩, ⟨(some 22), .mv (.t 4), (some (21, true))⟩, ⟨(some 23), .mv (.t 5), (some (21, true))⟩, ⟨(some 24), .call 88 (.k (.fn (.func 12) [] [])) [(.t 22), (.t 23)], (some (21, true))⟩, ⟨(some 25), .mv (.t 5), (some (21, true))⟩, ⟨(some 26), .bin .gtr (.t 25) (.k (.int .i64 0)), (some (21, true))⟩, ⟨(some 27), .binb .eql (.t 24) (.t 26), (some (21, true))⟩, ⟨(some 28), .pick (.t 21) (.t 27) (.k (.bool false)), none⟩, ⟨(some 29), .mv (.t 28), none⟩, ⟨(some 30), .mv (.t 4), (some (29, true))⟩, ⟨(some 31), .mv (.t 5), (some (29, true))⟩, ⟨(some 32), .bin .add (.t 31) (.k (.int .i64 1)), (some (29, true))⟩, ⟨(some 33), .call 97 (.k (.fn (.func 12) [] [])) [(.t 30), (.t 32)], (some (29, true))⟩, ⟨(some 34), .un .not (.t 33), (some (29, true))⟩, ⟨(some 35), .pick (.t 29) (.t 34) (.k (.bool false)), none⟩, ⟨(some 36), .mv (.t 35), none⟩, ⟨(some 37), .mv (.t 4), (some (36, true))⟩, ⟨(some 38), .mv (.t 0), (some (36, true))⟩, ⟨(some 39), .mn (.t 38) (.k (.int .i64 1099511627776)), (some (36, true))⟩, ⟨(some 40), .bin .add (.t 39) (.k (.int .i64 1)), (some (36, true))⟩, ⟨(some 41), .call 105 (.k (.fn (.func 27) [] [])) [(.t 40)], (some (36, true))⟩, ⟨(some 42), .call 106 (.k (.fn (.func 25) [] [])) [(.t 37), (.t 41)], (some (36, true))⟩, ⟨(some 43), .pick (.t 36) (.t 42) (.k (.bool false)), none⟩, ⟨(some 2), .mv (.t 43), none⟩] none)
 .ret))))))⟩
/-- besom/besomlaw02.examples -/
def m9 : MFn := ⟨0, 108, [.tmp 0], (.seq (.reg [⟨(some 0), .mv (.k (.bool false)), none⟩] none)
 (.seq (.reg [⟨(some 8), .bslt 1 [(.k (.int .i64 3)), (.k (.int .i64 1)), (.k (.int .i64 64)), (.k (.int .i64 0)), (.k (.int .i64 65)), (.k (.int .i64 (-1)))], none⟩, ⟨(some 9), .call 73 (.k (.fn (.func 20) [] [])) [(.t 8)], none⟩, ⟨(some 1), .mv (.t 9), none⟩] none)
 (.seq (.reg [⟨(some 11), .call 75 (.k (.fn (.func 10) [] [])) [(.k (.str ⟨#[49, 44, 51, 44, 54, 52]⟩))], none⟩, ⟨(some 10), .mv (.t 11), none⟩, ⟨(some 12), .ext (.t 10) 0, none⟩, ⟨(some 13), .ext (.t 10) 1, none⟩, ⟨(some 2), .mv (.t 12), none⟩, ⟨(some 3), .mv (.t 13), none⟩] none)
 (.seq (.reg [⟨(some 15), .call 79 (.k (.fn (.func 10) [] [])) [(.k (.str ⟨#[51, 44, 49]⟩))], none⟩, ⟨(some 14), .mv (.t 15), none⟩, ⟨(some 16), .ext (.t 14) 0, none⟩, ⟨(some 17), .ext (.t 14) 1, none⟩, ⟨(some 4), .mv (.t 16), none⟩, ⟨(some 5), .mv (.t 17), none⟩] none)
 (.seq (.reg [⟨(some 19), .call 83 (.k (.fn (.func 10) [] [])) [(.k (.str ⟨#[45]⟩))], none⟩, ⟨(some 18), .mv (.t 19), none⟩, ⟨(some 20), .ext (.t 18) 0, none⟩, ⟨(some 21), .ext (.t 18) 1, none⟩, ⟨(some 6), .mv (.t 20), none⟩, ⟨(some 7), .mv (.t 21), none⟩] none)
 (.seq (.reg [⟨(some 22), .mv (.t 1), none⟩, ⟨(some 23), .call 87 (.k (.fn (.func 29) [] [])) [(.t 22)], none⟩, ⟨(some 24), .bin .eql (.t 23) (.k (.str ⟨#[49, 44, 51, 44, 54, 52]⟩)), none⟩, ⟨(some 25), .mv (.t 24), none⟩, ⟨(some 26), .mv (.t 3), (some (25, true))⟩, ⟨(some 27), .bin .eql (.t 26) (.k (.int .i64 0)), (some (25, true))⟩, ⟨(some 28), .pick (.t 25) (.t 27) (.k (.bool false)), none⟩, ⟨(some 29), .mv (.t 28), none⟩, ⟨(some 30), .mv (.t 2), (some (29, true))⟩, ⟨(some 31), .mv (.t 1), (some (29, true))⟩, ⟨(some 32), .bin .eql (.t 30) (.t 31), (some (29, true))⟩, ⟨(some 33), .pick (.t 29) (.t 32) (.k (.bool false)), none⟩, ⟨(some 34), .mv (.t 33), none⟩, ⟨(some 35), .mv (.t 5), (some (34, true))⟩, ⟨(some 36), .bin .eql (.t 35) (.k (.int .i64 2)), (some (34, true))⟩, ⟨(some 37), .pick (.t 34) (.t 36) (.k (.bool false)), none⟩, ⟨(some 38), .mv (.t 37), none⟩, ⟨(some 39), .mv (.t 6), (some (38, true))⟩, ⟨(some 40), .bin .eql (.t 39) (.k (.int .u64 0)), (some (38, true))⟩, ⟨(some 41), .pick (.t 38) (.t 40) (.k (.bool false)), none⟩, ⟨(some 42), .mv (.t 41), none⟩, ⟨(some 43), .mv (.t 7), (some (42, true))⟩, ⟨(some 44), .bin .eql (.t 43) (.k (.int .i64 0)), (some (42, true))⟩, ⟨(some 45), .pick (.t 42) (.t 44) (.k (.bool false)), none⟩, ⟨(some 46), .mv (.t 45), none⟩, ⟨(some 47), .mv (.t 1), (some (46, true))⟩, ⟨(some 48), .call 112 (.k (.fn (.func 12) [] [])) [(.t 47), (.k (.int .i64 64))], (some (46, true))⟩, ⟨(some 49), .pick (.t 46) (.t 48) (.k (.bool false)), none⟩, ⟨(some 50), .mv (.t 49), none⟩, ⟨(some 51), .mv (.t 1), (some (50, true))⟩, ⟨(some 52), .call 116 (.k (.fn (.func 12) [] [])) [(.t 51), (.k (.int .i64 2))], (some (50, true))⟩, ⟨(some 53), .un .not (.t 52), (some (50, true))⟩, ⟨(some 54), .pick (.t 50) (.t 53) (.k (.bool false)), none⟩, ⟨(some 55), .mv (.t 54), none⟩, ⟨(some 56), .mv (.t 1), (some (55, true))⟩, ⟨(some 57), .call 121 (.k (.fn (.func 12) [] [])) [(.t 56), (.k (.int .i64 0))], (some (55, true))⟩, ⟨(some 58), .un .not (.t 57), (some (55, true))⟩, ⟨(some 59), .pick (.t 55) (.t 58) (.k (.bool false)), none⟩, ⟨(some 60), .mv (.t 59), none⟩, ⟨(some 61), .mv (.t 1), (some (60, true))⟩, ⟨(some 62), .call 126 (.k (.fn (.func 18) [] [])) [(.t 61)], (some (60, true))⟩, ⟨(some 63), .bin .eql (.t 62) (.k (.int .i64 3)), (some (60, true))⟩, ⟨(some 64), .pick (.t 60) (.t 63) (.k (.bool false)), none⟩, ⟨(some 65), .mv (.t 64), none⟩, ⟨(some 66), .mv (.t 1), (some (65, true))⟩, ⟨(some 67), .call 131 (.k (.fn (.func 14) [] [])) [(.t 66), (.k (.int .i64 0))], (some (65, true))⟩, ⟨(some 68), .mv (.t 1), (some (65, true))⟩, ⟨(some 69), .bin .eql (.t 67) (.t 68), (some (65, true))⟩, ⟨(some 70), .pick (.t 65) (.t 69) (.k (.bool false)), none⟩, ⟨(some 71), .mv (.t 70), none⟩, ⟨(some 72), .mv (.t 1), (some (71, true))⟩, ⟨(some 73), .call 137 (.k (.fn (.func 16) [] [])) [(.t 72), (.k (.int .i64 3))], (some (71, true))⟩, ⟨(some 74), .bslt 1 [(.k (.int .i64 1)), (.k (.int .i64 64))], (some (71, true))⟩, ⟨(some 75), .call 139 (.k (.fn (.func 20) [] [])) [(.t 74)], (some (71, true))⟩, ⟨(some 76), .bin .eql (.t 73) (.t 75), (some (71, true))⟩, ⟨(some 77), .pick (.t 71) (.t 76) (.k (.bool false)), none⟩, ⟨(some 78), .mv (.t 77), none⟩, ⟨(some 79), .mv (.t 1), (some (78, true))⟩, ⟨(some 80), .call 144 (.k (.fn (.func 23) [] [])) [(.t 79)], (some (78, true))⟩, ⟨(some 81), .bslt 1 [(.k (.int .i64 1)), (.k (.int .i64 3)), (.k (.int .i64 64))], (some (78, true))⟩, ⟨(some 82), .call 146 (.k (.fn (.func 22) [] [])) [(.t 80), (.t 81)], (some (78, true))⟩, ⟨(some 83), .pick (.t 78) (.t 82) (.k (.bool false)), none⟩, ⟨(some 84), .mv (.t 83), none⟩, ⟨(some 85), .call 149 (.k (.fn (.func 27) [] [])) [(.k (.int .i64 2))], (some (84, true))⟩, ⟨(some 86), .bin .eql (.t 85) (.k (.int .u64 3)), (some (84, true))⟩, ⟨(some 87), .pick (.t 84) (.t 86) (.k (.bool false)), none⟩, ⟨(some 88), .mv (.t 87), none⟩, ⟨(some 89), .call 153 (.k (.fn (.func 27) [] [])) [(.k (.int .i64 99))], (some (88, true))⟩, ⟨(some 90), .call 154 (.k (.fn (.func 27) [] [])) [(.k (.int .i64 64))], (some (88, true))⟩, ⟨(some 91), .bin .eql (.t 89) (.t 90), (some (88, true))⟩, ⟨(some 92), .pick (.t 88) (.t 91) (.k (.bool false)), none⟩, ⟨(some 93), .mv (.t 92), none⟩, ⟨(some 94), .call 158 (.k (.fn (.func 27) [] [])) [(.k (.int .i64 (-1)))], (some (93, true))⟩, ⟨(some 95), .bin .eql (.t 94) (.k (.int .u64 0)), (some (93, true))⟩, ⟨(some 96), .pick (.t 93) (.t 95) (.k (.bool false)), none⟩, ⟨(some 97), .mv (.t 96), none⟩, ⟨(some 98), .call 162 (.k (.fn (.func 27) [] [])) [(.k (.int .i64 1))], (some (97, true))⟩, ⟨(some 99), .mv (.t 1), (some (97, true))⟩, ⟨(some 100), .call 164 (.k (.fn (.func 25) [] [])) [(.t 98), (.t 99)], (some (97, true))⟩, ⟨(some 101), .pick (.t 97) (.t 100) (.k (.bool false)), none⟩, ⟨(some 102), .mv (.t 101), none⟩, ⟨(some 103), .mv (.t 1), (some (102, true))⟩, ⟨(some 104), .call 168 (.k (.fn (.func 27) [] [])) [(.k (.int .i64 3))], (some (102, true))⟩, ⟨(some 105), .call 169 (.k (.fn (.func 25) [] [])) [(.t 103), (.t 104)], (some (102, true))⟩, ⟨(some 106), .un .not (.t 105), (some (102, true))⟩, ⟨(some 107), .pick (.t 102) (.t 106) (.k (.bool false)), none⟩, ⟨(some 0), .mv (.t 107), none⟩] none)
 .ret))))))⟩
/-- besom/set.Parse -/
def m10 : MFn := ⟨1, 30, [.tmp 2, .tmp 3], (.seq (.reg [⟨(some 2), .mv (.k (.int .u64 0)), none⟩, ⟨(some 3), .mv (.k (.int .i64 0)), none⟩] none)
 (.seq (.reg [⟨(some 4), .mv (.k (.int .u64 0)), none⟩] none)
 (.seq (.seq (.reg [⟨(some 9), .mv (.t 0), none⟩, ⟨(some 10), .call 74 (.k (.fn (.func 31) [] [])) [(.t 9), (.k (.str ⟨#[44]⟩))], none⟩, ⟨(some 11), .len (.t 10), none⟩, ⟨(some 12), .mv (.k (.int .i64 0)), none⟩] none)
 (.block 0 (.loop (.seq (.reg [⟨(some 13), .bin .lss (.t 12) (.t 11), none⟩] none)
 (.seq (.cond (.t 13) .skip (.exit 0))
 (.seq (.block 1 (.seq (.reg [⟨(some 14), .ixs 1 (.t 10) (.t 12), none⟩, ⟨(some 15), .ld none (.t 14), none⟩, ⟨(some 6), .mv (.t 15), none⟩] none)
 (.seq (.reg [⟨(some 17), .mv (.t 6), none⟩, ⟨(some 18), .call 82 (.k (.fn (.func 32) [] [])) [(.t 17)], none⟩, ⟨(some 16), .mv (.t 18), none⟩, ⟨(some 19), .ext (.t 16) 0, none⟩, ⟨(some 20), .ext (.t 16) 1, none⟩, ⟨(some 7), .mv (.t 19), none⟩, ⟨(some 8), .mv (.t 20), none⟩] none)
 (.reg [⟨(some 21), .mv (.t 4), none⟩, ⟨(some 22), .mv (.t 7), none⟩, ⟨(some 23), .call 87 (.k (.fn (.func 14) [] [])) [(.t 21), (.t 22)], none⟩, ⟨(some 4), .mv (.t 23), none⟩] none))))
 (.reg [⟨(some 24), .bin .add (.t 12) (.k (.int .i64 1)), none⟩, ⟨(some 12), .mv (.t 24), none⟩] none)))))))
 (.seq (.seq (.reg [⟨(some 25), .mv (.t 4), none⟩, ⟨(some 26), .call 90 (.k (.fn (.func 29) [] [])) [(.t 25)], none⟩, ⟨(some 27), .mv (.t 0), none⟩, ⟨(some 28), .bin .neq (.t 26) (.t 27), none⟩] none)
 (.cond (.t 28) (.seq (.reg [⟨(some 2), .mv (.k (.int .u64 0)), none⟩, ⟨(some 3), .mv (.k (.int .i64 2)), none⟩] none)
 .ret) .skip))
 (.seq (.reg [⟨(some 29), .mv (.t 4), none⟩, ⟨(some 2), .mv (.t 29), none⟩, ⟨(some 3), .mv (.k (.int .i64 0)), none⟩] none)
 .ret)))))⟩
/-- besom/besomref02.Parse -/
def m11 : MFn := ⟨1, 49, [.tmp 2, .tmp 3], (.seq (.reg [⟨(some 2), .mv (.k (.int .u64 0)), none⟩, ⟨(some 3), .mv (.k (.int .i64 0)), none⟩] none)
 (.seq (.reg [⟨(some 4), .mv (.k (.int .u64 0)), none⟩] none)
 (.seq (.reg [⟨(some 5), .mv (.k (.int .i64 0)), none⟩] none)
 (.seq (.seq (.reg [⟨(some 6), .mv (.k (.int .i64 0)), none⟩] none)
 (.block 0 (.loop (.seq (.seq (.reg [⟨(some 7), .mv (.t 6), none⟩, ⟨(some 8), .mv (.t 0), none⟩, ⟨(some 9), .lens (.t 8), none⟩, ⟨(some 10), .bin .leq (.t 7) (.t 9), none⟩] none)
 (.cond (.t 10) .skip (.exit 0)))
 (.seq (.block 1 (.seq (.seq (.reg [⟨(some 13), .mv (.t 6), none⟩, ⟨(some 14), .mv (.t 0), none⟩, ⟨(some 15), .lens (.t 14), none⟩, ⟨(some 16), .bin .lss (.t 13) (.t 15), none⟩, ⟨(some 17), .mv (.t 16), none⟩, ⟨(some 18), .mv (.t 0), (some (17, true))⟩, ⟨(some 19), .mv (.t 6), (some (17, true))⟩, ⟨(some 20), .ixstr (.t 18) (.t 19), (some (17, true))⟩, ⟨(some 21), .bin .geq (.t 20) (.k (.int .u8 48)), (some (17, true))⟩, ⟨(some 22), .pick (.t 17) (.t 21) (.k (.bool false)), none⟩, ⟨(some 23), .mv (.t 22), none⟩, ⟨(some 24), .mv (.t 0), (some (23, true))⟩, ⟨(some 25), .mv (.t 6), (some (23, true))⟩, ⟨(some 26), .ixstr (.t 24) (.t 25), (some (23, true))⟩, ⟨(some 27), .bin .leq (.t 26) (.k (.int .u8 57)), (some (23, true))⟩, ⟨(some 28), .pick (.t 23) (.t 27) (.k (.bool false)), none⟩, ⟨(some 29), .mv (.t 28), none⟩, ⟨(some 30), .mv (.t 5), (some (29, true))⟩, ⟨(some 31), .bin .leq (.t 30) (.k (.int .i64 64)), (some (29, true))⟩, ⟨(some 32), .pick (.t 29) (.t 31) (.k (.bool false)), none⟩] none)
 (.cond (.t 32) (.seq (.reg [⟨(some 33), .mv (.t 5), none⟩, ⟨(some 34), .bin .mul (.t 33) (.k (.int .i64 10)), none⟩, ⟨(some 35), .mv (.t 0), none⟩, ⟨(some 36), .mv (.t 6), none⟩, ⟨(some 37), .ixstr (.t 35) (.t 36), none⟩, ⟨(some 38), .bin .sub (.t 37) (.k (.int .u8 48)), none⟩, ⟨(some 39), .conv .i64 (.t 38), none⟩, ⟨(some 40), .bin .add (.t 34) (.t 39), none⟩, ⟨(some 5), .mv (.t 40), none⟩] none)
 (.exit 1)) .skip))
 (.seq (.reg [⟨(some 41), .mv (.t 4), none⟩, ⟨(some 42), .mv (.t 5), none⟩, ⟨(some 43), .call 107 (.k (.fn (.func 15) [] [])) [(.t 41), (.t 42)], none⟩, ⟨(some 4), .mv (.t 43), none⟩] none)
 (.reg [⟨(some 5), .mv (.k (.int .i64 0)), none⟩] none))))
 (.reg [⟨(some 11), .mv (.t 6), none⟩, ⟨(some 12), .bin .add (.t 11) (.k (.int .i64 1)), none⟩, ⟨(some 6), .mv (.t 12), none⟩] none))))))
 (.seq (.seq (.reg [⟨(some 44), .mv (.t 4), none⟩, ⟨(some 45), .call 109 (.k (.fn (.func 30) [] [])) [(.t 44)], none⟩, ⟨(some 46), .mv (.t 0), none⟩, ⟨(some 47), .bin .neq (.t 45) (.t 46), none⟩] none)
 (.cond (.t 47) (.seq (.reg [⟨(some 2), .mv (.k (.int .u64 0)), none⟩, ⟨(some 3), .mv (.k (.int .i64 2)), none⟩] none)
 .ret) .skip))
 (.seq (.reg [⟨(some 48), .mv (.t 4), none⟩, ⟨(some 2), .mv (.t 48), none⟩, ⟨(some 3), .mv (.k (.int .i64 0)), none⟩] none)
 .ret))))))⟩
/-- besom/set.Has -/
def m12 : MFn := ⟨2, 10, [.tmp 4], (.seq (.reg [⟨(some 4), .mv (.k (.bool false)), none⟩] none)
 (.seq (.reg [⟨(some 5), .mv (.t 0), none⟩, ⟨(some 6), .mv (.t 1), none⟩, ⟨(some 7), .call 71 (.k (.fn (.func 33) [] [])) [(.t 6)], none⟩, ⟨(some 8), .bin .and (.t 5) (.t 7), none⟩, ⟨(some 9), .bin .neq (.t 8) (.k (.int .u64 0)), none⟩, ⟨(some 4), .mv (.t 9), none⟩] none)
 .ret))⟩
/-- besom/besomref02.Has -/
def m13 : MFn := ⟨2, 15, [.tmp 4], (.seq (.reg [⟨(some 4), .mv (.k (.bool false)), none⟩] none)
 (.seq (.reg [⟨(some 5), .mv (.t 1), none⟩, ⟨(some 6), .call 70 (.k (.fn (.func 34) [] [])) [(.t 5)], none⟩, ⟨(some 7), .mv (.t 6), none⟩, ⟨(some 8), .mv (.t 0), (some (7, true))⟩, ⟨(some 9), .mv (.t 1), (some (7, true))⟩, ⟨(some 10), .bin .sub (.t 9) (.k (.int .i64 1)), (some (7, true))⟩, ⟨(some 11), .bin .shr (.t 8) (.t 10), (some (7, true))⟩, ⟨(some 12), .bin .rem (.t 11) (.k (.int .u64 2)), (some (7, true))⟩, ⟨(some 13), .bin .eql (.t 12) (.k (.int .u64 1)), (some (7, true))⟩, ⟨(some 14), .pick (.t 7) (.t 13) (.k (.bool false)), none⟩, ⟨(some 4), .mv (.t 14), none⟩] none)
 .ret))⟩
/-- besom/set.Add -/
def m14 : MFn := ⟨2, 9, [.tmp 4], (.seq (.reg [⟨(some 4), .mv (.k (.int .u64 0)), none⟩] none)
 (.seq (.reg [⟨(some 5), .mv (.t 0), none⟩, ⟨(some 6), .mv (.t 1), none⟩, ⟨(some 7), .call 71 (.k (.fn (.func 33) [] [])) [(.t 6)], none⟩, ⟨(some 8), .bin .or (.t 5) (.t 7), none⟩, ⟨(some 4), .mv (.t 8), none⟩] none)
 .ret))⟩
/-- besom/besomref02.Add -/
def m15 : MFn := ⟨2, 14, [.tmp 4], (.seq (.reg [⟨(some 4), .mv (.k (.int .u64 0)), none⟩] none)
 (.seq (.seq (.reg [⟨(some 5), .mv (.t 1), none⟩, ⟨(some 6), .call 70 (.k (.fn (.func 34) [] [])) [(.t 5)], none⟩, ⟨(some 7), .un .not (.t 6), none⟩] none)
 (.cond (.t 7) (.seq (.reg [⟨(some 8), .mv (.t 0), none⟩, ⟨(some 4), .mv (.t 8), none⟩] none)
 .ret) .skip))
 (.seq (.reg [⟨(some 9), .mv (.t 0), none⟩, ⟨(some 10), .mv (.t 1), none⟩, ⟨(some 11), .bin .sub (.t 10) (.k (.int .i64 1)), none⟩, ⟨(some 12), .bin .shl (.k (.int .u64 1)) (.t 11), none⟩, ⟨(some 13), .bin .or (.t 9) (.t 12), none⟩, ⟨(some 4), .mv (.t 13), none⟩] none)
 .ret)))⟩
/-- besom/set.Del -/
def m16 : MFn := ⟨2, 9, [.tmp 4], (.seq (.reg [⟨(some 4), .mv (.k (.int .u64 0)), none⟩] none)
 (.seq (.reg [⟨(some 5), .mv (.t 0), none⟩, ⟨(some 6), .mv (.t 1), none⟩, ⟨(some 7), .call 71 (.k (.fn (.func 33) [] [])) [(.t 6)], none⟩, ⟨(some 8), .bin .andNot (.t 5) (.t 7), none⟩, ⟨(some 4), .mv (.t 8), none⟩] none)
 .ret))⟩
/-- besom/besomref02.Del -/
def m17 : MFn := ⟨2, 15, [.tmp 4], (.seq (.reg [⟨(some 4), .mv (.k (.int .u64 0)), none⟩] none)
 (.seq (.seq (.reg [⟨(some 5), .mv (.t 0), none⟩, ⟨(some 6), .mv (.t 1), none⟩, ⟨(some 7), .call 71 (.k (.fn (.func 13) [] [])) [(.t 5), (.t 6)], none⟩, ⟨(some 8), .un .not (.t 7), none⟩] none)
 (.cond (.t 8) (.seq (.reg [⟨(some 9), .mv (.t 0), none⟩, ⟨(some 4), .mv (.t 9), none⟩] none)
 .ret) .skip))
 (.seq (.reg [⟨(some 10), .mv (.t 0), none⟩, ⟨(some 11), .mv (.t 1), none⟩, ⟨(some 12), .bin .sub (.t 11) (.k (.int .i64 1)), none⟩, ⟨(some 13), .bin .shl (.k (.int .u64 1)) (.t 12), none⟩, ⟨(some 14), .bin .sub (.t 10) (.t 13), none⟩, ⟨(some 4), .mv (.t 14), none⟩] none)
 .ret)))⟩
/-- besom/set.Count -/
def m18 : MFn := ⟨1, 5, [.tmp 2], (.seq (.reg [⟨(some 2), .mv (.k (.int .i64 0)), none⟩] none)
 (.seq (.reg [⟨(some 3), .mv (.t 0), none⟩, ⟨(some 4), .call 68 (.k (.fn (.func 35) [] [])) [(.t 3)], none⟩, ⟨(some 2), .mv (.t 4), none⟩] none)
 .ret))⟩
/-- besom/besomref02.Count -/
def m19 : MFn := ⟨1, 6, [.tmp 2], (.seq (.reg [⟨(some 2), .mv (.k (.int .i64 0)), none⟩] none)
 (.seq (.reg [⟨(some 3), .mv (.t 0), none⟩, ⟨(some 4), .call 68 (.k (.fn (.func 24) [] [])) [(.t 3)], none⟩, ⟨(some 5), .len (.t 4), none⟩, ⟨(some 2), .mv (.t 5), none⟩] none)
 .ret))⟩
/-- besom/set.Of -/
def m20 : MFn := ⟨1, 17, [.tmp 2], (.seq (.reg [⟨(some 2), .mv (.k (.int .u64 0)), none⟩] none)
 (.seq (.reg [⟨(some 3), .mv (.k (.int .u64 0)), none⟩] none)
 (.seq (.seq (.reg [⟨(some 6), .mv (.t 0), none⟩, ⟨(some 7), .len (.t 6), none⟩, ⟨(some 8), .mv (.k (.int .i64 0)), none⟩] none)
 (.block 0 (.loop (.seq (.reg [⟨(some 9), .bin .lss (.t 8) (.t 7), none⟩] none)
 (.seq (.cond (.t 9) .skip (.exit 0))
 (.seq (.block 1 (.seq (.reg [⟨(some 10), .ixs 1 (.t 6) (.t 8), none⟩, ⟨(some 11), .ld none (.t 10), none⟩, ⟨(some 5), .mv (.t 11), none⟩] none)
 (.reg [⟨(some 12), .mv (.t 3), none⟩, ⟨(some 13), .mv (.t 5), none⟩, ⟨(some 14), .call 78 (.k (.fn (.func 14) [] [])) [(.t 12), (.t 13)], none⟩, ⟨(some 3), .mv (.t 14), none⟩] none)))
 (.reg [⟨(some 15), .bin .add (.t 8) (.k (.int .i64 1)), none⟩, ⟨(some 8), .mv (.t 15), none⟩] none)))))))
 (.seq (.reg [⟨(some 16), .mv (.t 3), none⟩, ⟨(some 2), .mv (.t 16), none⟩] none)
 .ret))))⟩
/-- besom/besomref02.Of -/
def m21 : MFn := ⟨1, 18, [.tmp 2], (.seq (.reg [⟨(some 2), .mv (.k (.int .u64 0)), none⟩] none)
 (.seq (.reg [⟨(some 3), .mv (.k (.int .u64 0)), none⟩] none)
 (.seq (.seq (.reg [⟨(some 4), .mv (.k (.int .i64 0)), none⟩] none)
 (.block 0 (.loop (.seq (.seq (.reg [⟨(some 5), .mv (.t 4), none⟩, ⟨(some 6), .mv (.t 0), none⟩, ⟨(some 7), .len (.t 6), none⟩, ⟨(some 8), .bin .lss (.t 5) (.t 7), none⟩] none)
 (.cond (.t 8) .skip (.exit 0)))
 (.seq (.block 1 (.reg [⟨(some 11), .mv (.t 3), none⟩, ⟨(some 12), .mv (.t 0), none⟩, ⟨(some 13), .mv (.t 4), none⟩, ⟨(some 14), .ixs 1 (.t 12) (.t 13), none⟩, ⟨(some 15), .ld none (.t 14), none⟩, ⟨(some 16), .call 80 (.k (.fn (.func 15) [] [])) [(.t 11), (.t 15)], none⟩, ⟨(some 3), .mv (.t 16), none⟩] none))
 (.reg [⟨(some 9), .mv (.t 4), none⟩, ⟨(some 10), .bin .add (.t 9) (.k (.int .i64 1)), none⟩, ⟨(some 4), .mv (.t 10), none⟩] none))))))
 (.seq (.reg [⟨(some 17), .mv (.t 3), none⟩, ⟨(some 2), .mv (.t 17), none⟩] none)
 .ret))))⟩
/-- besom/besomlaw02.ints -/
def m22 : MFn := ⟨2, 26, [.tmp 4], (.seq (.reg [⟨(some 4), .mv (.k (.bool false)), none⟩] none)
 (.seq (.seq (.reg [⟨(some 6), .mv (.t 0), none⟩, ⟨(some 7), .len (.t 6), none⟩, ⟨(some 8), .mv (.t 1), none⟩, ⟨(some 9), .len (.t 8), none⟩, ⟨(some 10), .bin .neq (.t 7) (.t 9), none⟩] none)
 (.cond (.t 10) (.seq (.reg [⟨(some 4), .mv (.k (.bool false)), none⟩] none)
 .ret) .skip))
 (.seq (.seq (.reg [⟨(some 5), .mv (.k (.int .i64 0)), none⟩] none)
 (.block 0 (.loop (.seq (.seq (.reg [⟨(some 11), .mv (.t 5), none⟩, ⟨(some 12), .mv (.t 0), none⟩, ⟨(some 13), .len (.t 12), none⟩, ⟨(some 14), .bin .lss (.t 11) (.t 13), none⟩] none)
 (.cond (.t 14) .skip (.exit 0)))
 (.seq (.block 1 (.seq (.reg [⟨(some 17), .mv (.t 0), none⟩, ⟨(some 18), .mv (.t 5), none⟩, ⟨(some 19), .ixs 1 (.t 17) (.t 18), none⟩, ⟨(some 20), .ld none (.t 19), none⟩, ⟨(some 21), .mv (.t 1), none⟩, ⟨(some 22), .mv (.t 5), none⟩, ⟨(some 23), .ixs 1 (.t 21) (.t 22), none⟩, ⟨(some 24), .ld none (.t 23), none⟩, ⟨(some 25), .bin .neq (.t 20) (.t 24), none⟩] (some [(2, 6), (3, 6), (2, 7), (3, 7)]))
 (.cond (.t 25) (.seq (.reg [⟨(some 4), .mv (.k (.bool false)), none⟩] none)
 .ret) .skip)))
 (.reg [⟨(some 15), .mv (.t 5), none⟩, ⟨(some 16), .bin .add (.t 15) (.k (.int .i64 1)), none⟩, ⟨(some 5), .mv (.t 16), none⟩] none))))))
 (.seq (.reg [⟨(some 4), .mv (.k (.bool true)), none⟩] none)
 .ret))))⟩
/-- besom/besomref02.List -/
def m24 : MFn := ⟨1, 17, [.tmp 2], (.seq (.reg [⟨(some 2), .mv (.k .nils), none⟩] none)
 (.seq (.reg [⟨(some 3), .mv (.k .nils), none⟩] none)
 (.seq (.seq (.reg [⟨(some 4), .mv (.k (.int .i64 1)), none⟩] none)
 (.block 0 (.loop (.seq (.seq (.reg [⟨(some 5), .mv (.t 4), none⟩, ⟨(some 6), .bin .leq (.t 5) (.k (.int .i64 64)), none⟩] none)
 (.cond (.t 6) .skip (.exit 0)))
 (.seq (.block 1 (.seq (.reg [⟨(some 9), .mv (.t 0), none⟩, ⟨(some 10), .mv (.t 4), none⟩, ⟨(some 11), .call 75 (.k (.fn (.func 13) [] [])) [(.t 9), (.t 10)], none⟩] none)
 (.cond (.t 11) (.reg [⟨(some 12), .mv (.t 3), none⟩, ⟨(some 13), .mv (.t 4), none⟩, ⟨(some 14), .bslt 1 [(.t 13)], none⟩, ⟨(some 15), .app 79 1 8 (.t 12) (.t 14), none⟩, ⟨(some 3), .mv (.t 15), none⟩] none) .skip)))
 (.reg [⟨(some 7), .mv (.t 4), none⟩, ⟨(some 8), .bin .add (.t 7) (.k (.int .i64 1)), none⟩, ⟨(some 4), .mv (.t 8), none⟩] none))))))
 (.seq (.reg [⟨(some 16), .mv (.t 3), none⟩, ⟨(some 2), .mv (.t 16), none⟩] none)
 .ret))))⟩
/-- besom/set.Under -/
def m25 : MFn := ⟨2, 9, [.tmp 4], (.seq (.reg [⟨(some 4), .mv (.k (.bool false)), none⟩] none)
 (.seq (.reg [⟨(some 5), .mv (.t 0), none⟩, ⟨(some 6), .mv (.t 1), none⟩, ⟨(some 7), .bin .andNot (.t 5) (.t 6), none⟩, ⟨(some 8), .bin .eql (.t 7) (.k (.int .u64 0)), none⟩, ⟨(some 4), .mv (.t 8), none⟩] none)
 .ret))⟩
/-- besom/besomref02.Under -/
def m26 : MFn := ⟨2, 10, [.tmp 4], (.seq (.reg [⟨(some 4), .mv (.k (.bool false)), none⟩] none)
 (.seq (.reg [⟨(some 5), .mv (.t 0), none⟩, ⟨(some 6), .mv (.t 1), none⟩, ⟨(some 7), .bin .and (.t 5) (.t 6), none⟩, ⟨(some 8), .mv (.t 0), none⟩, ⟨(some 9), .bin .eql (.t 7) (.t 8), none⟩, ⟨(some 4), .mv (.t 9), none⟩] none)
 .ret))⟩
/-- besom/set.First -/
def m27 : MFn := ⟨1, 9, [.tmp 2], (.seq (.reg [⟨(some 2), .mv (.k (.int .u64 0)), none⟩] none)
 (.seq (.seq (.reg [⟨(some 3), .mv (.t 0), none⟩, ⟨(some 4), .bin .lss (.t 3) (.k (.int .i64 1)), none⟩] none)
 (.cond (.t 4) (.seq (.reg [⟨(some 2), .mv (.k (.int .u64 0)), none⟩] none)
 .ret) .skip))
 (.seq (.reg [⟨(some 5), .mv (.t 0), none⟩, ⟨(some 6), .mn (.t 5) (.k (.int .i64 64)), none⟩, ⟨(some 7), .bin .sub (.k (.int .i64 64)) (.t 6), none⟩, ⟨(some 8), .bin .shr (.k (.int .u64 18446744073709551615)) (.t 7), none⟩, ⟨(some 2), .mv (.t 8), none⟩] none)
 .ret)))⟩
/-- besom/besomref02.First -/
def m28 : MFn := ⟨1, 18, [.tmp 2], (.seq (.reg [⟨(some 2), .mv (.k (.int .u64 0)), none⟩] none)
 (.seq (.reg [⟨(some 3), .mv (.k (.int .u64 0)), none⟩] none)
 (.seq (.seq (.reg [⟨(some 4), .mv (.k (.int .i64 1)), none⟩] none)
 (.block 0 (.loop (.seq (.seq (.reg [⟨(some 5), .mv (.t 4), none⟩, ⟨(some 6), .mv (.t 0), none⟩, ⟨(some 7), .bin .leq (.t 5) (.t 6), none⟩, ⟨(some 8), .mv (.t 7), none⟩, ⟨(some 9), .mv (.t 4), (some (8, true))⟩, ⟨(some 10), .bin .leq (.t 9) (.k (.int .i64 64)), (some (8, true))⟩, ⟨(some 11), .pick (.t 8) (.t 10) (.k (.bool false)), none⟩] none)
 (.cond (.t 11) .skip (.exit 0)))
 (.seq (.block 1 (.reg [⟨(some 14), .mv (.t 3), none⟩, ⟨(some 15), .mv (.t 4), none⟩, ⟨(some 16), .call 80 (.k (.fn (.func 15) [] [])) [(.t 14), (.t 15)], none⟩, ⟨(some 3), .mv (.t 16), none⟩] none))
 (.reg [⟨(some 12), .mv (.t 4), none⟩, ⟨(some 13), .bin .add (.t 12) (.k (.int .i64 1)), none⟩, ⟨(some 4), .mv (.t 13), none⟩] none))))))
 (.seq (.reg [⟨(some 17), .mv (.t 3), none⟩, ⟨(some 2), .mv (.t 17), none⟩] none)
 .ret))))⟩
/-- besom/besomref02.Text -/
def m30 : MFn := ⟨1, 29, [.tmp 2], (.seq (.reg [⟨(some 2), .mv (.k (.str ⟨#[]⟩)), none⟩] none)
 (.seq (.reg [⟨(some 6), .mv (.t 0), none⟩, ⟨(some 7), .call 71 (.k (.fn (.func 24) [] [])) [(.t 6)], none⟩, ⟨(some 3), .mv (.t 7), none⟩] none)
 (.seq (.reg [⟨(some 4), .mv (.k (.str ⟨#[]⟩)), none⟩] none)
 (.seq (.seq (.reg [⟨(some 5), .mv (.k (.int .i64 0)), none⟩] none)
 (.block 0 (.loop (.seq (.seq (.reg [⟨(some 8), .mv (.t 5), none⟩, ⟨(some 9), .mv (.t 3), none⟩, ⟨(some 10), .len (.t 9), none⟩, ⟨(some 11), .bin .lss (.t 8) (.t 10), none⟩] none)
 (.cond (.t 11) .skip (.exit 0)))
 (.seq (.block 1 (.seq (.seq (.reg [⟨(some 14), .mv (.t 5), none⟩, ⟨(some 15), .bin .gtr (.t 14) (.k (.int .i64 0)), none⟩] none)
 (.cond (.t 15) (.reg [⟨(some 16), .mv (.t 4), none⟩, ⟨(some 17), .bin .add (.t 16) (.k (.str ⟨#[44]⟩)), none⟩, ⟨(some 4), .mv (.t 17), none⟩] none) .skip))
 (.reg [⟨(some 18), .mv (.t 4), none⟩, ⟨(some 19), .mv (.t 3), none⟩, ⟨(some 20), .mv (.t 5), none⟩, ⟨(some 21), .ixs 1 (.t 19) (.t 20), none⟩, ⟨(some 22), .ld none (.t 21), none⟩, ⟨(some 23), .conv .u64 (.t 22), none⟩, ⟨(some 24), .call 88 (.k (.fn (.func 39) [] [])) [(.t 23)], none⟩, ⟨(some 25), .bin .add (.t 18) (.t 24), none⟩, ⟨(some 4), .mv (.t 25), none⟩] none)))
 (.reg [⟨(some 12), .mv (.t 5), none⟩, ⟨(some 13), .bin .add (.t 12) (.k (.int .i64 1)), none⟩, ⟨(some 5), .mv (.t 13), none⟩] none))))))
 (.seq (.seq (.reg [⟨(some 26), .mv (.t 4), none⟩, ⟨(some 27), .bin .eql (.t 26) (.k (.str ⟨#[]⟩)), none⟩] none)
 (.cond (.t 27) (.seq (.reg [⟨(some 2), .mv (.k (.str ⟨#[45]⟩)), none⟩] none)
 .ret) .skip))
 (.seq (.reg [⟨(some 28), .mv (.t 4), none⟩, ⟨(some 2), .mv (.t 28), none⟩] none)
 .ret))))))⟩
/-- strings.Split -/
def m31 : MFn := ⟨2, 8, [.tmp 4], (.seq (.reg [⟨(some 4), .mv (.k .nils), none⟩] none)
 (.seq (.reg [⟨(some 5), .mv (.t 0), none⟩, ⟨(some 6), .mv (.t 1), none⟩, ⟨(some 7), .call 71 (.k (.fn (.func 40) [] [])) [(.t 5), (.t 6), (.k (.int .i64 0)), (.k (.int .i64 (-1)))], none⟩, ⟨(some 4), .mv (.t 7), none⟩] none)
 .ret))⟩
/-- strconv.Atoi -/
def m32 : MFn := ⟨1, 18, [.tmp 2, .tmp 3], (.seq (.reg [⟨(some 2), .mv (.k (.int .i64 0)), none⟩, ⟨(some 3), .mv (.k .nilif), none⟩] none)
 (.seq (.reg [⟨(some 7), .mv (.t 0), none⟩, ⟨(some 8), .call 72 (.k (.fn (.func 41) [] [])) [(.t 7)], none⟩, ⟨(some 6), .mv (.t 8), none⟩, ⟨(some 9), .ext (.t 6) 0, none⟩, ⟨(some 10), .ext (.t 6) 1, none⟩, ⟨(some 4), .mv (.t 9), none⟩, ⟨(some 5), .mv (.t 10), none⟩] none)
 (.seq (.seq (.reg [⟨(some 11), .mv (.t 5), none⟩, ⟨(some 12), .stop, none⟩] none)
 (.cond (.t 12) (.seq (.reg [⟨(some 13), .mv (.t 4), none⟩, ⟨(some 14), .mv (.t 0), none⟩, ⟨(some 15), .mv (.t 5), none⟩, ⟨(some 16), .call 80 (.k (.fn (.func 42) [] [])) [(.k (.str ⟨#[65, 116, 111, 105]⟩)), (.t 14), (.k (.int .i64 0)), (.k (.int .i64 0)), (.t 15)], none⟩, ⟨(some 2), .mv (.t 13), none⟩, ⟨(some 3), .mv (.t 16), none⟩] none)
 .ret) .skip))
 (.seq (.reg [⟨(some 17), .mv (.t 4), none⟩, ⟨(some 2), .mv (.t 17), none⟩, ⟨(some 3), .mv (.k .nilif), none⟩] none)
 .ret))))⟩
/-- besom/set.bit -/
def m33 : MFn := ⟨1, 12, [.tmp 2], (.seq (.reg [⟨(some 2), .mv (.k (.int .u64 0)), none⟩] none)
 (.seq (.seq (.reg [⟨(some 3), .mv (.t 0), none⟩, ⟨(some 4), .bin .lss (.t 3) (.k (.int .i64 1)), none⟩, ⟨(some 5), .mv (.t 4), none⟩, ⟨(some 6), .mv (.t 0), (some (5, false))⟩, ⟨(some 7), .bin .gtr (.t 6) (.k (.int .i64 64)), (some (5, false))⟩, ⟨(some 8), .pick (.t 5) (.k (.bool true)) (.t 7), none⟩] none)
 (.cond (.t 8) (.seq (.reg [⟨(some 2), .mv (.k (.int .u64 0)), none⟩] none)
 .ret) .skip))
 (.seq (.reg [⟨(some 9), .mv (.t 0), none⟩, ⟨(some 10), .bin .sub (.t 9) (.k (.int .i64 1)), none⟩, ⟨(some 11), .bin .shl (.k (.int .u64 1)) (.t 10), none⟩, ⟨(some 2), .mv (.t 11), none⟩] none)
 .ret)))⟩
/-- besom/besomref02.object -/
def m34 : MFn := ⟨1, 9, [.tmp 2], (.seq (.reg [⟨(some 2), .mv (.k (.bool false)), none⟩] none)
 (.seq (.reg [⟨(some 3), .mv (.t 0), none⟩, ⟨(some 4), .bin .geq (.t 3) (.k (.int .i64 1)), none⟩, ⟨(some 5), .mv (.t 4), none⟩, ⟨(some 6), .mv (.t 0), (some (5, true))⟩, ⟨(some 7), .bin .leq (.t 6) (.k (.int .i64 64)), (some (5, true))⟩, ⟨(some 8), .pick (.t 5) (.t 7) (.k (.bool false)), none⟩, ⟨(some 2), .mv (.t 8), none⟩] none)
 .ret))⟩
/-- math/bits.OnesCount64 -/
def m35 : MFn := ⟨1, 35, [.tmp 2], (.seq (.reg [⟨(some 2), .mv (.k (.int .i64 0)), none⟩] none)
 (.seq (.reg [⟨(some 3), .mv (.t 0), none⟩, ⟨(some 4), .bin .shr (.t 3) (.k (.int .u64 1)), none⟩, ⟨(some 5), .bin .and (.t 4) (.k (.int .u64 6148914691236517205)), none⟩, ⟨(some 6), .mv (.t 0), none⟩, ⟨(some 7), .bin .and (.t 6) (.k (.int .u64 6148914691236517205)), none⟩, ⟨(some 8), .bin .add (.t 5) (.t 7), none⟩, ⟨(some 0), .mv (.t 8), none⟩] none)
 (.seq (.reg [⟨(some 9), .mv (.t 0), none⟩, ⟨(some 10), .bin .shr (.t 9) (.k (.int .u64 2)), none⟩, ⟨(some 11), .bin .and (.t 10) (.k (.int .u64 3689348814741910323)), none⟩, ⟨(some 12), .mv (.t 0), none⟩, ⟨(some 13), .bin .and (.t 12) (.k (.int .u64 3689348814741910323)), none⟩, ⟨(some 14), .bin .add (.t 11) (.t 13), none⟩, ⟨(some 0), .mv (.t 14), none⟩] none)
 (.seq (.reg [⟨(some 15), .mv (.t 0), none⟩, ⟨(some 16), .bin .shr (.t 15) (.k (.int .u64 4)), none⟩, ⟨(some 17), .mv (.t 0), none⟩, ⟨(some 18), .bin .add (.t 16) (.t 17), none⟩, ⟨(some 19), .bin .and (.t 18) (.k (.int .u64 1085102592571150095)), none⟩, ⟨(some 0), .mv (.t 19), none⟩] none)
 (.seq (.reg [⟨(some 20), .mv (.t 0), none⟩, ⟨(some 21), .mv (.t 0), none⟩, ⟨(some 22), .bin .shr (.t 21) (.k (.int .u64 8)), none⟩, ⟨(some 23), .bin .add (.t 20) (.t 22), none⟩, ⟨(some 0), .mv (.t 23), none⟩] none)
 (.seq (.reg [⟨(some 24), .mv (.t 0), none⟩, ⟨(some 25), .mv (.t 0), none⟩, ⟨(some 26), .bin .shr (.t 25) (.k (.int .u64 16)), none⟩, ⟨(some 27), .bin .add (.t 24) (.t 26), none⟩, ⟨(some 0), .mv (.t 27), none⟩] none)
 (.seq (.reg [⟨(some 28), .mv (.t 0), none⟩, ⟨(some 29), .mv (.t 0), none⟩, ⟨(some 30), .bin .shr (.t 29) (.k (.int .u64 32)), none⟩, ⟨(some 31), .bin .add (.t 28) (.t 30), none⟩, ⟨(some 0), .mv (.t 31), none⟩] none)
 (.seq (.reg [⟨(some 32), .mv (.t 0), none⟩, ⟨(some 33), .conv .i64 (.t 32), none⟩, ⟨(some 34), .bin .and (.t 33) (.k (.int .i64 127)), none⟩, ⟨(some 2), .mv (.t 34), none⟩] none)
 .ret))))))))⟩
/-- besom/set.each -/
def m36 : MFn := ⟨1, 4, [.tmp 2], (.seq (.reg [⟨(some 1), .box 65 (.t 0), none⟩, ⟨(some 2), .mv (.k .nilfn), none⟩] none)
 (.seq (.reg [⟨(some 3), .mkf (.func 43) [] [(.t 1)], none⟩, ⟨(some 2), .mv (.t 3), none⟩] none)
 .ret))⟩
/-- strconv.Itoa -/
def m37 : MFn := ⟨1, 5, [.tmp 2], (.seq (.reg [⟨(some 2), .mv (.k (.str ⟨#[]⟩)), none⟩] none)
 (.seq (.reg [⟨(some 3), .mv (.t 0), none⟩, ⟨(some 4), .call 68 (.k (.fn (.func 45) [] [])) [(.t 3)], none⟩, ⟨(some 2), .mv (.t 4), none⟩] none)
 .ret))⟩
/-- strings.Join -/
def m38 : MFn := ⟨2, 75, [.tmp 4], (.seq (.reg [⟨(some 4), .mv (.k (.str ⟨#[]⟩)), none⟩] none)
 (.seq (.seq (.reg [⟨(some 11), .mv (.t 0), none⟩, ⟨(some 12), .len (.t 11), none⟩] none)
 (.block 0 (.seq (.reg [⟨(some 14), .bin .eql (.t 12) (.k (.int .i64 0)), none⟩, ⟨(some 13), .mv (.t 14), none⟩] none)
 (.cond (.t 13) (.seq (.reg [⟨(some 4), .mv (.k (.str ⟨#[]⟩)), none⟩] none)
 .ret) (.seq (.reg [⟨(some 16), .bin .eql (.t 12) (.k (.int .i64 1)), none⟩, ⟨(some 15), .mv (.t 16), none⟩] none)
 (.cond (.t 15) (.seq (.reg [⟨(some 17), .mv (.t 0), none⟩, ⟨(some 18), .ixs 1 (.t 17) (.k (.int .i64 0)), none⟩, ⟨(some 19), .ld none (.t 18), none⟩, ⟨(some 4), .mv (.t 19), none⟩] none)
 .ret) .skip))))))
 (.seq (.reg [⟨(some 5), .mv (.k (.int .i64 0)), none⟩] none)
 (.seq (.seq (.reg [⟨(some 20), .mv (.t 1), none⟩, ⟨(some 21), .lens (.t 20), none⟩, ⟨(some 22), .bin .gtr (.t 21) (.k (.int .i64 0)), none⟩] none)
 (.cond (.t 22) (.seq (.seq (.reg [⟨(some 23), .mv (.t 1), none⟩, ⟨(some 24), .lens (.t 23), none⟩, ⟨(some 25), .mv (.t 0), none⟩, ⟨(some 26), .len (.t 25), none⟩, ⟨(some 27), .bin .sub (.t 26) (.k (.int .i64 1)), none⟩, ⟨(some 28), .bin .quo (.k (.int .i64 9223372036854775807)) (.t 27), none⟩, ⟨(some 29), .bin .geq (.t 24) (.t 28), none⟩] none)
 (.cond (.t 29) (.reg [⟨(some 30), .stop, none⟩, ⟨none, .stop, none⟩] none) .skip))
 (.reg [⟨(some 31), .mv (.t 5), none⟩, ⟨(some 32), .mv (.t 1), none⟩, ⟨(some 33), .lens (.t 32), none⟩, ⟨(some 34), .mv (.t 0), none⟩, ⟨(some 35), .len (.t 34), none⟩, ⟨(some 36), .bin .sub (.t 35) (.k (.int .i64 1)), none⟩, ⟨(some 37), .bin .mul (.t 33) (.t 36), none⟩, ⟨(some 38), .bin .add (.t 31) (.t 37), none⟩, ⟨(some 5), .mv (.t 38), none⟩] none)) .skip))
 (.seq (.seq (.reg [⟨(some 39), .mv (.t 0), none⟩, ⟨(some 40), .len (.t 39), none⟩, ⟨(some 41), .mv (.k (.int .i64 0)), none⟩] none)
 (.block 1 (.loop (.seq (.reg [⟨(some 42), .bin .lss (.t 41) (.t 40), none⟩] none)
 (.seq (.cond (.t 42) .skip (.exit 1))
 (.seq (.block 2 (.seq (.reg [⟨(some 43), .ixs 1 (.t 39) (.t 41), none⟩, ⟨(some 44), .ld none (.t 43), none⟩, ⟨(some 7), .mv (.t 44), none⟩] none)
 (.seq (.seq (.reg [⟨(some 45), .mv (.t 7), none⟩, ⟨(some 46), .lens (.t 45), none⟩, ⟨(some 47), .mv (.t 5), none⟩, ⟨(some 48), .bin .sub (.k (.int .i64 9223372036854775807)) (.t 47), none⟩, ⟨(some 49), .bin .gtr (.t 46) (.t 48), none⟩] none)
 (.cond (.t 49) (.reg [⟨(some 50), .stop, none⟩, ⟨none, .stop, none⟩] none) .skip))
 (.reg [⟨(some 51), .mv (.t 5), none⟩, ⟨(some 52), .mv (.t 7), none⟩, ⟨(some 53), .lens (.t 52), none⟩, ⟨(some 54), .bin .add (.t 51) (.t 53), none⟩, ⟨(some 5), .mv (.t 54), none⟩] none))))
 (.reg [⟨(some 55), .bin .add (.t 41) (.k (.int .i64 1)), none⟩, ⟨(some 41), .mv (.t 55), none⟩] none)))))))
 (.seq (.reg [⟨(some 8), .alloc 72 [.nilptr, .nils], none⟩] none)
 (.seq (.reg [⟨(some 56), .mv (.t 5), none⟩, ⟨(some 57), .call 121 (.k (.fn (.func 46) [] [])) [(.t 8), (.t 56)], none⟩] none)
 (.seq (.reg [⟨(some 58), .mv (.t 0), none⟩, ⟨(some 59), .ixs 1 (.t 58) (.k (.int .i64 0)), none⟩, ⟨(some 60), .ld none (.t 59), none⟩, ⟨(some 61), .call 125 (.k (.fn (.func 47) [] [])) [(.t 8), (.t 60)], none⟩] none)
 (.seq (.seq (.reg [⟨(some 62), .mv (.t 0), none⟩, ⟨(some 63), .sll 1 (.t 62) (some (.k (.int .i64 1))) none, none⟩, ⟨(some 64), .len (.t 63), none⟩, ⟨(some 65), .mv (.k (.int .i64 0)), none⟩] none)
 (.block 3 (.loop (.seq (.reg [⟨(some 66), .bin .lss (.t 65) (.t 64), none⟩] none)
 (.seq (.cond (.t 66) .skip (.exit 3))
 (.seq (.block 4 (.seq (.reg [⟨(some 67), .ixs 1 (.t 63) (.t 65), none⟩, ⟨(some 68), .ld none (.t 67), none⟩, ⟨(some 10), .mv (.t 68), none⟩] none)
 (.seq (.reg [⟨(some 69), .mv (.t 1), none⟩, ⟨(some 70), .call 134 (.k (.fn (.func 47) [] [])) [(.t 8), (.t 69)], none⟩] none)
 (.reg [⟨(some 71), .mv (.t 10), none⟩, ⟨(some 72), .call 136 (.k (.fn (.func 47) [] [])) [(.t 8), (.t 71)], none⟩] none))))
 (.reg [⟨(some 73), .bin .add (.t 65) (.k (.int .i64 1)), none⟩, ⟨(some 65), .mv (.t 73), none⟩] none)))))))
 (.seq (.reg [⟨(some 74), .call 138 (.k (.fn (.func 48) [] [])) [(.t 8)], none⟩, ⟨(some 4), .mv (.t 74), none⟩] none)
 .ret))))))))))⟩
/-- besom/besomref02.Digits -/
def m39 : MFn := ⟨1, 23, [.tmp 2], (.seq (.reg [⟨(some 2), .mv (.k (.str ⟨#[]⟩)), none⟩] none)
 (.seq (.reg [⟨(some 3), .mv (.k (.str ⟨#[]⟩)), none⟩] none)
 (.seq (.block 0 (.loop (.seq (.seq (.reg [⟨(some 4), .mv (.t 0), none⟩, ⟨(some 5), .bin .gtr (.t 4) (.k (.int .u64 9)), none⟩] none)
 (.cond (.t 5) .skip (.exit 0)))
 (.block 1 (.seq (.reg [⟨(some 6), .mv (.t 0), none⟩, ⟨(some 7), .bin .rem (.t 6) (.k (.int .u64 10)), none⟩, ⟨(some 8), .bin .add (.k (.int .u64 48)) (.t 7), none⟩, ⟨(some 9), .conv .u8 (.t 8), none⟩, ⟨(some 10), .bslt 1 [(.t 9)], none⟩, ⟨(some 11), .stop, none⟩, ⟨(some 12), .mv (.t 3), none⟩, ⟨(some 13), .bin .add (.t 11) (.t 12), none⟩, ⟨(some 3), .mv (.t 13), none⟩] none)
 (.reg [⟨(some 14), .mv (.t 0), none⟩, ⟨(some 15), .bin .quo (.t 14) (.k (.int .u64 10)), none⟩, ⟨(some 0), .mv (.t 15), none⟩] none))))))
 (.seq (.reg [⟨(some 16), .mv (.t 0), none⟩, ⟨(some 17), .bin .add (.k (.int .u64 48)) (.t 16), none⟩, ⟨(some 18), .conv .u8 (.t 17), none⟩, ⟨(some 19), .bslt 1 [(.t 18)], none⟩, ⟨(some 20), .stop, none⟩, ⟨(some 21), .mv (.t 3), none⟩, ⟨(some 22), .bin .add (.t 20) (.t 21), none⟩, ⟨(some 2), .mv (.t 22), none⟩] none)
 .ret))))⟩
/-- strings.genSplit -/
def m40 : MFn := ⟨4, 66, [.tmp 8], (.seq (.reg [⟨(some 8), .mv (.k .nils), none⟩] none)
 (.seq (.seq (.reg [⟨(some 12), .mv (.t 3), none⟩, ⟨(some 13), .bin .eql (.t 12) (.k (.int .i64 0)), none⟩] none)
 (.cond (.t 13) (.seq (.reg [⟨(some 8), .mv (.k .nils), none⟩] none)
 .ret) .skip))
 (.seq (.seq (.reg [⟨(some 14), .mv (.t 1), none⟩, ⟨(some 15), .bin .eql (.t 14) (.k (.str ⟨#[]⟩)), none⟩] none)
 (.cond (.t 15) (.seq (.reg [⟨(some 16), .mv (.t 0), none⟩, ⟨(some 17), .mv (.t 3), none⟩, ⟨(some 18), .call 82 (.k (.fn (.func 49) [] [])) [(.t 16), (.t 17)], none⟩, ⟨(some 8), .mv (.t 18), none⟩] none)
 .ret) .skip))
 (.seq (.seq (.reg [⟨(some 19), .mv (.t 3), none⟩, ⟨(some 20), .bin .lss (.t 19) (.k (.int .i64 0)), none⟩] none)
 (.cond (.t 20) (.reg [⟨(some 21), .mv (.t 0), none⟩, ⟨(some 22), .mv (.t 1), none⟩, ⟨(some 23), .call 87 (.k (.fn (.func 50) [] [])) [(.t 21), (.t 22)], none⟩, ⟨(some 24), .bin .add (.t 23) (.k (.int .i64 1)), none⟩, ⟨(some 3), .mv (.t 24), none⟩] none) .skip))
 (.seq (.reg [⟨(some 25), .mv (.t 3), none⟩, ⟨(some 26), .mv (.t 0), none⟩, ⟨(some 27), .lens (.t 26), none⟩, ⟨(some 28), .bin .add (.t 27) (.k (.int .i64 1)), none⟩, ⟨(some 29), .mn (.t 25) (.t 28), none⟩, ⟨(some 3), .mv (.t 29), none⟩] none)
 (.seq (.reg [⟨(some 30), .mv (.t 3), none⟩, ⟨(some 31), .mks 95 1 16 (.str ⟨#[]⟩) (.t 30), none⟩, ⟨(some 9), .mv (.t 31), none⟩] none)
 (.seq (.reg [⟨(some 32), .mv (.t 3), none⟩, ⟨(some 33), .bin .sub (.t 32) (.k (.int .i64 1)), none⟩, ⟨(some 3), .mv (.t 33), none⟩] none)
 (.seq (.reg [⟨(some 10), .mv (.k (.int .i64 0)), none⟩] none)
 (.seq (.block 0 (.loop (.seq (.seq (.reg [⟨(some 34), .mv (.t 10), none⟩, ⟨(some 35), .mv (.t 3), none⟩, ⟨(some 36), .bin .lss (.t 34) (.t 35), none⟩] none)
 (.cond (.t 36) .skip (.exit 0)))
 (.block 1 (.seq (.reg [⟨(some 37), .mv (.t 0), none⟩, ⟨(some 38), .mv (.t 1), none⟩, ⟨(some 39), .call 103 (.k (.fn (.func 51) [] [])) [(.t 37), (.t 38)], none⟩, ⟨(some 11), .mv (.t 39), none⟩] none)
 (.seq (.seq (.reg [⟨(some 40), .mv (.t 11), none⟩, ⟨(some 41), .bin .lss (.t 40) (.k (.int .i64 0)), none⟩] none)
 (.cond (.t 41) (.exit 0) .skip))
 (.seq (.reg [⟨(some 42), .mv (.t 9), none⟩, ⟨(some 43), .mv (.t 10), none⟩, ⟨(some 44), .mv (.t 0), none⟩, ⟨(some 45), .mv (.t 11), none⟩, ⟨(some 46), .mv (.t 2), none⟩, ⟨(some 47), .bin .add (.t 45) (.t 46), none⟩, ⟨(some 48), .slstr (.t 44) none (some (.t 47)), none⟩, ⟨(some 49), .ixs 1 (.t 42) (.t 43), none⟩, ⟨none, .st 1 (.t 49) (.t 48), none⟩] none)
 (.seq (.reg [⟨(some 50), .mv (.t 0), none⟩, ⟨(some 51), .mv (.t 11), none⟩, ⟨(some 52), .mv (.t 1), none⟩, ⟨(some 53), .lens (.t 52), none⟩, ⟨(some 54), .bin .add (.t 51) (.t 53), none⟩, ⟨(some 55), .slstr (.t 50) (some (.t 54)) none, none⟩, ⟨(some 0), .mv (.t 55), none⟩] none)
 (.reg [⟨(some 56), .mv (.t 10), none⟩, ⟨(some 57), .bin .add (.t 56) (.k (.int .i64 1)), none⟩, ⟨(some 10), .mv (.t 57), none⟩] none)))))))))
 (.seq (.reg [⟨(some 58), .mv (.t 9), none⟩, ⟨(some 59), .mv (.t 10), none⟩, ⟨(some 60), .mv (.t 0), none⟩, ⟨(some 61), .ixs 1 (.t 58) (.t 59), none⟩, ⟨none, .st 1 (.t 61) (.t 60), none⟩] none)
 (.seq (.reg [⟨(some 62), .mv (.t 9), none⟩, ⟨(some 63), .mv (.t 10), none⟩, ⟨(some 64), .bin .add (.t 63) (.k (.int .i64 1)), none⟩, ⟨(some 65), .sll 1 (.t 62) none (some (.t 64)), none⟩, ⟨(some 8), .mv (.t 65), none⟩] none)
 .ret)))))))))))⟩
/-- internal/strconv.Atoi -/
def m41 : MFn := ⟨1, 77, [.tmp 2, .tmp 3], (.seq (.reg [⟨(some 2), .mv (.k (.int .i64 0)), none⟩, ⟨(some 3), .mv (.k .nilif), none⟩] none)
 (.seq (.reg [⟨(some 11), .mv (.t 0), none⟩, ⟨(some 12), .lens (.t 11), none⟩, ⟨(some 4), .mv (.t 12), none⟩] none)
 (.seq (.seq (.reg [⟨(some 13), .mv (.k (.bool false)), none⟩, ⟨(some 14), .mv (.t 4), (some (13, true))⟩, ⟨(some 15), .bin .lss (.k (.int .i64 0)) (.t 14), (some (13, true))⟩, ⟨(some 16), .mv (.t 15), (some (13, true))⟩, ⟨(some 17), .mv (.t 4), (some (16, true))⟩, ⟨(some 18), .bin .lss (.t 17) (.k (.int .i64 10)), (some (16, true))⟩, ⟨(some 19), .pick (.t 16) (.t 18) (.k (.bool false)), (some (13, true))⟩, ⟨(some 20), .pick (.t 13) (.t 19) (.k (.bool false)), none⟩, ⟨(some 21), .mv (.t 20), none⟩, ⟨(some 22), .mv (.k (.bool true)), (some (21, false))⟩, ⟨(some 23), .mv (.t 4), (some (22, true))⟩, ⟨(some 24), .bin .lss (.k (.int .i64 0)) (.t 23), (some (22, true))⟩, ⟨(some 25), .mv (.t 24), (some (22, true))⟩, ⟨(some 26), .mv (.t 4), (some (25, true))⟩, ⟨(some 27), .bin .lss (.t 26) (.k (.int .i64 19)), (some (25, true))⟩, ⟨(some 28), .pick (.t 25) (.t 27) (.k (.bool false)), (some (22, true))⟩, ⟨(some 29), .pick (.t 22) (.t 28) (.k (.bool false)), (some (21, false))⟩, ⟨(some 30), .pick (.t 21) (.k (.bool true)) (.t 29), none⟩] none)
 (.cond (.t 30) (.seq (.reg [⟨(some 31), .mv (.t 0), none⟩, ⟨(some 5), .mv (.t 31), none⟩] none)
 (.seq (.seq (.reg [⟨(some 32), .mv (.t 0), none⟩, ⟨(some 33), .ixstr (.t 32) (.k (.int .i64 0)), none⟩, ⟨(some 34), .bin .eql (.t 33) (.k (.int .u8 45)), none⟩, ⟨(some 35), .mv (.t 34), none⟩, ⟨(some 36), .mv (.t 0), (some (35, false))⟩, ⟨(some 37), .ixstr (.t 36) (.k (.int .i64 0)), (some (35, false))⟩, ⟨(some 38), .bin .eql (.t 37) (.k (.int .u8 43)), (some (35, false))⟩, ⟨(some 39), .pick (.t 35) (.k (.bool true)) (.t 38), none⟩] none)
 (.cond (.t 39) (.seq (.reg [⟨(some 40), .mv (.t 0), none⟩, ⟨(some 41), .slstr (.t 40) (some (.k (.int .i64 1))) none, none⟩, ⟨(some 0), .mv (.t 41), none⟩] none)
 (.seq (.reg [⟨(some 42), .mv (.t 0), none⟩, ⟨(some 43), .lens (.t 42), none⟩, ⟨(some 44), .bin .lss (.t 43) (.k (.int .i64 1)), none⟩] none)
 (.cond (.t 44) (.seq (.reg [⟨(some 45), .stop, none⟩, ⟨(some 2), .mv (.k (.int .i64 0)), none⟩, ⟨(some 3), .mv (.t 45), none⟩] none)
 .ret) .skip))) .skip))
 (.seq (.reg [⟨(some 6), .mv (.k (.int .i64 0)), none⟩] none)
 (.seq (.seq (.reg [⟨(some 46), .mv (.t 0), none⟩, ⟨(some 47), .stop, none⟩, ⟨(some 48), .len (.t 47), none⟩, ⟨(some 49), .mv (.k (.int .i64 0)), none⟩] none)
 (.block 0 (.loop (.seq (.reg [⟨(some 50), .bin .lss (.t 49) (.t 48), none⟩] none)
 (.seq (.cond (.t 50) .skip (.exit 0))
 (.seq (.block 1 (.seq (.reg [⟨(some 51), .ixs 1 (.t 47) (.t 49), none⟩, ⟨(some 52), .ld none (.t 51), none⟩, ⟨(some 8), .mv (.t 52), none⟩] none)
 (.seq (.reg [⟨(some 53), .mv (.t 8), none⟩, ⟨(some 54), .bin .sub (.t 53) (.k (.int .u8 48)), none⟩, ⟨(some 8), .mv (.t 54), none⟩] none)
 (.seq (.seq (.reg [⟨(some 55), .mv (.t 8), none⟩, ⟨(some 56), .bin .gtr (.t 55) (.k (.int .u8 9)), none⟩] none)
 (.cond (.t 56) (.seq (.reg [⟨(some 57), .stop, none⟩, ⟨(some 2), .mv (.k (.int .i64 0)), none⟩, ⟨(some 3), .mv (.t 57), none⟩] none)
 .ret) .skip))
 (.reg [⟨(some 58), .mv (.t 6), none⟩, ⟨(some 59), .bin .mul (.t 58) (.k (.int .i64 10)), none⟩, ⟨(some 60), .mv (.t 8), none⟩, ⟨(some 61), .conv .i64 (.t 60), none⟩, ⟨(some 62), .bin .add (.t 59) (.t 61), none⟩, ⟨(some 6), .mv (.t 62), none⟩] none)))))
 (.reg [⟨(some 63), .bin .add (.t 49) (.k (.int .i64 1)), none⟩, ⟨(some 49), .mv (.t 63), none⟩] none)))))))
 (.seq (.seq (.reg [⟨(some 64), .mv (.t 5), none⟩, ⟨(some 65), .ixstr (.t 64) (.k (.int .i64 0)), none⟩, ⟨(some 66), .bin .eql (.t 65) (.k (.int .u8 45)), none⟩] none)
 (.cond (.t 66) (.reg [⟨(some 67), .mv (.t 6), none⟩, ⟨(some 68), .un .neg (.t 67), none⟩, ⟨(some 6), .mv (.t 68), none⟩] none) .skip))
 (.seq (.reg [⟨(some 69), .mv (.t 6), none⟩, ⟨(some 2), .mv (.t 69), none⟩, ⟨(some 3), .mv (.k .nilif), none⟩] none)
 .ret)))))) .skip))
 (.seq (.reg [⟨(some 71), .mv (.t 0), none⟩, ⟨(some 72), .call 136 (.k (.fn (.func 52) [] [])) [(.t 71), (.k (.int .i64 10)), (.k (.int .i64 0))], none⟩, ⟨(some 70), .mv (.t 72), none⟩, ⟨(some 73), .ext (.t 70) 0, none⟩, ⟨(some 74), .ext (.t 70) 1, none⟩, ⟨(some 9), .mv (.t 73), none⟩, ⟨(some 10), .mv (.t 74), none⟩] none)
 (.seq (.reg [⟨(some 75), .mv (.t 9), none⟩, ⟨(some 76), .mv (.t 10), none⟩, ⟨(some 2), .mv (.t 75), none⟩, ⟨(some 3), .mv (.t 76), none⟩] none)
 .ret)))))⟩
/-- strconv.toError -/
def m42 : MFn := ⟨5, 43, [.tmp 10], (.seq (.reg [⟨(some 10), .mv (.k .nilif), none⟩] none)
 (.seq (.seq (.reg [⟨(some 11), .mv (.t 4), none⟩] none)
 (.block 0 (.seq (.reg [⟨(some 13), .stop, none⟩, ⟨(some 14), .stop, none⟩, ⟨(some 12), .mv (.t 14), none⟩] none)
 (.cond (.t 12) (.seq (.reg [⟨(some 15), .mv (.t 0), none⟩, ⟨(some 16), .mv (.t 1), none⟩, ⟨(some 17), .call 81 (.k (.fn (.func 53) [] [])) [(.t 15), (.t 16)], none⟩, ⟨(some 18), .stop, none⟩, ⟨(some 10), .mv (.t 18), none⟩] none)
 .ret) (.seq (.reg [⟨(some 20), .stop, none⟩, ⟨(some 21), .stop, none⟩, ⟨(some 19), .mv (.t 21), none⟩] none)
 (.cond (.t 19) (.seq (.reg [⟨(some 22), .mv (.t 0), none⟩, ⟨(some 23), .mv (.t 1), none⟩, ⟨(some 24), .call 88 (.k (.fn (.func 54) [] [])) [(.t 22), (.t 23)], none⟩, ⟨(some 25), .stop, none⟩, ⟨(some 10), .mv (.t 25), none⟩] none)
 .ret) (.seq (.reg [⟨(some 27), .stop, none⟩, ⟨(some 28), .stop, none⟩, ⟨(some 26), .mv (.t 28), none⟩] none)
 (.cond (.t 26) (.seq (.reg [⟨(some 29), .mv (.t 0), none⟩, ⟨(some 30), .mv (.t 1), none⟩, ⟨(some 31), .mv (.t 2), none⟩, ⟨(some 32), .call 96 (.k (.fn (.func 55) [] [])) [(.t 29), (.t 30), (.t 31)], none⟩, ⟨(some 33), .stop, none⟩, ⟨(some 10), .mv (.t 33), none⟩] none)
 .ret) (.seq (.reg [⟨(some 35), .stop, none⟩, ⟨(some 36), .stop, none⟩, ⟨(some 34), .mv (.t 36), none⟩] none)
 (.cond (.t 34) (.seq (.reg [⟨(some 37), .mv (.t 0), none⟩, ⟨(some 38), .mv (.t 1), none⟩, ⟨(some 39), .mv (.t 3), none⟩, ⟨(some 40), .call 104 (.k (.fn (.func 56) [] [])) [(.t 37), (.t 38), (.t 39)], none⟩, ⟨(some 41), .stop, none⟩, ⟨(some 10), .mv (.t 41), none⟩] none)
 .ret) .skip))))))))))
 (.seq (.reg [⟨(some 42), .mv (.t 4), none⟩, ⟨(some 10), .mv (.t 42), none⟩] none)
 .ret)))⟩
/-- besom/set.each$1 -/
def m43 : MFn := ⟨2, 15, [], (.block 0 (.loop (.seq (.seq (.reg [⟨(some 3), .ld none (.t 1), none⟩, ⟨(some 4), .bin .neq (.t 3) (.k (.int .u64 0)), none⟩] none)
 (.cond (.t 4) .skip (.exit 0)))
 (.seq (.block 1 (.seq (.reg [⟨(some 9), .mv (.t 0), none⟩, ⟨(some 10), .ld none (.t 1), none⟩, ⟨(some 11), .call 75 (.k (.fn (.func 44) [] [])) [(.t 10)], none⟩, ⟨(some 12), .bin .add (.t 11) (.k (.int .i64 1)), none⟩, ⟨(some 13), .call 77 (.t 9) [(.t 12)], none⟩, ⟨(some 14), .un .not (.t 13), none⟩] none)
 (.cond (.t 14) .ret .skip)))
 (.reg [⟨(some 5), .ld none (.t 1), none⟩, ⟨(some 6), .ld none (.t 1), none⟩, ⟨(some 7), .bin .sub (.t 6) (.k (.int .u64 1)), none⟩, ⟨(some 8), .bin .and (.t 5) (.t 7), none⟩, ⟨none, .st 1 (.t 1) (.t 8), none⟩] none)))))⟩
/-- math/bits.TrailingZeros64 -/
def m44 : MFn := ⟨1, 14, [.tmp 2], (.seq (.reg [⟨(some 2), .mv (.k (.int .i64 0)), none⟩] none)
 (.seq (.seq (.reg [⟨(some 3), .mv (.t 0), none⟩, ⟨(some 4), .bin .eql (.t 3) (.k (.int .u64 0)), none⟩] none)
 (.cond (.t 4) (.seq (.reg [⟨(some 2), .mv (.k (.int .i64 64)), none⟩] none)
 .ret) .skip))
 (.seq (.reg [⟨(some 5), .mv (.t 0), none⟩, ⟨(some 6), .mv (.t 0), none⟩, ⟨(some 7), .un .neg (.t 6), none⟩, ⟨(some 8), .bin .and (.t 5) (.t 7), none⟩, ⟨(some 9), .bin .mul (.t 8) (.k (.int .u64 285870213051353865)), none⟩, ⟨(some 10), .bin .shr (.t 9) (.k (.int .u64 58)), none⟩, ⟨(some 11), .ixa 64 1 (.g 0) (.t 10), none⟩, ⟨(some 12), .ld none (.t 11), none⟩, ⟨(some 13), .conv .i64 (.t 12), none⟩, ⟨(some 2), .mv (.t 13), none⟩] none)
 .ret)))⟩
/-- internal/strconv.Itoa -/
def m45 : MFn := ⟨1, 5, [.tmp 2], (.seq (.reg [⟨(some 2), .mv (.k (.str ⟨#[]⟩)), none⟩] none)
 (.seq (.reg [⟨(some 3), .mv (.t 0), none⟩, ⟨(some 4), .call 68 (.k (.fn (.func 57) [] [])) [(.t 3), (.k (.int .i64 10))], none⟩, ⟨(some 2), .mv (.t 4), none⟩] none)
 .ret))⟩
/-- (*strings.Builder).Grow -/
def m46 : MFn := ⟨2, 25, [], (.seq (.reg [⟨(some 4), .mv (.t 0), none⟩, ⟨(some 5), .call 69 (.k (.fn (.func 58) [] [])) [(.t 4)], none⟩] none)
 (.seq (.seq (.reg [⟨(some 6), .mv (.t 1), none⟩, ⟨(some 7), .bin .lss (.t 6) (.k (.int .i64 0)), none⟩] none)
 (.cond (.t 7) (.reg [⟨(some 8), .stop, none⟩, ⟨none, .stop, none⟩] none) .skip))
 (.seq (.reg [⟨(some 9), .mv (.t 0), none⟩, ⟨(some 10), .nilc (.t 9), none⟩, ⟨(some 11), .fa 1 (.t 10), none⟩, ⟨(some 12), .ld none (.t 11), none⟩, ⟨(some 13), .capn (.t 12), none⟩, ⟨(some 14), .mv (.t 0), none⟩, ⟨(some 15), .nilc (.t 14), none⟩, ⟨(some 16), .fa 1 (.t 15), none⟩, ⟨(some 17), .ld none (.t 16), none⟩, ⟨(some 18), .len (.t 17), none⟩, ⟨(some 19), .bin .sub (.t 13) (.t 18), none⟩, ⟨(some 20), .mv (.t 1), none⟩, ⟨(some 21), .bin .lss (.t 19) (.t 20), none⟩] (some [(3, 8), (4, 8), (3, 9), (4, 9)]))
 (.cond (.t 21) (.reg [⟨(some 22), .mv (.t 0), none⟩, ⟨(some 23), .mv (.t 1), none⟩, ⟨(some 24), .call 88 (.k (.fn (.func 59) [] [])) [(.t 22), (.t 23)], none⟩] none) .skip))))⟩
/-- (*strings.Builder).WriteString -/
def m47 : MFn := ⟨2, 19, [.tmp 4, .tmp 5], (.seq (.reg [⟨(some 4), .mv (.k (.int .i64 0)), none⟩, ⟨(some 5), .mv (.k .nilif), none⟩] none)
 (.seq (.reg [⟨(some 6), .mv (.t 0), none⟩, ⟨(some 7), .call 71 (.k (.fn (.func 58) [] [])) [(.t 6)], none⟩] none)
 (.seq (.reg [⟨(some 8), .mv (.t 0), none⟩, ⟨(some 9), .mv (.t 0), none⟩, ⟨(some 10), .nilc (.t 9), none⟩, ⟨(some 11), .fa 1 (.t 10), none⟩, ⟨(some 12), .ld none (.t 11), none⟩, ⟨(some 13), .mv (.t 1), none⟩, ⟨(some 14), .stop, none⟩, ⟨(some 15), .nilc (.t 8), none⟩, ⟨(some 16), .fa 1 (.t 15), none⟩, ⟨none, .st 1 (.t 16) (.t 14), none⟩] none)
 (.seq (.reg [⟨(some 17), .mv (.t 1), none⟩, ⟨(some 18), .lens (.t 17), none⟩, ⟨(some 4), .mv (.t 18), none⟩, ⟨(some 5), .mv (.k .nilif), none⟩] none)
 .ret))))⟩
/-- (*strings.Builder).String -/
def m48 : MFn := ⟨1, 14, [.tmp 2], (.seq (.reg [⟨(some 2), .mv (.k (.str ⟨#[]⟩)), none⟩] none)
 (.seq (.reg [⟨(some 3), .mv (.t 0), none⟩, ⟨(some 4), .nilc (.t 3), none⟩, ⟨(some 5), .fa 1 (.t 4), none⟩, ⟨(some 6), .ld none (.t 5), none⟩, ⟨(some 7), .stop, none⟩, ⟨(some 8), .mv (.t 0), none⟩, ⟨(some 9), .nilc (.t 8), none⟩, ⟨(some 10), .fa 1 (.t 9), none⟩, ⟨(some 11), .ld none (.t 10), none⟩, ⟨(some 12), .len (.t 11), none⟩, ⟨(some 13), .stop, none⟩, ⟨(some 2), .mv (.t 13), none⟩] (some [(3, 8), (4, 8), (3, 9), (4, 9)]))
 .ret))⟩
/-- strings.explode -/
def m49 : MFn := ⟨2, 50, [.tmp 4], (.seq (.reg [⟨(some 4), .mv (.k .nils), none⟩] none)
 (.seq (.reg [⟨(some 10), .mv (.t 0), none⟩, ⟨(some 11), .call 75 (.k (.fn (.func 60) [] [])) [(.t 10)], none⟩, ⟨(some 5), .mv (.t 11), none⟩] none)
 (.seq (.seq (.reg [⟨(some 12), .mv (.t 1), none⟩, ⟨(some 13), .bin .lss (.t 12) (.k (.int .i64 0)), none⟩, ⟨(some 14), .mv (.t 13), none⟩, ⟨(some 15), .mv (.t 1), (some (14, false))⟩, ⟨(some 16), .mv (.t 5), (some (14, false))⟩, ⟨(some 17), .bin .gtr (.t 15) (.t 16), (some (14, false))⟩, ⟨(some 18), .pick (.t 14) (.k (.bool true)) (.t 17), none⟩] none)
 (.cond (.t 18) (.reg [⟨(some 19), .mv (.t 5), none⟩, ⟨(some 1), .mv (.t 19), none⟩] none) .skip))
 (.seq (.reg [⟨(some 20), .mv (.t 1), none⟩, ⟨(some 21), .mks 85 1 16 (.str ⟨#[]⟩) (.t 20), none⟩, ⟨(some 6), .mv (.t 21), none⟩] none)
 (.seq (.seq (.reg [⟨(some 7), .mv (.k (.int .i64 0)), none⟩] none)
 (.block 0 (.loop (.seq (.seq (.reg [⟨(some 22), .mv (.t 7), none⟩, ⟨(some 23), .mv (.t 1), none⟩, ⟨(some 24), .bin .sub (.t 23) (.k (.int .i64 1)), none⟩, ⟨(some 25), .bin .lss (.t 22) (.t 24), none⟩] none)
 (.cond (.t 25) .skip (.exit 0)))
 (.seq (.block 1 (.seq (.reg [⟨(some 29), .mv (.t 0), none⟩, ⟨(some 30), .call 94 (.k (.fn (.func 61) [] [])) [(.t 29)], none⟩, ⟨(some 28), .mv (.t 30), none⟩, ⟨(some 31), .ext (.t 28) 0, none⟩, ⟨(some 32), .ext (.t 28) 1, none⟩, ⟨(some 8), .mv (.t 31), none⟩, ⟨(some 9), .mv (.t 32), none⟩] none)
 (.seq (.reg [⟨(some 33), .mv (.t 6), none⟩, ⟨(some 34), .mv (.t 7), none⟩, ⟨(some 35), .mv (.t 0), none⟩, ⟨(some 36), .mv (.t 9), none⟩, ⟨(some 37), .slstr (.t 35) none (some (.t 36)), none⟩, ⟨(some 38), .ixs 1 (.t 33) (.t 34), none⟩, ⟨none, .st 1 (.t 38) (.t 37), none⟩] none)
 (.reg [⟨(some 39), .mv (.t 0), none⟩, ⟨(some 40), .mv (.t 9), none⟩, ⟨(some 41), .slstr (.t 39) (some (.t 40)) none, none⟩, ⟨(some 0), .mv (.t 41), none⟩] none))))
 (.reg [⟨(some 26), .mv (.t 7), none⟩, ⟨(some 27), .bin .add (.t 26) (.k (.int .i64 1)), none⟩, ⟨(some 7), .mv (.t 27), none⟩] none))))))
 (.seq (.seq (.reg [⟨(some 42), .mv (.t 1), none⟩, ⟨(some 43), .bin .gtr (.t 42) (.k (.int .i64 0)), none⟩] none)
 (.cond (.t 43) (.reg [⟨(some 44), .mv (.t 6), none⟩, ⟨(some 45), .mv (.t 1), none⟩, ⟨(some 46), .bin .sub (.t 45) (.k (.int .i64 1)), none⟩, ⟨(some 47), .mv (.t 0), none⟩, ⟨(some 48), .ixs 1 (.t 44) (.t 46), none⟩, ⟨none, .st 1 (.t 48) (.t 47), none⟩] none) .skip))
 (.seq (.reg [⟨(some 49), .mv (.t 6), none⟩, ⟨(some 4), .mv (.t 49), none⟩] none)
 .ret)))))))⟩
/-- strings.Count -/
def m50 : MFn := ⟨2, 34, [.tmp 4], (.seq (.reg [⟨(some 4), .mv (.k (.int .i64 0)), none⟩] none)
 (.seq (.seq (.reg [⟨(some 7), .mv (.t 1), none⟩, ⟨(some 8), .lens (.t 7), none⟩, ⟨(some 9), .bin .eql (.t 8) (.k (.int .i64 0)), none⟩] none)
 (.cond (.t 9) (.seq (.reg [⟨(some 10), .mv (.t 0), none⟩, ⟨(some 11), .call 75 (.k (.fn (.func 60) [] [])) [(.t 10)], none⟩, ⟨(some 12), .bin .add (.t 11) (.k (.int .i64 1)), none⟩, ⟨(some 4), .mv (.t 12), none⟩] none)
 .ret) .skip))
 (.seq (.seq (.reg [⟨(some 13), .mv (.t 1), none⟩, ⟨(some 14), .lens (.t 13), none⟩, ⟨(some 15), .bin .eql (.t 14) (.k (.int .i64 1)), none⟩] none)
 (.cond (.t 15) (.seq (.reg [⟨(some 16), .mv (.t 0), none⟩, ⟨(some 17), .mv (.t 1), none⟩, ⟨(some 18), .ixstr (.t 17) (.k (.int .i64 0)), none⟩, ⟨(some 19), .call 83 (.k (.fn (.func 62) [] [])) [(.t 16), (.t 18)], none⟩, ⟨(some 4), .mv (.t 19), none⟩] none)
 .ret) .skip))
 (.seq (.reg [⟨(some 5), .mv (.k (.int .i64 0)), none⟩] none)
 (.block 0 (.loop (.block 1 (.seq (.reg [⟨(some 20), .mv (.t 0), none⟩, ⟨(some 21), .mv (.t 1), none⟩, ⟨(some 22), .call 86 (.k (.fn (.func 51) [] [])) [(.t 20), (.t 21)], none⟩, ⟨(some 6), .mv (.t 22), none⟩] none)
 (.seq (.seq (.reg [⟨(some 23), .mv (.t 6), none⟩, ⟨(some 24), .bin .eql (.t 23) (.k (.int .i64 (-1))), none⟩] none)
 (.cond (.t 24) (.seq (.reg [⟨(some 25), .mv (.t 5), none⟩, ⟨(some 4), .mv (.t 25), none⟩] none)
 .ret) .skip))
 (.seq (.reg [⟨(some 26), .mv (.t 5), none⟩, ⟨(some 27), .bin .add (.t 26) (.k (.int .i64 1)), none⟩, ⟨(some 5), .mv (.t 27), none⟩] none)
 (.reg [⟨(some 28), .mv (.t 0), none⟩, ⟨(some 29), .mv (.t 6), none⟩, ⟨(some 30), .mv (.t 1), none⟩, ⟨(some 31), .lens (.t 30), none⟩, ⟨(some 32), .bin .add (.t 29) (.t 31), none⟩, ⟨(some 33), .slstr (.t 28) (some (.t 32)) none, none⟩, ⟨(some 0), .mv (.t 33), none⟩] none)))))))))))⟩
/-- strings.Index -/
def m51 : MFn := ⟨2, 8, [.tmp 4], (.seq (.reg [⟨(some 4), .mv (.k (.int .i64 0)), none⟩] none)
 (.seq (.reg [⟨(some 5), .mv (.t 0), none⟩, ⟨(some 6), .mv (.t 1), none⟩, ⟨(some 7), .call 71 (.k (.fn (.func 63) [] [])) [(.t 5), (.t 6)], none⟩, ⟨(some 4), .mv (.t 7), none⟩] none)
 .ret))⟩
/-- internal/strconv.ParseInt -/
def m52 : MFn := ⟨3, 73, [.tmp 6, .tmp 7], (.seq (.reg [⟨(some 6), .mv (.k (.int .i64 0)), none⟩, ⟨(some 7), .mv (.k .nilif), none⟩] none)
 (.seq (.seq (.reg [⟨(some 12), .mv (.t 0), none⟩, ⟨(some 13), .bin .eql (.t 12) (.k (.str ⟨#[]⟩)), none⟩] none)
 (.cond (.t 13) (.seq (.reg [⟨(some 14), .stop, none⟩, ⟨(some 6), .mv (.k (.int .i64 0)), none⟩, ⟨(some 7), .mv (.t 14), none⟩] none)
 .ret) .skip))
 (.seq (.reg [⟨(some 8), .mv (.k (.bool false)), none⟩] none)
 (.seq (.seq (.reg [⟨(some 15), .mv (.t 0), none⟩, ⟨(some 16), .ixstr (.t 15) (.k (.int .i64 0)), none⟩] none)
 (.block 0 (.seq (.reg [⟨(some 18), .bin .eql (.t 16) (.k (.int .u8 43)), none⟩, ⟨(some 17), .mv (.t 18), none⟩] none)
 (.cond (.t 17) (.reg [⟨(some 19), .mv (.t 0), none⟩, ⟨(some 20), .slstr (.t 19) (some (.k (.int .i64 1))) none, none⟩, ⟨(some 0), .mv (.t 20), none⟩] none) (.seq (.reg [⟨(some 22), .bin .eql (.t 16) (.k (.int .u8 45)), none⟩, ⟨(some 21), .mv (.t 22), none⟩] none)
 (.cond (.t 21) (.seq (.reg [⟨(some 23), .mv (.t 0), none⟩, ⟨(some 24), .slstr (.t 23) (some (.k (.int .i64 1))) none, none⟩, ⟨(some 0), .mv (.t 24), none⟩] none)
 (.reg [⟨(some 8), .mv (.k (.bool true)), none⟩] none)) .skip))))))
 (.seq (.reg [⟨(some 9), .mv (.k (.int .u64 0)), none⟩] none)
 (.seq (.reg [⟨(some 26), .mv (.t 0), none⟩, ⟨(some 27), .mv (.t 1), none⟩, ⟨(some 28), .mv (.t 2), none⟩, ⟨(some 29), .call 93 (.k (.fn (.func 64) [] [])) [(.t 26), (.t 27), (.t 28)], none⟩, ⟨(some 25), .mv (.t 29), none⟩, ⟨(some 30), .ext (.t 25) 0, none⟩, ⟨(some 31), .ext (.t 25) 1, none⟩, ⟨(some 9), .mv (.t 30), none⟩, ⟨(some 7), .mv (.t 31), none⟩] none)
 (.seq (.seq (.reg [⟨(some 32), .mv (.t 7), none⟩, ⟨(some 33), .stop, none⟩, ⟨(some 34), .mv (.t 33), none⟩, ⟨(some 35), .mv (.t 7), (some (34, true))⟩, ⟨(some 36), .stop, (some (34, true))⟩, ⟨(some 37), .stop, (some (34, true))⟩, ⟨(some 38), .pick (.t 34) (.t 37) (.k (.bool false)), none⟩] none)
 (.cond (.t 38) (.seq (.reg [⟨(some 39), .mv (.t 7), none⟩, ⟨(some 6), .mv (.k (.int .i64 0)), none⟩, ⟨(some 7), .mv (.t 39), none⟩] none)
 .ret) .skip))
 (.seq (.seq (.reg [⟨(some 40), .mv (.t 2), none⟩, ⟨(some 41), .bin .eql (.t 40) (.k (.int .i64 0)), none⟩] none)
 (.cond (.t 41) (.reg [⟨(some 2), .mv (.k (.int .i64 64)), none⟩] none) .skip))
 (.seq (.reg [⟨(some 42), .mv (.t 2), none⟩, ⟨(some 43), .bin .sub (.t 42) (.k (.int .i64 1)), none⟩, ⟨(some 44), .conv .u64 (.t 43), none⟩, ⟨(some 45), .bin .shl (.k (.int .u64 1)) (.t 44), none⟩, ⟨(some 10), .mv (.t 45), none⟩] none)
 (.seq (.seq (.reg [⟨(some 46), .mv (.t 8), none⟩, ⟨(some 47), .un .not (.t 46), none⟩, ⟨(some 48), .mv (.t 47), none⟩, ⟨(some 49), .mv (.t 9), (some (48, true))⟩, ⟨(some 50), .mv (.t 10), (some (48, true))⟩, ⟨(some 51), .bin .geq (.t 49) (.t 50), (some (48, true))⟩, ⟨(some 52), .pick (.t 48) (.t 51) (.k (.bool false)), none⟩] none)
 (.cond (.t 52) (.seq (.reg [⟨(some 53), .mv (.t 10), none⟩, ⟨(some 54), .bin .sub (.t 53) (.k (.int .u64 1)), none⟩, ⟨(some 55), .conv .i64 (.t 54), none⟩, ⟨(some 56), .stop, none⟩, ⟨(some 6), .mv (.t 55), none⟩, ⟨(some 7), .mv (.t 56), none⟩] none)
 .ret) .skip))
 (.seq (.seq (.reg [⟨(some 57), .mv (.t 8), none⟩, ⟨(some 58), .mv (.t 57), none⟩, ⟨(some 59), .mv (.t 9), (some (58, true))⟩, ⟨(some 60), .mv (.t 10), (some (58, true))⟩, ⟨(some 61), .bin .gtr (.t 59) (.t 60), (some (58, true))⟩, ⟨(some 62), .pick (.t 58) (.t 61) (.k (.bool false)), none⟩] none)
 (.cond (.t 62) (.seq (.reg [⟨(some 63), .mv (.t 10), none⟩, ⟨(some 64), .conv .i64 (.t 63), none⟩, ⟨(some 65), .un .neg (.t 64), none⟩, ⟨(some 66), .stop, none⟩, ⟨(some 6), .mv (.t 65), none⟩, ⟨(some 7), .mv (.t 66), none⟩] none)
 .ret) .skip))
 (.seq (.reg [⟨(some 67), .mv (.t 9), none⟩, ⟨(some 68), .conv .i64 (.t 67), none⟩, ⟨(some 11), .mv (.t 68), none⟩] none)
 (.seq (.seq (.reg [⟨(some 69), .mv (.t 8), none⟩] none)
 (.cond (.t 69) (.reg [⟨(some 70), .mv (.t 11), none⟩, ⟨(some 71), .un .neg (.t 70), none⟩, ⟨(some 11), .mv (.t 71), none⟩] none) .skip))
 (.seq (.reg [⟨(some 72), .mv (.t 11), none⟩, ⟨(some 6), .mv (.t 72), none⟩, ⟨(some 7), .mv (.k .nilif), none⟩] none)
 .ret))))))))))))))⟩
/-- strconv.syntaxError -/
def m53 : MFn := ⟨2, 11, [.tmp 4], (.seq (.reg [⟨(some 4), .mv (.k .nilptr), none⟩] none)
 (.seq (.reg [⟨(some 5), .mv (.t 0), none⟩, ⟨(some 6), .mv (.t 1), none⟩, ⟨(some 7), .call 71 (.k (.fn (.func 65) [] [])) [(.t 6)], none⟩, ⟨(some 8), .ld none (.g 1), none⟩, ⟨(some 9), .bld [(.str ⟨#[]⟩), (.str ⟨#[]⟩), .nilif] [(0, 1, (.t 5)), (1, 1, (.t 7)), (2, 1, (.t 8))], none⟩, ⟨(some 10), .box 74 (.t 9), none⟩, ⟨(some 4), .mv (.t 10), none⟩] (some [(2, 3)]))
 .ret))⟩
/-- strconv.rangeError -/
def m54 : MFn := ⟨2, 11, [.tmp 4], (.seq (.reg [⟨(some 4), .mv (.k .nilptr), none⟩] none)
 (.seq (.reg [⟨(some 5), .mv (.t 0), none⟩, ⟨(some 6), .mv (.t 1), none⟩, ⟨(some 7), .call 71 (.k (.fn (.func 65) [] [])) [(.t 6)], none⟩, ⟨(some 8), .ld none (.g 2), none⟩, ⟨(some 9), .bld [(.str ⟨#[]⟩), (.str ⟨#[]⟩), .nilif] [(0, 1, (.t 5)), (1, 1, (.t 7)), (2, 1, (.t 8))], none⟩, ⟨(some 10), .box 74 (.t 9), none⟩, ⟨(some 4), .mv (.t 10), none⟩] (some [(2, 3)]))
 .ret))⟩
/-- strconv.baseError -/
def m55 : MFn := ⟨3, 16, [.tmp 6], (.seq (.reg [⟨(some 6), .mv (.k .nilptr), none⟩] none)
 (.seq (.reg [⟨(some 7), .mv (.t 0), none⟩, ⟨(some 8), .mv (.t 1), none⟩, ⟨(some 9), .call 73 (.k (.fn (.func 65) [] [])) [(.t 8)], none⟩, ⟨(some 10), .mv (.t 2), none⟩, ⟨(some 11), .call 75 (.k (.fn (.func 37) [] [])) [(.t 10)], none⟩, ⟨(some 12), .bin .add (.k (.str ⟨#[105, 110, 118, 97, 108, 105, 100, 32, 98, 97, 115, 101, 32]⟩)) (.t 11), none⟩, ⟨(some 13), .call 77 (.k (.fn (.func 66) [] [])) [(.t 12)], none⟩, ⟨(some 14), .bld [(.str ⟨#[]⟩), (.str ⟨#[]⟩), .nilif] [(0, 1, (.t 7)), (1, 1, (.t 9)), (2, 1, (.t 13))], none⟩, ⟨(some 15), .box 79 (.t 14), none⟩, ⟨(some 6), .mv (.t 15), none⟩] none)
 .ret))⟩
/-- strconv.bitSizeError -/
def m56 : MFn := ⟨3, 16, [.tmp 6], (.seq (.reg [⟨(some 6), .mv (.k .nilptr), none⟩] none)
 (.seq (.reg [⟨(some 7), .mv (.t 0), none⟩, ⟨(some 8), .mv (.t 1), none⟩, ⟨(some 9), .call 73 (.k (.fn (.func 65) [] [])) [(.t 8)], none⟩, ⟨(some 10), .mv (.t 2), none⟩, ⟨(some 11), .call 75 (.k (.fn (.func 37) [] [])) [(.t 10)], none⟩, ⟨(some 12), .bin .add (.k (.str ⟨#[105, 110, 118, 97, 108, 105, 100, 32, 98, 105, 116, 32, 115, 105, 122, 101, 32]⟩)) (.t 11), none⟩, ⟨(some 13), .call 77 (.k (.fn (.func 66) [] [])) [(.t 12)], none⟩, ⟨(some 14), .bld [(.str ⟨#[]⟩), (.str ⟨#[]⟩), .nilif] [(0, 1, (.t 7)), (1, 1, (.t 9)), (2, 1, (.t 13))], none⟩, ⟨(some 15), .box 79 (.t 14), none⟩, ⟨(some 6), .mv (.t 15), none⟩] none)
 .ret))⟩
/-- internal/strconv.FormatInt -/
def m57 : MFn := ⟨2, 54, [.tmp 4], (.seq (.reg [⟨(some 4), .mv (.k (.str ⟨#[]⟩)), none⟩] none)
 (.seq (.seq (.reg [⟨(some 10), .mv (.t 1), none⟩, ⟨(some 11), .bin .eql (.t 10) (.k (.int .i64 10)), none⟩] none)
 (.cond (.t 11) (.seq (.seq (.reg [⟨(some 12), .mv (.t 0), none⟩, ⟨(some 13), .bin .leq (.k (.int .i64 0)) (.t 12), none⟩, ⟨(some 14), .mv (.t 13), none⟩, ⟨(some 15), .mv (.t 0), (some (14, true))⟩, ⟨(some 16), .bin .lss (.t 15) (.k (.int .i64 100)), (some (14, true))⟩, ⟨(some 17), .pick (.t 14) (.t 16) (.k (.bool false)), none⟩] none)
 (.cond (.t 17) (.seq (.reg [⟨(some 18), .mv (.t 0), none⟩, ⟨(some 19), .call 83 (.k (.fn (.func 67) [] [])) [(.t 18)], none⟩, ⟨(some 4), .mv (.t 19), none⟩] none)
 .ret) .skip))
 (.seq (.reg [⟨(some 5), .alloca 69 [(.int .u8 0), (.int .u8 0), (.int .u8 0), (.int .u8 0), (.int .u8 0), (.int .u8 0), (.int .u8 0), (.int .u8 0), (.int .u8 0), (.int .u8 0), (.int .u8 0), (.int .u8 0), (.int .u8 0), (.int .u8 0), (.int .u8 0), (.int .u8 0), (.int .u8 0), (.int .u8 0), (.int .u8 0), (.int .u8 0), (.int .u8 0), (.int .u8 0), (.int .u8 0), (.int .u8 0)], none⟩] none)
 (.seq (.reg [⟨(some 20), .mv (.t 0), none⟩, ⟨(some 21), .conv .u64 (.t 20), none⟩, ⟨(some 6), .mv (.t 21), none⟩] none)
 (.seq (.seq (.reg [⟨(some 22), .mv (.t 0), none⟩, ⟨(some 23), .bin .lss (.t 22) (.k (.int .i64 0)), none⟩] none)
 (.cond (.t 23) (.reg [⟨(some 24), .mv (.t 6), none⟩, ⟨(some 25), .un .neg (.t 24), none⟩, ⟨(some 6), .mv (.t 25), none⟩] none) .skip))
 (.seq (.reg [⟨(some 26), .mv (.t 6), none⟩, ⟨(some 27), .call 91 (.k (.fn (.func 68) [] [])) [(.t 26)], none⟩, ⟨(some 7), .mv (.t 27), none⟩] none)
 (.seq (.reg [⟨(some 28), .mv (.t 7), none⟩, ⟨(some 29), .bin .add (.k (.int .i64 1)) (.t 28), none⟩, ⟨(some 30), .slp 1 24 (.t 5) (some (.k (.int .i64 1))) (some (.t 29)), none⟩, ⟨(some 31), .mv (.t 6), none⟩, ⟨(some 32), .call 96 (.k (.fn (.func 69) [] [])) [(.t 30), (.t 31)], none⟩] none)
 (.seq (.seq (.reg [⟨(some 33), .mv (.t 0), none⟩, ⟨(some 34), .bin .lss (.t 33) (.k (.int .i64 0)), none⟩] none)
 (.cond (.t 34) (.seq (.reg [⟨(some 35), .ixk 24 1 (.t 5) 0, none⟩, ⟨none, .st 1 (.t 35) (.k (.int .u8 45)), none⟩] none)
 (.seq (.reg [⟨(some 36), .mv (.t 7), none⟩, ⟨(some 37), .bin .add (.k (.int .i64 1)) (.t 36), none⟩, ⟨(some 38), .slp 1 24 (.t 5) none (some (.t 37)), none⟩, ⟨(some 39), .stop, none⟩, ⟨(some 4), .mv (.t 39), none⟩] none)
 .ret)) .skip))
 (.seq (.reg [⟨(some 40), .mv (.t 7), none⟩, ⟨(some 41), .bin .add (.k (.int .i64 1)) (.t 40), none⟩, ⟨(some 42), .slp 1 24 (.t 5) (some (.k (.int .i64 1))) (some (.t 41)), none⟩, ⟨(some 43), .stop, none⟩, ⟨(some 4), .mv (.t 43), none⟩] none)
 .ret)))))))) .skip))
 (.seq (.reg [⟨(some 45), .mv (.t 0), none⟩, ⟨(some 46), .conv .u64 (.t 45), none⟩, ⟨(some 47), .mv (.t 1), none⟩, ⟨(some 48), .mv (.t 0), none⟩, ⟨(some 49), .bin .lss (.t 48) (.k (.int .i64 0)), none⟩, ⟨(some 50), .call 114 (.k (.fn (.func 70) [] [])) [(.k .nils), (.t 46), (.t 47), (.t 49), (.k (.bool false))], none⟩, ⟨(some 44), .mv (.t 50), none⟩, ⟨(some 51), .ext (.t 44) 0, none⟩, ⟨(some 52), .ext (.t 44) 1, none⟩, ⟨(some 8), .mv (.t 51), none⟩, ⟨(some 9), .mv (.t 52), none⟩] none)
 (.seq (.reg [⟨(some 53), .mv (.t 9), none⟩, ⟨(some 4), .mv (.t 53), none⟩] none)
 .ret))))⟩
/-- (*strings.Builder).grow -/
def m59 : MFn := ⟨2, 30, [], (.seq (.reg [⟨(some 5), .mv (.t 0), none⟩, ⟨(some 6), .nilc (.t 5), none⟩, ⟨(some 7), .fa 1 (.t 6), none⟩, ⟨(some 8), .ld none (.t 7), none⟩, ⟨(some 9), .capn (.t 8), none⟩, ⟨(some 10), .bin .mul (.k (.int .i64 2)) (.t 9), none⟩, ⟨(some 11), .mv (.t 1), none⟩, ⟨(some 12), .bin .add (.t 10) (.t 11), none⟩, ⟨(some 13), .call 77 (.k (.fn (.func 72) [] [])) [(.t 12)], none⟩, ⟨(some 14), .mv (.t 0), none⟩, ⟨(some 15), .nilc (.t 14), none⟩, ⟨(some 16), .fa 1 (.t 15), none⟩, ⟨(some 17), .ld none (.t 16), none⟩, ⟨(some 18), .len (.t 17), none⟩, ⟨(some 19), .sll 1 (.t 13) none (some (.t 18)), none⟩, ⟨(some 4), .mv (.t 19), none⟩] (some [(3, 12), (4, 12), (8, 12), (3, 13), (4, 13), (8, 13)]))
 (.seq (.reg [⟨(some 20), .mv (.t 4), none⟩, ⟨(some 21), .mv (.t 0), none⟩, ⟨(some 22), .nilc (.t 21), none⟩, ⟨(some 23), .fa 1 (.t 22), none⟩, ⟨(some 24), .ld none (.t 23), none⟩, ⟨(some 25), .cpy 1 (.t 20) (.t 24), none⟩] none)
 (.reg [⟨(some 26), .mv (.t 0), none⟩, ⟨(some 27), .mv (.t 4), none⟩, ⟨(some 28), .nilc (.t 26), none⟩, ⟨(some 29), .fa 1 (.t 28), none⟩, ⟨none, .st 1 (.t 29) (.t 27), none⟩] none)))⟩
/-- unicode/utf8.RuneCountInString -/
def m60 : MFn := ⟨1, 10, [.tmp 2], (.seq (.reg [⟨(some 2), .mv (.k (.int .i64 0)), none⟩] none)
 (.seq (.seq (.reg [⟨(some 3), .mv (.t 0), none⟩, ⟨(some 4), .stop, none⟩] none)
 (.block 0 (.loop (.seq (.reg [⟨(some 5), .stop, none⟩, ⟨(some 6), .ext (.t 5) 0, none⟩] none)
 (.seq (.cond (.t 6) .skip (.exit 0))
 (.block 1 (.reg [⟨(some 7), .mv (.t 2), none⟩, ⟨(some 8), .bin .add (.t 7) (.k (.int .i64 1)), none⟩, ⟨(some 2), .mv (.t 8), none⟩] none)))))))
 (.seq (.reg [⟨(some 9), .mv (.t 2), none⟩, ⟨(some 2), .mv (.t 9), none⟩] none)
 .ret)))⟩
/-- unicode/utf8.DecodeRuneInString -/
def m61 : MFn := ⟨1, 19, [.tmp 2, .tmp 3], (.seq (.reg [⟨(some 2), .mv (.k (.int .i32 0)), none⟩, ⟨(some 3), .mv (.k (.int .i64 0)), none⟩] none)
 (.seq (.seq (.reg [⟨(some 4), .mv (.t 0), none⟩, ⟨(some 5), .bin .neq (.t 4) (.k (.str ⟨#[]⟩)), none⟩, ⟨(some 6), .mv (.t 5), none⟩, ⟨(some 7), .mv (.t 0), (some (6, true))⟩, ⟨(some 8), .ixstr (.t 7) (.k (.int .i64 0)), (some (6, true))⟩, ⟨(some 9), .bin .lss (.t 8) (.k (.int .u8 128)), (some (6, true))⟩, ⟨(some 10), .pick (.t 6) (.t 9) (.k (.bool false)), none⟩] none)
 (.cond (.t 10) (.seq (.reg [⟨(some 11), .mv (.t 0), none⟩, ⟨(some 12), .ixstr (.t 11) (.k (.int .i64 0)), none⟩, ⟨(some 13), .conv .i32 (.t 12), none⟩, ⟨(some 2), .mv (.t 13), none⟩, ⟨(some 3), .mv (.k (.int .i64 1)), none⟩] none)
 .ret) (.reg [⟨(some 15), .mv (.t 0), none⟩, ⟨(some 16), .call 80 (.k (.fn (.func 73) [] [])) [(.t 15)], none⟩, ⟨(some 14), .mv (.t 16), none⟩, ⟨(some 17), .ext (.t 14) 0, none⟩, ⟨(some 18), .ext (.t 14) 1, none⟩, ⟨(some 2), .mv (.t 17), none⟩, ⟨(some 3), .mv (.t 18), none⟩] none)))
 .ret))⟩
/-- internal/stringslite.Index -/
def m63 : MFn := ⟨2, 143, [.tmp 4], (.seq (.reg [⟨(some 4), .mv (.k (.int .i64 0)), none⟩] none)
 (.seq (.reg [⟨(some 14), .mv (.t 1), none⟩, ⟨(some 15), .lens (.t 14), none⟩, ⟨(some 5), .mv (.t 15), none⟩] none)
 (.seq (.block 0 (.seq (.reg [⟨(some 17), .mv (.t 5), none⟩, ⟨(some 18), .bin .eql (.t 17) (.k (.int .i64 0)), none⟩, ⟨(some 19), .mv (.t 18), none⟩, ⟨(some 20), .mv (.t 1), (some (19, false))⟩, ⟨(some 21), .mv (.t 0), (some (19, false))⟩, ⟨(some 22), .bin .eql (.t 20) (.t 21), (some (19, false))⟩, ⟨(some 23), .pick (.t 19) (.k (.bool true)) (.t 22), none⟩, ⟨(some 16), .mv (.t 23), none⟩] none)
 (.cond (.t 16) (.seq (.reg [⟨(some 4), .mv (.k (.int .i64 0)), none⟩] none)
 .ret) (.seq (.reg [⟨(some 25), .mv (.t 5), none⟩, ⟨(some 26), .bin .eql (.t 25) (.k (.int .i64 1)), none⟩, ⟨(some 24), .mv (.t 26), none⟩] none)
 (.cond (.t 24) (.seq (.reg [⟨(some 27), .mv (.t 0), none⟩, ⟨(some 28), .mv (.t 1), none⟩, ⟨(some 29), .ixstr (.t 28) (.k (.int .i64 0)), none⟩, ⟨(some 30), .call 94 (.k (.fn (.func 74) [] [])) [(.t 27), (.t 29)], none⟩, ⟨(some 4), .mv (.t 30), none⟩] none)
 .ret) (.seq (.reg [⟨(some 32), .mv (.t 5), none⟩, ⟨(some 33), .mv (.t 0), none⟩, ⟨(some 34), .lens (.t 33), none⟩, ⟨(some 35), .bin .geq (.t 32) (.t 34), none⟩, ⟨(some 31), .mv (.t 35), none⟩] none)
 (.cond (.t 31) (.seq (.reg [⟨(some 4), .mv (.k (.int .i64 (-1))), none⟩] none)
 .ret) (.seq (.reg [⟨(some 37), .mv (.t 5), none⟩, ⟨(some 38), .ld none (.g 3), none⟩, ⟨(some 39), .bin .leq (.t 37) (.t 38), none⟩, ⟨(some 40), .mv (.t 39), none⟩, ⟨(some 41), .mv (.t 0), (some (40, true))⟩, ⟨(some 42), .lens (.t 41), (some (40, true))⟩, ⟨(some 43), .bin .leq (.t 42) (.k (.int .i64 64)), (some (40, true))⟩, ⟨(some 44), .pick (.t 40) (.t 43) (.k (.bool false)), none⟩, ⟨(some 36), .mv (.t 44), none⟩] none)
 (.cond (.t 36) (.seq (.reg [⟨(some 45), .mv (.t 0), none⟩, ⟨(some 46), .mv (.t 1), none⟩, ⟨(some 47), .call 111 (.k (.fn (.func 75) [] [])) [(.t 45), (.t 46)], none⟩, ⟨(some 4), .mv (.t 47), none⟩] none)
 .ret) .skip)))))))))
 (.seq (.reg [⟨(some 48), .mv (.t 1), none⟩, ⟨(some 49), .ixstr (.t 48) (.k (.int .i64 0)), none⟩, ⟨(some 6), .mv (.t 49), none⟩] none)
 (.seq (.reg [⟨(some 50), .mv (.t 1), none⟩, ⟨(some 51), .ixstr (.t 50) (.k (.int .i64 1)), none⟩, ⟨(some 7), .mv (.t 51), none⟩] none)
 (.seq (.reg [⟨(some 8), .mv (.k (.int .i64 0)), none⟩] none)
 (.seq (.reg [⟨(some 52), .mv (.t 0), none⟩, ⟨(some 53), .lens (.t 52), none⟩, ⟨(some 54), .mv (.t 5), none⟩, ⟨(some 55), .bin .sub (.t 53) (.t 54), none⟩, ⟨(some 56), .bin .add (.t 55) (.k (.int .i64 1)), none⟩, ⟨(some 9), .mv (.t 56), none⟩] none)
 (.seq (.reg [⟨(some 10), .mv (.k (.int .i64 0)), none⟩] none)
 (.seq (.block 1 (.loop (.seq (.seq (.reg [⟨(some 57), .mv (.t 8), none⟩, ⟨(some 58), .mv (.t 9), none⟩, ⟨(some 59), .bin .lss (.t 57) (.t 58), none⟩] none)
 (.cond (.t 59) .skip (.exit 1)))
 (.block 2 (.seq (.seq (.reg [⟨(some 60), .mv (.t 0), none⟩, ⟨(some 61), .mv (.t 8), none⟩, ⟨(some 62), .ixstr (.t 60) (.t 61), none⟩, ⟨(some 63), .mv (.t 6), none⟩, ⟨(some 64), .bin .neq (.t 62) (.t 63), none⟩] none)
 (.cond (.t 64) (.seq (.reg [⟨(some 65), .mv (.t 0), none⟩, ⟨(some 66), .mv (.t 8), none⟩, ⟨(some 67), .bin .add (.t 66) (.k (.int .i64 1)), none⟩, ⟨(some 68), .mv (.t 9), none⟩, ⟨(some 69), .slstr (.t 65) (some (.t 67)) (some (.t 68)), none⟩, ⟨(some 70), .mv (.t 6), none⟩, ⟨(some 71), .call 135 (.k (.fn (.func 74) [] [])) [(.t 69), (.t 70)], none⟩, ⟨(some 11), .mv (.t 71), none⟩] none)
 (.seq (.seq (.reg [⟨(some 72), .mv (.t 11), none⟩, ⟨(some 73), .bin .lss (.t 72) (.k (.int .i64 0)), none⟩] none)
 (.cond (.t 73) (.seq (.reg [⟨(some 4), .mv (.k (.int .i64 (-1))), none⟩] none)
 .ret) .skip))
 (.reg [⟨(some 74), .mv (.t 8), none⟩, ⟨(some 75), .mv (.t 11), none⟩, ⟨(some 76), .bin .add (.t 75) (.k (.int .i64 1)), none⟩, ⟨(some 77), .bin .add (.t 74) (.t 76), none⟩, ⟨(some 8), .mv (.t 77), none⟩] none))) .skip))
 (.seq (.seq (.reg [⟨(some 78), .mv (.t 0), none⟩, ⟨(some 79), .mv (.t 8), none⟩, ⟨(some 80), .bin .add (.t 79) (.k (.int .i64 1)), none⟩, ⟨(some 81), .ixstr (.t 78) (.t 80), none⟩, ⟨(some 82), .mv (.t 7), none⟩, ⟨(some 83), .bin .eql (.t 81) (.t 82), none⟩, ⟨(some 84), .mv (.t 83), none⟩, ⟨(some 85), .mv (.t 0), (some (84, true))⟩, ⟨(some 86), .mv (.t 8), (some (84, true))⟩, ⟨(some 87), .mv (.t 8), (some (84, true))⟩, ⟨(some 88), .mv (.t 5), (some (84, true))⟩, ⟨(some 89), .bin .add (.t 87) (.t 88), (some (84, true))⟩, ⟨(some 90), .slstr (.t 85) (some (.t 86)) (some (.t 89)), (some (84, true))⟩, ⟨(some 91), .mv (.t 1), (some (84, true))⟩, ⟨(some 92), .bin .eql (.t 90) (.t 91), (some (84, true))⟩, ⟨(some 93), .pick (.t 84) (.t 92) (.k (.bool false)), none⟩] none)
 (.cond (.t 93) (.seq (.reg [⟨(some 94), .mv (.t 8), none⟩, ⟨(some 4), .mv (.t 94), none⟩] none)
 .ret) .skip))
 (.seq (.reg [⟨(some 95), .mv (.t 8), none⟩, ⟨(some 96), .bin .add (.t 95) (.k (.int .i64 1)), none⟩, ⟨(some 8), .mv (.t 96), none⟩] none)
 (.seq (.reg [⟨(some 97), .mv (.t 10), none⟩, ⟨(some 98), .bin .add (.t 97) (.k (.int .i64 1)), none⟩, ⟨(some 10), .mv (.t 98), none⟩] none)
 (.seq (.reg [⟨(some 99), .mv (.t 5), none⟩, ⟨(some 100), .ld none (.g 3), none⟩, ⟨(some 101), .bin .leq (.t 99) (.t 100), none⟩, ⟨(some 102), .mv (.t 101), none⟩, ⟨(some 103), .mv (.t 10), (some (102, true))⟩, ⟨(some 104), .mv (.t 8), (some (102, true))⟩, ⟨(some 105), .call 169 (.k (.fn (.func 76) [] [])) [(.t 104)], (some (102, true))⟩, ⟨(some 106), .bin .gtr (.t 103) (.t 105), (some (102, true))⟩, ⟨(some 107), .pick (.t 102) (.t 106) (.k (.bool false)), none⟩] none)
 (.cond (.t 107) (.seq (.reg [⟨(some 108), .mv (.t 0), none⟩, ⟨(some 109), .mv (.t 8), none⟩, ⟨(some 110), .slstr (.t 108) (some (.t 109)) none, none⟩, ⟨(some 111), .mv (.t 1), none⟩, ⟨(some 112), .call 176 (.k (.fn (.func 75) [] [])) [(.t 110), (.t 111)], none⟩, ⟨(some 12), .mv (.t 112), none⟩] none)
 (.seq (.seq (.reg [⟨(some 113), .mv (.t 12), none⟩, ⟨(some 114), .bin .geq (.t 113) (.k (.int .i64 0)), none⟩] none)
 (.cond (.t 114) (.seq (.reg [⟨(some 115), .mv (.t 12), none⟩, ⟨(some 116), .mv (.t 8), none⟩, ⟨(some 117), .bin .add (.t 115) (.t 116), none⟩, ⟨(some 4), .mv (.t 117), none⟩] none)
 .ret) .skip))
 (.seq (.reg [⟨(some 4), .mv (.k (.int .i64 (-1))), none⟩] none)
 .ret))) (.seq (.reg [⟨(some 118), .mv (.t 5), none⟩, ⟨(some 119), .ld none (.g 3), none⟩, ⟨(some 120), .bin .gtr (.t 118) (.t 119), none⟩, ⟨(some 121), .mv (.t 120), none⟩, ⟨(some 122), .mv (.t 10), (some (121, true))⟩, ⟨(some 123), .mv (.t 8), (some (121, true))⟩, ⟨(some 124), .bin .shr (.t 123) (.k (.int .u64 4)), (some (121, true))⟩, ⟨(some 125), .bin .add (.k (.int .i64 4)) (.t 124), (some (121, true))⟩, ⟨(some 126), .bin .geq (.t 122) (.t 125), (some (121, true))⟩, ⟨(some 127), .pick (.t 121) (.t 126) (.k (.bool false)), none⟩, ⟨(some 128), .mv (.t 127), none⟩, ⟨(some 129), .mv (.t 8), (some (128, true))⟩, ⟨(some 130), .mv (.t 9), (some (128, true))⟩, ⟨(some 131), .bin .lss (.t 129) (.t 130), (some (128, true))⟩, ⟨(some 132), .pick (.t 128) (.t 131) (.k (.bool false)), none⟩] none)
 (.cond (.t 132) (.seq (.reg [⟨(some 133), .mv (.t 0), none⟩, ⟨(some 134), .mv (.t 8), none⟩, ⟨(some 135), .slstr (.t 133) (some (.t 134)) none, none⟩, ⟨(some 136), .mv (.t 1), none⟩, ⟨(some 137), .call 201 (.k (.fn (.func 77) [] [])) [(.t 135), (.t 136)], none⟩, ⟨(some 13), .mv (.t 137), none⟩] none)
 (.seq (.seq (.reg [⟨(some 138), .mv (.t 13), none⟩, ⟨(some 139), .bin .lss (.t 138) (.k (.int .i64 0)), none⟩] none)
 (.cond (.t 139) (.seq (.reg [⟨(some 4), .mv (.k (.int .i64 (-1))), none⟩] none)
 .ret) .skip))
 (.seq (.reg [⟨(some 140), .mv (.t 8), none⟩, ⟨(some 141), .mv (.t 13), none⟩, ⟨(some 142), .bin .add (.t 140) (.t 141), none⟩, ⟨(some 4), .mv (.t 142), none⟩] none)
 .ret))) .skip))))))))))))
 (.seq (.reg [⟨(some 4), .mv (.k (.int .i64 (-1))), none⟩] none)
 .ret))))))))))⟩
/-- internal/strconv.ParseUint -/
def m64 : MFn := ⟨3, 172, [.tmp 6, .tmp 7], (.seq (.reg [⟨(some 6), .mv (.k (.int .u64 0)), none⟩, ⟨(some 7), .mv (.k .nilif), none⟩] none)
 (.seq (.seq (.reg [⟨(some 18), .mv (.t 0), none⟩, ⟨(some 19), .bin .eql (.t 18) (.k (.str ⟨#[]⟩)), none⟩] none)
 (.cond (.t 19) (.seq (.reg [⟨(some 20), .stop, none⟩, ⟨(some 6), .mv (.k (.int .u64 0)), none⟩, ⟨(some 7), .mv (.t 20), none⟩] none)
 .ret) .skip))
 (.seq (.reg [⟨(some 21), .mv (.t 1), none⟩, ⟨(some 22), .bin .eql (.t 21) (.k (.int .i64 0)), none⟩, ⟨(some 8), .mv (.t 22), none⟩] none)
 (.seq (.reg [⟨(some 23), .mv (.t 0), none⟩, ⟨(some 9), .mv (.t 23), none⟩] none)
 (.seq (.block 0 (.seq (.reg [⟨(some 26), .mv (.t 1), none⟩, ⟨(some 27), .bin .leq (.k (.int .i64 2)) (.t 26), none⟩, ⟨(some 28), .mv (.t 27), none⟩, ⟨(some 29), .mv (.t 1), (some (28, true))⟩, ⟨(some 30), .bin .leq (.t 29) (.k (.int .i64 36)), (some (28, true))⟩, ⟨(some 31), .pick (.t 28) (.t 30) (.k (.bool false)), none⟩, ⟨(some 25), .mv (.t 31), none⟩] none)
 (.cond (.t 25) .skip (.seq (.reg [⟨(some 33), .mv (.t 1), none⟩, ⟨(some 34), .bin .eql (.t 33) (.k (.int .i64 0)), none⟩, ⟨(some 32), .mv (.t 34), none⟩] none)
 (.cond (.t 32) (.seq (.reg [⟨(some 1), .mv (.k (.int .i64 10)), none⟩] none)
 (.seq (.reg [⟨(some 35), .mv (.t 0), none⟩, ⟨(some 36), .ixstr (.t 35) (.k (.int .i64 0)), none⟩, ⟨(some 37), .bin .eql (.t 36) (.k (.int .u8 48)), none⟩] none)
 (.cond (.t 37) (.block 1 (.seq (.reg [⟨(some 41), .mv (.t 0), none⟩, ⟨(some 42), .lens (.t 41), none⟩, ⟨(some 43), .bin .geq (.t 42) (.k (.int .i64 3)), none⟩, ⟨(some 44), .mv (.t 43), none⟩, ⟨(some 45), .mv (.t 0), (some (44, true))⟩, ⟨(some 46), .ixstr (.t 45) (.k (.int .i64 1)), (some (44, true))⟩, ⟨(some 47), .call 111 (.k (.fn (.func 78) [] [])) [(.t 46)], (some (44, true))⟩, ⟨(some 48), .bin .eql (.t 47) (.k (.int .u8 98)), (some (44, true))⟩, ⟨(some 49), .pick (.t 44) (.t 48) (.k (.bool false)), none⟩, ⟨(some 40), .mv (.t 49), none⟩] none)
 (.cond (.t 40) (.seq (.reg [⟨(some 1), .mv (.k (.int .i64 2)), none⟩] none)
 (.reg [⟨(some 50), .mv (.t 0), none⟩, ⟨(some 51), .slstr (.t 50) (some (.k (.int .i64 2))) none, none⟩, ⟨(some 0), .mv (.t 51), none⟩] none)) (.seq (.reg [⟨(some 53), .mv (.t 0), none⟩, ⟨(some 54), .lens (.t 53), none⟩, ⟨(some 55), .bin .geq (.t 54) (.k (.int .i64 3)), none⟩, ⟨(some 56), .mv (.t 55), none⟩, ⟨(some 57), .mv (.t 0), (some (56, true))⟩, ⟨(some 58), .ixstr (.t 57) (.k (.int .i64 1)), (some (56, true))⟩, ⟨(some 59), .call 123 (.k (.fn (.func 78) [] [])) [(.t 58)], (some (56, true))⟩, ⟨(some 60), .bin .eql (.t 59) (.k (.int .u8 111)), (some (56, true))⟩, ⟨(some 61), .pick (.t 56) (.t 60) (.k (.bool false)), none⟩, ⟨(some 52), .mv (.t 61), none⟩] none)
 (.cond (.t 52) (.seq (.reg [⟨(some 1), .mv (.k (.int .i64 8)), none⟩] none)
 (.reg [⟨(some 62), .mv (.t 0), none⟩, ⟨(some 63), .slstr (.t 62) (some (.k (.int .i64 2))) none, none⟩, ⟨(some 0), .mv (.t 63), none⟩] none)) (.seq (.reg [⟨(some 65), .mv (.t 0), none⟩, ⟨(some 66), .lens (.t 65), none⟩, ⟨(some 67), .bin .geq (.t 66) (.k (.int .i64 3)), none⟩, ⟨(some 68), .mv (.t 67), none⟩, ⟨(some 69), .mv (.t 0), (some (68, true))⟩, ⟨(some 70), .ixstr (.t 69) (.k (.int .i64 1)), (some (68, true))⟩, ⟨(some 71), .call 135 (.k (.fn (.func 78) [] [])) [(.t 70)], (some (68, true))⟩, ⟨(some 72), .bin .eql (.t 71) (.k (.int .u8 120)), (some (68, true))⟩, ⟨(some 73), .pick (.t 68) (.t 72) (.k (.bool false)), none⟩, ⟨(some 64), .mv (.t 73), none⟩] none)
 (.cond (.t 64) (.seq (.reg [⟨(some 1), .mv (.k (.int .i64 16)), none⟩] none)
 (.reg [⟨(some 74), .mv (.t 0), none⟩, ⟨(some 75), .slstr (.t 74) (some (.k (.int .i64 2))) none, none⟩, ⟨(some 0), .mv (.t 75), none⟩] none)) (.seq (.reg [⟨(some 1), .mv (.k (.int .i64 8)), none⟩] none)
 (.reg [⟨(some 38), .mv (.t 0), none⟩, ⟨(some 39), .slstr (.t 38) (some (.k (.int .i64 1))) none, none⟩, ⟨(some 0), .mv (.t 39), none⟩] none))))))))) .skip))) (.seq (.reg [⟨(some 24), .stop, none⟩, ⟨(some 6), .mv (.k (.int .u64 0)), none⟩, ⟨(some 7), .mv (.t 24), none⟩] none)
 .ret))))))
 (.seq (.seq (.reg [⟨(some 76), .mv (.t 2), none⟩, ⟨(some 77), .bin .eql (.t 76) (.k (.int .i64 0)), none⟩] none)
 (.cond (.t 77) (.reg [⟨(some 2), .mv (.k (.int .i64 64)), none⟩] none) (.seq (.reg [⟨(some 78), .mv (.t 2), none⟩, ⟨(some 79), .bin .lss (.t 78) (.k (.int .i64 0)), none⟩, ⟨(some 80), .mv (.t 79), none⟩, ⟨(some 81), .mv (.t 2), (some (80, false))⟩, ⟨(some 82), .bin .gtr (.t 81) (.k (.int .i64 64)), (some (80, false))⟩, ⟨(some 83), .pick (.t 80) (.k (.bool true)) (.t 82), none⟩] none)
 (.cond (.t 83) (.seq (.reg [⟨(some 84), .stop, none⟩, ⟨(some 6), .mv (.k (.int .u64 0)), none⟩, ⟨(some 7), .mv (.t 84), none⟩] none)
 .ret) .skip))))
 (.seq (.reg [⟨(some 10), .mv (.k (.int .u64 0)), none⟩] none)
 (.seq (.seq (.reg [⟨(some 85), .mv (.t 1), none⟩] none)
 (.block 2 (.seq (.reg [⟨(some 91), .bin .eql (.t 85) (.k (.int .i64 10)), none⟩, ⟨(some 90), .mv (.t 91), none⟩] none)
 (.cond (.t 90) (.reg [⟨(some 10), .mv (.k (.int .u64 1844674407370955162)), none⟩] none) (.seq (.reg [⟨(some 93), .bin .eql (.t 85) (.k (.int .i64 16)), none⟩, ⟨(some 92), .mv (.t 93), none⟩] none)
 (.cond (.t 92) (.reg [⟨(some 10), .mv (.k (.int .u64 1152921504606846976)), none⟩] none) (.reg [⟨(some 86), .mv (.t 1), none⟩, ⟨(some 87), .conv .u64 (.t 86), none⟩, ⟨(some 88), .bin .quo (.k (.int .u64 18446744073709551615)) (.t 87), none⟩, ⟨(some 89), .bin .add (.t 88) (.k (.int .u64 1)), none⟩, ⟨(some 10), .mv (.t 89), none⟩] none)))))))
 (.seq (.reg [⟨(some 94), .mv (.t 2), none⟩, ⟨(some 95), .conv .u64 (.t 94), none⟩, ⟨(some 96), .bin .shl (.k (.int .u64 1)) (.t 95), none⟩, ⟨(some 97), .bin .sub (.t 96) (.k (.int .u64 1)), none⟩, ⟨(some 11), .mv (.t 97), none⟩] none)
 (.seq (.reg [⟨(some 12), .mv (.k (.bool false)), none⟩] none)
 (.seq (.reg [⟨(some 13), .mv (.k (.int .u64 0)), none⟩] none)
 (.seq (.seq (.reg [⟨(some 98), .mv (.t 0), none⟩, ⟨(some 99), .stop, none⟩, ⟨(some 100), .len (.t 99), none⟩, ⟨(some 101), .mv (.k (.int .i64 0)), none⟩] none)
 (.block 3 (.loop (.seq (.reg [⟨(some 102), .bin .lss (.t 101) (.t 100), none⟩] none)
 (.seq (.cond (.t 102) .skip (.exit 3))
 (.seq (.block 4 (.seq (.reg [⟨(some 103), .ixs 1 (.t 99) (.t 101), none⟩, ⟨(some 104), .ld none (.t 103), none⟩, ⟨(some 15), .mv (.t 104), none⟩] none)
 (.seq (.reg [⟨(some 16), .mv (.k (.int .u8 0)), none⟩] none)
 (.seq (.block 5 (.seq (.reg [⟨(some 107), .mv (.t 15), none⟩, ⟨(some 108), .bin .eql (.t 107) (.k (.int .u8 95)), none⟩, ⟨(some 109), .mv (.t 108), none⟩, ⟨(some 110), .mv (.t 8), (some (109, true))⟩, ⟨(some 111), .pick (.t 109) (.t 110) (.k (.bool false)), none⟩, ⟨(some 106), .mv (.t 111), none⟩] none)
 (.cond (.t 106) (.seq (.reg [⟨(some 12), .mv (.k (.bool true)), none⟩] none)
 (.exit 4)) (.seq (.reg [⟨(some 113), .mv (.t 15), none⟩, ⟨(some 114), .bin .leq (.k (.int .u8 48)) (.t 113), none⟩, ⟨(some 115), .mv (.t 114), none⟩, ⟨(some 116), .mv (.t 15), (some (115, true))⟩, ⟨(some 117), .bin .leq (.t 116) (.k (.int .u8 57)), (some (115, true))⟩, ⟨(some 118), .pick (.t 115) (.t 117) (.k (.bool false)), none⟩, ⟨(some 112), .mv (.t 118), none⟩] none)
 (.cond (.t 112) (.reg [⟨(some 119), .mv (.t 15), none⟩, ⟨(some 120), .bin .sub (.t 119) (.k (.int .u8 48)), none⟩, ⟨(some 16), .mv (.t 120), none⟩] none) (.seq (.reg [⟨(some 122), .mv (.t 15), none⟩, ⟨(some 123), .call 187 (.k (.fn (.func 78) [] [])) [(.t 122)], none⟩, ⟨(some 124), .bin .leq (.k (.int .u8 97)) (.t 123), none⟩, ⟨(some 125), .mv (.t 124), none⟩, ⟨(some 126), .mv (.t 15), (some (125, true))⟩, ⟨(some 127), .call 191 (.k (.fn (.func 78) [] [])) [(.t 126)], (some (125, true))⟩, ⟨(some 128), .bin .leq (.t 127) (.k (.int .u8 122)), (some (125, true))⟩, ⟨(some 129), .pick (.t 125) (.t 128) (.k (.bool false)), none⟩, ⟨(some 121), .mv (.t 129), none⟩] none)
 (.cond (.t 121) (.reg [⟨(some 130), .mv (.t 15), none⟩, ⟨(some 131), .call 195 (.k (.fn (.func 78) [] [])) [(.t 130)], none⟩, ⟨(some 132), .bin .sub (.t 131) (.k (.int .u8 97)), none⟩, ⟨(some 133), .bin .add (.t 132) (.k (.int .u8 10)), none⟩, ⟨(some 16), .mv (.t 133), none⟩] none) (.seq (.reg [⟨(some 105), .stop, none⟩, ⟨(some 6), .mv (.k (.int .u64 0)), none⟩, ⟨(some 7), .mv (.t 105), none⟩] none)
 .ret))))))))
 (.seq (.seq (.reg [⟨(some 134), .mv (.t 16), none⟩, ⟨(some 135), .mv (.t 1), none⟩, ⟨(some 136), .conv .u8 (.t 135), none⟩, ⟨(some 137), .bin .geq (.t 134) (.t 136), none⟩] none)
 (.cond (.t 137) (.seq (.reg [⟨(some 138), .stop, none⟩, ⟨(some 6), .mv (.k (.int .u64 0)), none⟩, ⟨(some 7), .mv (.t 138), none⟩] none)
 .ret) .skip))
 (.seq (.seq (.reg [⟨(some 139), .mv (.t 13), none⟩, ⟨(some 140), .mv (.t 10), none⟩, ⟨(some 141), .bin .geq (.t 139) (.t 140), none⟩] none)
 (.cond (.t 141) (.seq (.reg [⟨(some 142), .mv (.t 11), none⟩, ⟨(some 143), .stop, none⟩, ⟨(some 6), .mv (.t 142), none⟩, ⟨(some 7), .mv (.t 143), none⟩] none)
 .ret) .skip))
 (.seq (.reg [⟨(some 144), .mv (.t 13), none⟩, ⟨(some 145), .mv (.t 1), none⟩, ⟨(some 146), .conv .u64 (.t 145), none⟩, ⟨(some 147), .bin .mul (.t 144) (.t 146), none⟩, ⟨(some 13), .mv (.t 147), none⟩] none)
 (.seq (.reg [⟨(some 148), .mv (.t 13), none⟩, ⟨(some 149), .mv (.t 16), none⟩, ⟨(some 150), .conv .u64 (.t 149), none⟩, ⟨(some 151), .bin .add (.t 148) (.t 150), none⟩, ⟨(some 17), .mv (.t 151), none⟩] none)
 (.seq (.seq (.reg [⟨(some 152), .mv (.t 17), none⟩, ⟨(some 153), .mv (.t 13), none⟩, ⟨(some 154), .bin .lss (.t 152) (.t 153), none⟩, ⟨(some 155), .mv (.t 154), none⟩, ⟨(some 156), .mv (.t 17), (some (155, false))⟩, ⟨(some 157), .mv (.t 11), (some (155, false))⟩, ⟨(some 158), .bin .gtr (.t 156) (.t 157), (some (155, false))⟩, ⟨(some 159), .pick (.t 155) (.k (.bool true)) (.t 158), none⟩] none)
 (.cond (.t 159) (.seq (.reg [⟨(some 160), .mv (.t 11), none⟩, ⟨(some 161), .stop, none⟩, ⟨(some 6), .mv (.t 160), none⟩, ⟨(some 7), .mv (.t 161), none⟩] none)
 .ret) .skip))
 (.reg [⟨(some 162), .mv (.t 17), none⟩, ⟨(some 13), .mv (.t 162), none⟩] none))))))))))
 (.reg [⟨(some 163), .bin .add (.t 101) (.k (.int .i64 1)), none⟩, ⟨(some 101), .mv (.t 163), none⟩] none)))))))
 (.seq (.seq (.reg [⟨(some 164), .mv (.t 12), none⟩, ⟨(some 165), .mv (.t 164), none⟩, ⟨(some 166), .mv (.t 9), (some (165, true))⟩, ⟨(some 167), .call 231 (.k (.fn (.func 79) [] [])) [(.t 166)], (some (165, true))⟩, ⟨(some 168), .un .not (.t 167), (some (165, true))⟩, ⟨(some 169), .pick (.t 165) (.t 168) (.k (.bool false)), none⟩] none)
 (.cond (.t 169) (.seq (.reg [⟨(some 170), .stop, none⟩, ⟨(some 6), .mv (.k (.int .u64 0)), none⟩, ⟨(some 7), .mv (.t 170), none⟩] none)
 .ret) .skip))
 (.seq (.reg [⟨(some 171), .mv (.t 13), none⟩, ⟨(some 6), .mv (.t 171), none⟩, ⟨(some 7), .mv (.k .nilif), none⟩] none)
 .ret))))))))))))))⟩
/-- internal/stringslite.Clone -/
def m65 : MFn := ⟨1, 18, [.tmp 2], (.seq (.reg [⟨(some 2), .mv (.k (.str ⟨#[]⟩)), none⟩] none)
 (.seq (.seq (.reg [⟨(some 4), .mv (.t 0), none⟩, ⟨(some 5), .lens (.t 4), none⟩, ⟨(some 6), .bin .eql (.t 5) (.k (.int .i64 0)), none⟩] none)
 (.cond (.t 6) (.seq (.reg [⟨(some 2), .mv (.k (.str ⟨#[]⟩)), none⟩] none)
 .ret) .skip))
 (.seq (.reg [⟨(some 7), .mv (.t 0), none⟩, ⟨(some 8), .lens (.t 7), none⟩, ⟨(some 9), .mks 73 1 1 (.int .u8 0) (.t 8), none⟩, ⟨(some 3), .mv (.t 9), none⟩] none)
 (.seq (.reg [⟨(some 10), .mv (.t 3), none⟩, ⟨(some 11), .mv (.t 0), none⟩, ⟨(some 12), .stop, none⟩] none)
 (.seq (.reg [⟨(some 13), .mv (.t 3), none⟩, ⟨(some 14), .ixs 1 (.t 13) (.k (.int .i64 0)), none⟩, ⟨(some 15), .mv (.t 3), none⟩, ⟨(some 16), .len (.t 15), none⟩, ⟨(some 17), .stop, none⟩, ⟨(some 2), .mv (.t 17), none⟩] none)
 .ret)))))⟩
/-- errors.New -/
def m66 : MFn := ⟨1, 7, [.tmp 2], (.seq (.reg [⟨(some 2), .mv (.k .nilif), none⟩] none)
 (.seq (.reg [⟨(some 3), .mv (.t 0), none⟩, ⟨(some 4), .bld [(.str ⟨#[]⟩)] [(0, 1, (.t 3))], none⟩, ⟨(some 5), .box 69 (.t 4), none⟩, ⟨(some 6), .stop, none⟩, ⟨(some 2), .mv (.t 6), none⟩] none)
 .ret))⟩
/-- internal/strconv.small -/
def m67 : MFn := ⟨1, 15, [.tmp 2], (.seq (.reg [⟨(some 2), .mv (.k (.str ⟨#[]⟩)), none⟩] none)
 (.seq (.seq (.reg [⟨(some 3), .mv (.t 0), none⟩, ⟨(some 4), .bin .lss (.t 3) (.k (.int .i64 10)), none⟩] none)
 (.cond (.t 4) (.seq (.reg [⟨(some 5), .mv (.t 0), none⟩, ⟨(some 6), .mv (.t 0), none⟩, ⟨(some 7), .bin .add (.t 6) (.k (.int .i64 1)), none⟩, ⟨(some 8), .slstr (.k (.str ⟨#[48, 49, 50, 51, 52, 53, 54, 55, 56, 57, 97, 98, 99, 100, 101, 102, 103, 104, 105, 106, 107, 108, 109, 110, 111, 112, 113, 114, 115, 116, 117, 118, 119, 120, 121, 122]⟩)) (some (.t 5)) (some (.t 7)), none⟩, ⟨(some 2), .mv (.t 8), none⟩] none)
 .ret) .skip))
 (.seq (.reg [⟨(some 9), .mv (.t 0), none⟩, ⟨(some 10), .bin .mul (.t 9) (.k (.int .i64 2)), none⟩, ⟨(some 11), .mv (.t 0), none⟩, ⟨(some 12), .bin .mul (.t 11) (.k (.int .i64 2)), none⟩, ⟨(some 13), .bin .add (.t 12) (.k (.int .i64 2)), none⟩, ⟨(some 14), .slstr (.k (.str ⟨#[48, 48, 48, 49, 48, 50, 48, 51, 48, 52, 48, 53, 48, 54, 48, 55, 48, 56, 48, 57, 49, 48, 49, 49, 49, 50, 49, 51, 49, 52, 49, 53, 49, 54, 49, 55, 49, 56, 49, 57, 50, 48, 50, 49, 50, 50, 50, 51, 50, 52, 50, 53, 50, 54, 50, 55, 50, 56, 50, 57, 51, 48, 51, 49, 51, 50, 51, 51, 51, 52, 51, 53, 51, 54, 51, 55, 51, 56, 51, 57, 52, 48, 52, 49, 52, 50, 52, 51, 52, 52, 52, 53, 52, 54, 52, 55, 52, 56, 52, 57, 53, 48, 53, 49, 53, 50, 53, 51, 53, 52, 53, 53, 53, 54, 53, 55, 53, 56, 53, 57, 54, 48, 54, 49, 54, 50, 54, 51, 54, 52, 54, 53, 54, 54, 54, 55, 54, 56, 54, 57, 55, 48, 55, 49, 55, 50, 55, 51, 55, 52, 55, 53, 55, 54, 55, 55, 55, 56, 55, 57, 56, 48, 56, 49, 56, 50, 56, 51, 56, 52, 56, 53, 56, 54, 56, 55, 56, 56, 56, 57, 57, 48, 57, 49, 57, 50, 57, 51, 57, 52, 57, 53, 57, 54, 57, 55, 57, 56, 57, 57]⟩)) (some (.t 10)) (some (.t 13)), none⟩, ⟨(some 2), .mv (.t 14), none⟩] none)
 .ret)))⟩
/-- internal/strconv.numDigits -/
def m68 : MFn := ⟨1, 15, [.tmp 2], (.seq (.reg [⟨(some 2), .mv (.k (.int .i64 0)), none⟩] none)
 (.seq (.reg [⟨(some 4), .mv (.t 0), none⟩, ⟨(some 5), .call 69 (.k (.fn (.func 81) [] [])) [(.t 4)], none⟩, ⟨(some 6), .call 70 (.k (.fn (.func 80) [] [])) [(.t 5)], none⟩, ⟨(some 3), .mv (.t 6), none⟩] none)
 (.seq (.reg [⟨(some 7), .mv (.t 3), none⟩, ⟨(some 8), .mv (.t 0), none⟩, ⟨(some 9), .mv (.t 3), none⟩, ⟨(some 10), .ixa 20 1 (.g 4) (.t 9), none⟩, ⟨(some 11), .ld none (.t 10), none⟩, ⟨(some 12), .bin .geq (.t 8) (.t 11), none⟩, ⟨(some 13), .call 77 (.k (.fn (.func 82) [] [])) [(.t 12)], none⟩, ⟨(some 14), .bin .add (.t 7) (.t 13), none⟩, ⟨(some 2), .mv (.t 14), none⟩] none)
 .ret)))⟩
/-- internal/strconv.formatBase10 -/
def m69 : MFn := ⟨2, 167, [], (.seq (.reg [⟨(some 17), .mv (.t 0), none⟩, ⟨(some 18), .len (.t 17), none⟩, ⟨(some 4), .mv (.t 18), none⟩] none)
 (.seq (.block 0 (.loop (.seq (.seq (.reg [⟨(some 19), .mv (.t 4), none⟩, ⟨(some 20), .bin .geq (.t 19) (.k (.int .i64 8)), none⟩] none)
 (.cond (.t 20) .skip (.exit 0)))
 (.block 1 (.seq (.reg [⟨(some 21), .mv (.t 1), none⟩, ⟨(some 22), .bin .rem (.t 21) (.k (.int .u64 100000000)), none⟩, ⟨(some 23), .conv .u32 (.t 22), none⟩, ⟨(some 5), .mv (.t 23), none⟩] none)
 (.seq (.reg [⟨(some 24), .mv (.t 1), none⟩, ⟨(some 25), .bin .quo (.t 24) (.k (.int .u64 100000000)), none⟩, ⟨(some 1), .mv (.t 25), none⟩] none)
 (.seq (.reg [⟨(some 26), .mv (.t 5), none⟩, ⟨(some 27), .bin .quo (.t 26) (.k (.int .u32 10000)), none⟩, ⟨(some 28), .mv (.t 5), none⟩, ⟨(some 29), .bin .rem (.t 28) (.k (.int .u32 10000)), none⟩, ⟨(some 6), .mv (.t 27), none⟩, ⟨(some 7), .mv (.t 29), none⟩] none)
 (.seq (.reg [⟨(some 30), .mv (.t 7), none⟩, ⟨(some 31), .bin .quo (.t 30) (.k (.int .u32 100)), none⟩, ⟨(some 32), .bin .mul (.t 31) (.k (.int .u32 2)), none⟩, ⟨(some 33), .mv (.t 7), none⟩, ⟨(some 34), .bin .rem (.t 33) (.k (.int .u32 100)), none⟩, ⟨(some 35), .bin .mul (.t 34) (.k (.int .u32 2)), none⟩, ⟨(some 8), .mv (.t 32), none⟩, ⟨(some 9), .mv (.t 35), none⟩] none)
 (.seq (.reg [⟨(some 36), .mv (.t 6), none⟩, ⟨(some 37), .bin .quo (.t 36) (.k (.int .u32 100)), none⟩, ⟨(some 38), .bin .mul (.t 37) (.k (.int .u32 2)), none⟩, ⟨(some 39), .mv (.t 6), none⟩, ⟨(some 40), .bin .rem (.t 39) (.k (.int .u32 100)), none⟩, ⟨(some 41), .bin .mul (.t 40) (.k (.int .u32 2)), none⟩, ⟨(some 10), .mv (.t 38), none⟩, ⟨(some 11), .mv (.t 41), none⟩] none)
 (.seq (.reg [⟨(some 42), .mv (.t 0), none⟩, ⟨(some 43), .mv (.t 4), none⟩, ⟨(some 44), .bin .sub (.t 43) (.k (.int .i64 1)), none⟩, ⟨(some 45), .mv (.t 0), none⟩, ⟨(some 46), .mv (.t 4), none⟩, ⟨(some 47), .bin .sub (.t 46) (.k (.int .i64 2)), none⟩, ⟨(some 48), .mv (.t 9), none⟩, ⟨(some 49), .bin .add (.t 48) (.k (.int .u32 1)), none⟩, ⟨(some 50), .ixstr (.k (.str ⟨#[48, 48, 48, 49, 48, 50, 48, 51, 48, 52, 48, 53, 48, 54, 48, 55, 48, 56, 48, 57, 49, 48, 49, 49, 49, 50, 49, 51, 49, 52, 49, 53, 49, 54, 49, 55, 49, 56, 49, 57, 50, 48, 50, 49, 50, 50, 50, 51, 50, 52, 50, 53, 50, 54, 50, 55, 50, 56, 50, 57, 51, 48, 51, 49, 51, 50, 51, 51, 51, 52, 51, 53, 51, 54, 51, 55, 51, 56, 51, 57, 52, 48, 52, 49, 52, 50, 52, 51, 52, 52, 52, 53, 52, 54, 52, 55, 52, 56, 52, 57, 53, 48, 53, 49, 53, 50, 53, 51, 53, 52, 53, 53, 53, 54, 53, 55, 53, 56, 53, 57, 54, 48, 54, 49, 54, 50, 54, 51, 54, 52, 54, 53, 54, 54, 54, 55, 54, 56, 54, 57, 55, 48, 55, 49, 55, 50, 55, 51, 55, 52, 55, 53, 55, 54, 55, 55, 55, 56, 55, 57, 56, 48, 56, 49, 56, 50, 56, 51, 56, 52, 56, 53, 56, 54, 56, 55, 56, 56, 56, 57, 57, 48, 57, 49, 57, 50, 57, 51, 57, 52, 57, 53, 57, 54, 57, 55, 57, 56, 57, 57]⟩)) (.t 49), none⟩, ⟨(some 51), .mv (.t 9), none⟩, ⟨(some 52), .ixstr (.k (.str ⟨#[48, 48, 48, 49, 48, 50, 48, 51, 48, 52, 48, 53, 48, 54, 48, 55, 48, 56, 48, 57, 49, 48, 49, 49, 49, 50, 49, 51, 49, 52, 49, 53, 49, 54, 49, 55, 49, 56, 49, 57, 50, 48, 50, 49, 50, 50, 50, 51, 50, 52, 50, 53, 50, 54, 50, 55, 50, 56, 50, 57, 51, 48, 51, 49, 51, 50, 51, 51, 51, 52, 51, 53, 51, 54, 51, 55, 51, 56, 51, 57, 52, 48, 52, 49, 52, 50, 52, 51, 52, 52, 52, 53, 52, 54, 52, 55, 52, 56, 52, 57, 53, 48, 53, 49, 53, 50, 53, 51, 53, 52, 53, 53, 53, 54, 53, 55, 53, 56, 53, 57, 54, 48, 54, 49, 54, 50, 54, 51, 54, 52, 54, 53, 54, 54, 54, 55, 54, 56, 54, 57, 55, 48, 55, 49, 55, 50, 55, 51, 55, 52, 55, 53, 55, 54, 55, 55, 55, 56, 55, 57, 56, 48, 56, 49, 56, 50, 56, 51, 56, 52, 56, 53, 56, 54, 56, 55, 56, 56, 56, 57, 57, 48, 57, 49, 57, 50, 57, 51, 57, 52, 57, 53, 57, 54, 57, 55, 57, 56, 57, 57]⟩)) (.t 51), none⟩, ⟨(some 53), .ixs 1 (.t 42) (.t 44), none⟩, ⟨none, .st 1 (.t 53) (.t 50), none⟩, ⟨(some 54), .ixs 1 (.t 45) (.t 47), none⟩, ⟨none, .st 1 (.t 54) (.t 52), none⟩] (some []))
 (.seq (.reg [⟨(some 55), .mv (.t 0), none⟩, ⟨(some 56), .mv (.t 4), none⟩, ⟨(some 57), .bin .sub (.t 56) (.k (.int .i64 3)), none⟩, ⟨(some 58), .mv (.t 0), none⟩, ⟨(some 59), .mv (.t 4), none⟩, ⟨(some 60), .bin .sub (.t 59) (.k (.int .i64 4)), none⟩, ⟨(some 61), .mv (.t 8), none⟩, ⟨(some 62), .bin .add (.t 61) (.k (.int .u32 1)), none⟩, ⟨(some 63), .ixstr (.k (.str ⟨#[48, 48, 48, 49, 48, 50, 48, 51, 48, 52, 48, 53, 48, 54, 48, 55, 48, 56, 48, 57, 49, 48, 49, 49, 49, 50, 49, 51, 49, 52, 49, 53, 49, 54, 49, 55, 49, 56, 49, 57, 50, 48, 50, 49, 50, 50, 50, 51, 50, 52, 50, 53, 50, 54, 50, 55, 50, 56, 50, 57, 51, 48, 51, 49, 51, 50, 51, 51, 51, 52, 51, 53, 51, 54, 51, 55, 51, 56, 51, 57, 52, 48, 52, 49, 52, 50, 52, 51, 52, 52, 52, 53, 52, 54, 52, 55, 52, 56, 52, 57, 53, 48, 53, 49, 53, 50, 53, 51, 53, 52, 53, 53, 53, 54, 53, 55, 53, 56, 53, 57, 54, 48, 54, 49, 54, 50, 54, 51, 54, 52, 54, 53, 54, 54, 54, 55, 54, 56, 54, 57, 55, 48, 55, 49, 55, 50, 55, 51, 55, 52, 55, 53, 55, 54, 55, 55, 55, 56, 55, 57, 56, 48, 56, 49, 56, 50, 56, 51, 56, 52, 56, 53, 56, 54, 56, 55, 56, 56, 56, 57, 57, 48, 57, 49, 57, 50, 57, 51, 57, 52, 57, 53, 57, 54, 57, 55, 57, 56, 57, 57]⟩)) (.t 62), none⟩, ⟨(some 64), .mv (.t 8), none⟩, ⟨(some 65), .ixstr (.k (.str ⟨#[48, 48, 48, 49, 48, 50, 48, 51, 48, 52, 48, 53, 48, 54, 48, 55, 48, 56, 48, 57, 49, 48, 49, 49, 49, 50, 49, 51, 49, 52, 49, 53, 49, 54, 49, 55, 49, 56, 49, 57, 50, 48, 50, 49, 50, 50, 50, 51, 50, 52, 50, 53, 50, 54, 50, 55, 50, 56, 50, 57, 51, 48, 51, 49, 51, 50, 51, 51, 51, 52, 51, 53, 51, 54, 51, 55, 51, 56, 51, 57, 52, 48, 52, 49, 52, 50, 52, 51, 52, 52, 52, 53, 52, 54, 52, 55, 52, 56, 52, 57, 53, 48, 53, 49, 53, 50, 53, 51, 53, 52, 53, 53, 53, 54, 53, 55, 53, 56, 53, 57, 54, 48, 54, 49, 54, 50, 54, 51, 54, 52, 54, 53, 54, 54, 54, 55, 54, 56, 54, 57, 55, 48, 55, 49, 55, 50, 55, 51, 55, 52, 55, 53, 55, 54, 55, 55, 55, 56, 55, 57, 56, 48, 56, 49, 56, 50, 56, 51, 56, 52, 56, 53, 56, 54, 56, 55, 56, 56, 56, 57, 57, 48, 57, 49, 57, 50, 57, 51, 57, 52, 57, 53, 57, 54, 57, 55, 57, 56, 57, 57]⟩)) (.t 64), none⟩, ⟨(some 66), .ixs 1 (.t 55) (.t 57), none⟩, ⟨none, .st 1 (.t 66) (.t 63), none⟩, ⟨(some 67), .ixs 1 (.t 58) (.t 60), none⟩, ⟨none, .st 1 (.t 67) (.t 65), none⟩] (some []))
 (.seq (.reg [⟨(some 68), .mv (.t 0), none⟩, ⟨(some 69), .mv (.t 4), none⟩, ⟨(some 70), .bin .sub (.t 69) (.k (.int .i64 5)), none⟩, ⟨(some 71), .mv (.t 0), none⟩, ⟨(some 72), .mv (.t 4), none⟩, ⟨(some 73), .bin .sub (.t 72) (.k (.int .i64 6)), none⟩, ⟨(some 74), .mv (.t 11), none⟩, ⟨(some 75), .bin .add (.t 74) (.k (.int .u32 1)), none⟩, ⟨(some 76), .ixstr (.k (.str ⟨#[48, 48, 48, 49, 48, 50, 48, 51, 48, 52, 48, 53, 48, 54, 48, 55, 48, 56, 48, 57, 49, 48, 49, 49, 49, 50, 49, 51, 49, 52, 49, 53, 49, 54, 49, 55, 49, 56, 49, 57, 50, 48, 50, 49, 50, 50, 50, 51, 50, 52, 50, 53, 50, 54, 50, 55, 50, 56, 50, 57, 51, 48, 51, 49, 51, 50, 51, 51, 51, 52, 51, 53, 51, 54, 51, 55, 51, 56, 51, 57, 52, 48, 52, 49, 52, 50, 52, 51, 52, 52, 52, 53, 52, 54, 52, 55, 52, 56, 52, 57, 53, 48, 53, 49, 53, 50, 53, 51, 53, 52, 53, 53, 53, 54, 53, 55, 53, 56, 53, 57, 54, 48, 54, 49, 54, 50, 54, 51, 54, 52, 54, 53, 54, 54, 54, 55, 54, 56, 54, 57, 55, 48, 55, 49, 55, 50, 55, 51, 55, 52, 55, 53, 55, 54, 55, 55, 55, 56, 55, 57, 56, 48, 56, 49, 56, 50, 56, 51, 56, 52, 56, 53, 56, 54, 56, 55, 56, 56, 56, 57, 57, 48, 57, 49, 57, 50, 57, 51, 57, 52, 57, 53, 57, 54, 57, 55, 57, 56, 57, 57]⟩)) (.t 75), none⟩, ⟨(some 77), .mv (.t 11), none⟩, ⟨(some 78), .ixstr (.k (.str ⟨#[48, 48, 48, 49, 48, 50, 48, 51, 48, 52, 48, 53, 48, 54, 48, 55, 48, 56, 48, 57, 49, 48, 49, 49, 49, 50, 49, 51, 49, 52, 49, 53, 49, 54, 49, 55, 49, 56, 49, 57, 50, 48, 50, 49, 50, 50, 50, 51, 50, 52, 50, 53, 50, 54, 50, 55, 50, 56, 50, 57, 51, 48, 51, 49, 51, 50, 51, 51, 51, 52, 51, 53, 51, 54, 51, 55, 51, 56, 51, 57, 52, 48, 52, 49, 52, 50, 52, 51, 52, 52, 52, 53, 52, 54, 52, 55, 52, 56, 52, 57, 53, 48, 53, 49, 53, 50, 53, 51, 53, 52, 53, 53, 53, 54, 53, 55, 53, 56, 53, 57, 54, 48, 54, 49, 54, 50, 54, 51, 54, 52, 54, 53, 54, 54, 54, 55, 54, 56, 54, 57, 55, 48, 55, 49, 55, 50, 55, 51, 55, 52, 55, 53, 55, 54, 55, 55, 55, 56, 55, 57, 56, 48, 56, 49, 56, 50, 56, 51, 56, 52, 56, 53, 56, 54, 56, 55, 56, 56, 56, 57, 57, 48, 57, 49, 57, 50, 57, 51, 57, 52, 57, 53, 57, 54, 57, 55, 57, 56, 57, 57]⟩)) (.t 77), none⟩, ⟨(some 79), .ixs 1 (.t 68) (.t 70), none⟩, ⟨none, .st 1 (.t 79) (.t 76), none⟩, ⟨(some 80), .ixs 1 (.t 71) (.t 73), none⟩, ⟨none, .st 1 (.t 80) (.t 78), none⟩] (some []))
 (.seq (.reg [⟨(some 81), .mv (.t 0), none⟩, ⟨(some 82), .mv (.t 4), none⟩, ⟨(some 83), .bin .sub (.t 82) (.k (.int .i64 7)), none⟩, ⟨(some 84), .mv (.t 0), none⟩, ⟨(some 85), .mv (.t 4), none⟩, ⟨(some 86), .bin .sub (.t 85) (.k (.int .i64 8)), none⟩, ⟨(some 87), .mv (.t 10), none⟩, ⟨(some 88), .bin .add (.t 87) (.k (.int .u32 1)), none⟩, ⟨(some 89), .ixstr (.k (.str ⟨#[48, 48, 48, 49, 48, 50, 48, 51, 48, 52, 48, 53, 48, 54, 48, 55, 48, 56, 48, 57, 49, 48, 49, 49, 49, 50, 49, 51, 49, 52, 49, 53, 49, 54, 49, 55, 49, 56, 49, 57, 50, 48, 50, 49, 50, 50, 50, 51, 50, 52, 50, 53, 50, 54, 50, 55, 50, 56, 50, 57, 51, 48, 51, 49, 51, 50, 51, 51, 51, 52, 51, 53, 51, 54, 51, 55, 51, 56, 51, 57, 52, 48, 52, 49, 52, 50, 52, 51, 52, 52, 52, 53, 52, 54, 52, 55, 52, 56, 52, 57, 53, 48, 53, 49, 53, 50, 53, 51, 53, 52, 53, 53, 53, 54, 53, 55, 53, 56, 53, 57, 54, 48, 54, 49, 54, 50, 54, 51, 54, 52, 54, 53, 54, 54, 54, 55, 54, 56, 54, 57, 55, 48, 55, 49, 55, 50, 55, 51, 55, 52, 55, 53, 55, 54, 55, 55, 55, 56, 55, 57, 56, 48, 56, 49, 56, 50, 56, 51, 56, 52, 56, 53, 56, 54, 56, 55, 56, 56, 56, 57, 57, 48, 57, 49, 57, 50, 57, 51, 57, 52, 57, 53, 57, 54, 57, 55, 57, 56, 57, 57]⟩)) (.t 88), none⟩, ⟨(some 90), .mv (.t 10), none⟩, ⟨(some 91), .ixstr (.k (.str ⟨#[48, 48, 48, 49, 48, 50, 48, 51, 48, 52, 48, 53, 48, 54, 48, 55, 48, 56, 48, 57, 49, 48, 49, 49, 49, 50, 49, 51, 49, 52, 49, 53, 49, 54, 49, 55, 49, 56, 49, 57, 50, 48, 50, 49, 50, 50, 50, 51, 50, 52, 50, 53, 50, 54, 50, 55, 50, 56, 50, 57, 51, 48, 51, 49, 51, 50, 51, 51, 51, 52, 51, 53, 51, 54, 51, 55, 51, 56, 51, 57, 52, 48, 52, 49, 52, 50, 52, 51, 52, 52, 52, 53, 52, 54, 52, 55, 52, 56, 52, 57, 53, 48, 53, 49, 53, 50, 53, 51, 53, 52, 53, 53, 53, 54, 53, 55, 53, 56, 53, 57, 54, 48, 54, 49, 54, 50, 54, 51, 54, 52, 54, 53, 54, 54, 54, 55, 54, 56, 54, 57, 55, 48, 55, 49, 55, 50, 55, 51, 55, 52, 55, 53, 55, 54, 55, 55, 55, 56, 55, 57, 56, 48, 56, 49, 56, 50, 56, 51, 56, 52, 56, 53, 56, 54, 56, 55, 56, 56, 56, 57, 57, 48, 57, 49, 57, 50, 57, 51, 57, 52, 57, 53, 57, 54, 57, 55, 57, 56, 57, 57]⟩)) (.t 90), none⟩, ⟨(some 92), .ixs 1 (.t 81) (.t 83), none⟩, ⟨none, .st 1 (.t 92) (.t 89), none⟩, ⟨(some 93), .ixs 1 (.t 84) (.t 86), none⟩, ⟨none, .st 1 (.t 93) (.t 91), none⟩] (some []))
 (.reg [⟨(some 94), .mv (.t 4), none⟩, ⟨(some 95), .bin .sub (.t 94) (.k (.int .i64 8)), none⟩, ⟨(some 4), .mv (.t 95), none⟩] none))))))))))))))
 (.seq (.reg [⟨(some 96), .mv (.t 1), none⟩, ⟨(some 97), .conv .u32 (.t 96), none⟩, ⟨(some 12), .mv (.t 97), none⟩] none)
 (.seq (.seq (.reg [⟨(some 98), .mv (.t 4), none⟩, ⟨(some 99), .bin .geq (.t 98) (.k (.int .i64 4)), none⟩] none)
 (.cond (.t 99) (.seq (.reg [⟨(some 100), .mv (.t 12), none⟩, ⟨(some 101), .bin .rem (.t 100) (.k (.int .u32 10000)), none⟩, ⟨(some 13), .mv (.t 101), none⟩] none)
 (.seq (.reg [⟨(some 102), .mv (.t 12), none⟩, ⟨(some 103), .bin .quo (.t 102) (.k (.int .u32 10000)), none⟩, ⟨(some 12), .mv (.t 103), none⟩] none)
 (.seq (.reg [⟨(some 104), .mv (.t 13), none⟩, ⟨(some 105), .bin .quo (.t 104) (.k (.int .u32 100)), none⟩, ⟨(some 106), .bin .mul (.t 105) (.k (.int .u32 2)), none⟩, ⟨(some 107), .mv (.t 13), none⟩, ⟨(some 108), .bin .rem (.t 107) (.k (.int .u32 100)), none⟩, ⟨(some 109), .bin .mul (.t 108) (.k (.int .u32 2)), none⟩, ⟨(some 14), .mv (.t 106), none⟩, ⟨(some 15), .mv (.t 109), none⟩] none)
 (.seq (.reg [⟨(some 110), .mv (.t 0), none⟩, ⟨(some 111), .mv (.t 4), none⟩, ⟨(some 112), .bin .sub (.t 111) (.k (.int .i64 1)), none⟩, ⟨(some 113), .mv (.t 0), none⟩, ⟨(some 114), .mv (.t 4), none⟩, ⟨(some 115), .bin .sub (.t 114) (.k (.int .i64 2)), none⟩, ⟨(some 116), .mv (.t 15), none⟩, ⟨(some 117), .bin .add (.t 116) (.k (.int .u32 1)), none⟩, ⟨(some 118), .ixstr (.k (.str ⟨#[48, 48, 48, 49, 48, 50, 48, 51, 48, 52, 48, 53, 48, 54, 48, 55, 48, 56, 48, 57, 49, 48, 49, 49, 49, 50, 49, 51, 49, 52, 49, 53, 49, 54, 49, 55, 49, 56, 49, 57, 50, 48, 50, 49, 50, 50, 50, 51, 50, 52, 50, 53, 50, 54, 50, 55, 50, 56, 50, 57, 51, 48, 51, 49, 51, 50, 51, 51, 51, 52, 51, 53, 51, 54, 51, 55, 51, 56, 51, 57, 52, 48, 52, 49, 52, 50, 52, 51, 52, 52, 52, 53, 52, 54, 52, 55, 52, 56, 52, 57, 53, 48, 53, 49, 53, 50, 53, 51, 53, 52, 53, 53, 53, 54, 53, 55, 53, 56, 53, 57, 54, 48, 54, 49, 54, 50, 54, 51, 54, 52, 54, 53, 54, 54, 54, 55, 54, 56, 54, 57, 55, 48, 55, 49, 55, 50, 55, 51, 55, 52, 55, 53, 55, 54, 55, 55, 55, 56, 55, 57, 56, 48, 56, 49, 56, 50, 56, 51, 56, 52, 56, 53, 56, 54, 56, 55, 56, 56, 56, 57, 57, 48, 57, 49, 57, 50, 57, 51, 57, 52, 57, 53, 57, 54, 57, 55, 57, 56, 57, 57]⟩)) (.t 117), none⟩, ⟨(some 119), .mv (.t 15), none⟩, ⟨(some 120), .ixstr (.k (.str ⟨#[48, 48, 48, 49, 48, 50, 48, 51, 48, 52, 48, 53, 48, 54, 48, 55, 48, 56, 48, 57, 49, 48, 49, 49, 49, 50, 49, 51, 49, 52, 49, 53, 49, 54, 49, 55, 49, 56, 49, 57, 50, 48, 50, 49, 50, 50, 50, 51, 50, 52, 50, 53, 50, 54, 50, 55, 50, 56, 50, 57, 51, 48, 51, 49, 51, 50, 51, 51, 51, 52, 51, 53, 51, 54, 51, 55, 51, 56, 51, 57, 52, 48, 52, 49, 52, 50, 52, 51, 52, 52, 52, 53, 52, 54, 52, 55, 52, 56, 52, 57, 53, 48, 53, 49, 53, 50, 53, 51, 53, 52, 53, 53, 53, 54, 53, 55, 53, 56, 53, 57, 54, 48, 54, 49, 54, 50, 54, 51, 54, 52, 54, 53, 54, 54, 54, 55, 54, 56, 54, 57, 55, 48, 55, 49, 55, 50, 55, 51, 55, 52, 55, 53, 55, 54, 55, 55, 55, 56, 55, 57, 56, 48, 56, 49, 56, 50, 56, 51, 56, 52, 56, 53, 56, 54, 56, 55, 56, 56, 56, 57, 57, 48, 57, 49, 57, 50, 57, 51, 57, 52, 57, 53, 57, 54, 57, 55, 57, 56, 57, 57]⟩)) (.t 119), none⟩, ⟨(some 121), .ixs 1 (.t 110) (.t 112), none⟩, ⟨none, .st 1 (.t 121) (.t 118), none⟩, ⟨(some 122), .ixs 1 (.t 113) (.t 115), none⟩, ⟨none, .st 1 (.t 122) (.t 120), none⟩] (some []))
 (.seq (.reg [⟨(some 123), .mv (.t 0), none⟩, ⟨(some 124), .mv (.t 4), none⟩, ⟨(some 125), .bin .sub (.t 124) (.k (.int .i64 3)), none⟩, ⟨(some 126), .mv (.t 0), none⟩, ⟨(some 127), .mv (.t 4), none⟩, ⟨(some 128), .bin .sub (.t 127) (.k (.int .i64 4)), none⟩, ⟨(some 129), .mv (.t 14), none⟩, ⟨(some 130), .bin .add (.t 129) (.k (.int .u32 1)), none⟩, ⟨(some 131), .ixstr (.k (.str ⟨#[48, 48, 48, 49, 48, 50, 48, 51, 48, 52, 48, 53, 48, 54, 48, 55, 48, 56, 48, 57, 49, 48, 49, 49, 49, 50, 49, 51, 49, 52, 49, 53, 49, 54, 49, 55, 49, 56, 49, 57, 50, 48, 50, 49, 50, 50, 50, 51, 50, 52, 50, 53, 50, 54, 50, 55, 50, 56, 50, 57, 51, 48, 51, 49, 51, 50, 51, 51, 51, 52, 51, 53, 51, 54, 51, 55, 51, 56, 51, 57, 52, 48, 52, 49, 52, 50, 52, 51, 52, 52, 52, 53, 52, 54, 52, 55, 52, 56, 52, 57, 53, 48, 53, 49, 53, 50, 53, 51, 53, 52, 53, 53, 53, 54, 53, 55, 53, 56, 53, 57, 54, 48, 54, 49, 54, 50, 54, 51, 54, 52, 54, 53, 54, 54, 54, 55, 54, 56, 54, 57, 55, 48, 55, 49, 55, 50, 55, 51, 55, 52, 55, 53, 55, 54, 55, 55, 55, 56, 55, 57, 56, 48, 56, 49, 56, 50, 56, 51, 56, 52, 56, 53, 56, 54, 56, 55, 56, 56, 56, 57, 57, 48, 57, 49, 57, 50, 57, 51, 57, 52, 57, 53, 57, 54, 57, 55, 57, 56, 57, 57]⟩)) (.t 130), none⟩, ⟨(some 132), .mv (.t 14), none⟩, ⟨(some 133), .ixstr (.k (.str ⟨#[48, 48, 48, 49, 48, 50, 48, 51, 48, 52, 48, 53, 48, 54, 48, 55, 48, 56, 48, 57, 49, 48, 49, 49, 49, 50, 49, 51, 49, 52, 49, 53, 49, 54, 49, 55, 49, 56, 49, 57, 50, 48, 50, 49, 50, 50, 50, 51, 50, 52, 50, 53, 50, 54, 50, 55, 50, 56, 50, 57, 51, 48, 51, 49, 51, 50, 51, 51, 51, 52, 51, 53, 51, 54, 51, 55, 51, 56, 51, 57, 52, 48, 52, 49, 52, 50, 52, 51, 52, 52, 52, 53, 52, 54, 52, 55, 52, 56, 52, 57, 53, 48, 53, 49, 53, 50, 53, 51, 53, 52, 53, 53, 53, 54, 53, 55, 53, 56, 53, 57, 54, 48, 54, 49, 54, 50, 54, 51, 54, 52, 54, 53, 54, 54, 54, 55, 54, 56, 54, 57, 55, 48, 55, 49, 55, 50, 55, 51, 55, 52, 55, 53, 55, 54, 55, 55, 55, 56, 55, 57, 56, 48, 56, 49, 56, 50, 56, 51, 56, 52, 56, 53, 56, 54, 56, 55, 56, 56, 56, 57, 57, 48, 57, 49, 57, 50, 57, 51, 57, 52, 57, 53, 57, 54, 57, 55, 57, 56, 57, 57]⟩)) (.t 132), none⟩, ⟨(some 134), .ixs 1 (.t 123) (.t 125), none⟩, ⟨none, .st 1 (.t 134) (.t 131), none⟩, ⟨(some 135), .ixs 1 (.t 126) (.t 128), none⟩, ⟨none, .st 1 (.t 135) (.t 133), none⟩] (some []))
 (.reg [⟨(some 136), .mv (.t 4), none⟩, ⟨(some 137), .bin .sub (.t 136) (.k (.int .i64 4)), none⟩, ⟨(some 4), .mv (.t 137), none⟩] none)))))) .skip))
 (.seq (.seq (.reg [⟨(some 138), .mv (.t 4), none⟩, ⟨(some 139), .bin .geq (.t 138) (.k (.int .i64 2)), none⟩] none)
 (.cond (.t 139) (.seq (.reg [⟨(some 140), .mv (.t 12), none⟩, ⟨(some 141), .bin .rem (.t 140) (.k (.int .u32 100)), none⟩, ⟨(some 142), .bin .mul (.t 141) (.k (.int .u32 2)), none⟩, ⟨(some 16), .mv (.t 142), none⟩] none)
 (.seq (.reg [⟨(some 143), .mv (.t 12), none⟩, ⟨(some 144), .bin .quo (.t 143) (.k (.int .u32 100)), none⟩, ⟨(some 12), .mv (.t 144), none⟩] none)
 (.seq (.reg [⟨(some 145), .mv (.t 0), none⟩, ⟨(some 146), .mv (.t 4), none⟩, ⟨(some 147), .bin .sub (.t 146) (.k (.int .i64 1)), none⟩, ⟨(some 148), .mv (.t 0), none⟩, ⟨(some 149), .mv (.t 4), none⟩, ⟨(some 150), .bin .sub (.t 149) (.k (.int .i64 2)), none⟩, ⟨(some 151), .mv (.t 16), none⟩, ⟨(some 152), .bin .add (.t 151) (.k (.int .u32 1)), none⟩, ⟨(some 153), .ixstr (.k (.str ⟨#[48, 48, 48, 49, 48, 50, 48, 51, 48, 52, 48, 53, 48, 54, 48, 55, 48, 56, 48, 57, 49, 48, 49, 49, 49, 50, 49, 51, 49, 52, 49, 53, 49, 54, 49, 55, 49, 56, 49, 57, 50, 48, 50, 49, 50, 50, 50, 51, 50, 52, 50, 53, 50, 54, 50, 55, 50, 56, 50, 57, 51, 48, 51, 49, 51, 50, 51, 51, 51, 52, 51, 53, 51, 54, 51, 55, 51, 56, 51, 57, 52, 48, 52, 49, 52, 50, 52, 51, 52, 52, 52, 53, 52, 54, 52, 55, 52, 56, 52, 57, 53, 48, 53, 49, 53, 50, 53, 51, 53, 52, 53, 53, 53, 54, 53, 55, 53, 56, 53, 57, 54, 48, 54, 49, 54, 50, 54, 51, 54, 52, 54, 53, 54, 54, 54, 55, 54, 56, 54, 57, 55, 48, 55, 49, 55, 50, 55, 51, 55, 52, 55, 53, 55, 54, 55, 55, 55, 56, 55, 57, 56, 48, 56, 49, 56, 50, 56, 51, 56, 52, 56, 53, 56, 54, 56, 55, 56, 56, 56, 57, 57, 48, 57, 49, 57, 50, 57, 51, 57, 52, 57, 53, 57, 54, 57, 55, 57, 56, 57, 57]⟩)) (.t 152), none⟩, ⟨(some 154), .mv (.t 16), none⟩, ⟨(some 155), .ixstr (.k (.str ⟨#[48, 48, 48, 49, 48, 50, 48, 51, 48, 52, 48, 53, 48, 54, 48, 55, 48, 56, 48, 57, 49, 48, 49, 49, 49, 50, 49, 51, 49, 52, 49, 53, 49, 54, 49, 55, 49, 56, 49, 57, 50, 48, 50, 49, 50, 50, 50, 51, 50, 52, 50, 53, 50, 54, 50, 55, 50, 56, 50, 57, 51, 48, 51, 49, 51, 50, 51, 51, 51, 52, 51, 53, 51, 54, 51, 55, 51, 56, 51, 57, 52, 48, 52, 49, 52, 50, 52, 51, 52, 52, 52, 53, 52, 54, 52, 55, 52, 56, 52, 57, 53, 48, 53, 49, 53, 50, 53, 51, 53, 52, 53, 53, 53, 54, 53, 55, 53, 56, 53, 57, 54, 48, 54, 49, 54, 50, 54, 51, 54, 52, 54, 53, 54, 54, 54, 55, 54, 56, 54, 57, 55, 48, 55, 49, 55, 50, 55, 51, 55, 52, 55, 53, 55, 54, 55, 55, 55, 56, 55, 57, 56, 48, 56, 49, 56, 50, 56, 51, 56, 52, 56, 53, 56, 54, 56, 55, 56, 56, 56, 57, 57, 48, 57, 49, 57, 50, 57, 51, 57, 52, 57, 53, 57, 54, 57, 55, 57, 56, 57, 57]⟩)) (.t 154), none⟩, ⟨(some 156), .ixs 1 (.t 145) (.t 147), none⟩, ⟨none, .st 1 (.t 156) (.t 153), none⟩, ⟨(some 157), .ixs 1 (.t 148) (.t 150), none⟩, ⟨none, .st 1 (.t 157) (.t 155), none⟩] (some []))
 (.reg [⟨(some 158), .mv (.t 4), none⟩, ⟨(some 159), .bin .sub (.t 158) (.k (.int .i64 2)), none⟩, ⟨(some 4), .mv (.t 159), none⟩] none)))) .skip))
 (.seq (.reg [⟨(some 160), .mv (.t 4), none⟩, ⟨(some 161), .bin .gtr (.t 160) (.k (.int .i64 0)), none⟩] none)
 (.cond (.t 161) (.reg [⟨(some 162), .mv (.t 0), none⟩, ⟨(some 163), .mv (.t 12), none⟩, ⟨(some 164), .bin .add (.k (.int .u32 48)) (.t 163), none⟩, ⟨(some 165), .conv .u8 (.t 164), none⟩, ⟨(some 166), .ixs 1 (.t 162) (.k (.int .i64 0)), none⟩, ⟨none, .st 1 (.t 166) (.t 165), none⟩] none) .skip)))))))⟩
/-- internal/strconv.formatBits -/
def m70 : MFn := ⟨5, 102, [.tmp 10, .tmp 11], (.seq (.reg [⟨(some 10), .mv (.k .nils), none⟩, ⟨(some 11), .mv (.k (.str ⟨#[]⟩)), none⟩] none)
 (.seq (.seq (.reg [⟨(some 19), .mv (.t 2), none⟩, ⟨(some 20), .bin .lss (.t 19) (.k (.int .i64 2)), none⟩, ⟨(some 21), .mv (.t 20), none⟩, ⟨(some 22), .mv (.t 2), (some (21, false))⟩, ⟨(some 23), .bin .eql (.t 22) (.k (.int .i64 10)), (some (21, false))⟩, ⟨(some 24), .pick (.t 21) (.k (.bool true)) (.t 23), none⟩, ⟨(some 25), .mv (.t 24), none⟩, ⟨(some 26), .mv (.t 2), (some (25, false))⟩, ⟨(some 27), .bin .gtr (.t 26) (.k (.int .i64 36)), (some (25, false))⟩, ⟨(some 28), .pick (.t 25) (.k (.bool true)) (.t 27), none⟩] none)
 (.cond (.t 28) (.reg [⟨(some 29), .stop, none⟩, ⟨none, .stop, none⟩] none) .skip))
 (.seq (.reg [⟨(some 12), .alloca 76 [(.int .u8 0), (.int .u8 0), (.int .u8 0), (.int .u8 0), (.int .u8 0), (.int .u8 0), (.int .u8 0), (.int .u8 0), (.int .u8 0), (.int .u8 0), (.int .u8 0), (.int .u8 0), (.int .u8 0), (.int .u8 0), (.int .u8 0), (.int .u8 0), (.int .u8 0), (.int .u8 0), (.int .u8 0), (.int .u8 0), (.int .u8 0), (.int .u8 0), (.int .u8 0), (.int .u8 0), (.int .u8 0), (.int .u8 0), (.int .u8 0), (.int .u8 0), (.int .u8 0), (.int .u8 0), (.int .u8 0), (.int .u8 0), (.int .u8 0), (.int .u8 0), (.int .u8 0), (.int .u8 0), (.int .u8 0), (.int .u8 0), (.int .u8 0), (.int .u8 0), (.int .u8 0), (.int .u8 0), (.int .u8 0), (.int .u8 0), (.int .u8 0), (.int .u8 0), (.int .u8 0), (.int .u8 0), (.int .u8 0), (.int .u8 0), (.int .u8 0), (.int .u8 0), (.int .u8 0), (.int .u8 0), (.int .u8 0), (.int .u8 0), (.int .u8 0), (.int .u8 0), (.int .u8 0), (.int .u8 0), (.int .u8 0), (.int .u8 0), (.int .u8 0), (.int .u8 0), (.int .u8 0)], none⟩] none)
 (.seq (.reg [⟨(some 13), .mv (.k (.int .i64 65)), none⟩] none)
 (.seq (.seq (.reg [⟨(some 30), .mv (.t 3), none⟩] none)
 (.cond (.t 30) (.reg [⟨(some 31), .mv (.t 1), none⟩, ⟨(some 32), .un .neg (.t 31), none⟩, ⟨(some 1), .mv (.t 32), none⟩] none) .skip))
 (.seq (.seq (.reg [⟨(some 33), .mv (.t 2), none⟩, ⟨(some 34), .call 98 (.k (.fn (.func 83) [] [])) [(.t 33)], none⟩] none)
 (.cond (.t 34) (.seq (.reg [⟨(some 35), .mv (.t 2), none⟩, ⟨(some 36), .conv .u64 (.t 35), none⟩, ⟨(some 37), .call 101 (.k (.fn (.func 84) [] [])) [(.t 36)], none⟩, ⟨(some 38), .conv .u64 (.t 37), none⟩, ⟨(some 14), .mv (.t 38), none⟩] none)
 (.seq (.reg [⟨(some 39), .mv (.t 2), none⟩, ⟨(some 40), .conv .u64 (.t 39), none⟩, ⟨(some 15), .mv (.t 40), none⟩] none)
 (.seq (.reg [⟨(some 41), .mv (.t 2), none⟩, ⟨(some 42), .conv .u64 (.t 41), none⟩, ⟨(some 43), .bin .sub (.t 42) (.k (.int .u64 1)), none⟩, ⟨(some 16), .mv (.t 43), none⟩] none)
 (.seq (.block 0 (.loop (.seq (.seq (.reg [⟨(some 44), .mv (.t 1), none⟩, ⟨(some 45), .mv (.t 15), none⟩, ⟨(some 46), .bin .geq (.t 44) (.t 45), none⟩] none)
 (.cond (.t 46) .skip (.exit 0)))
 (.block 1 (.seq (.reg [⟨(some 47), .mv (.t 13), none⟩, ⟨(some 48), .bin .sub (.t 47) (.k (.int .i64 1)), none⟩, ⟨(some 13), .mv (.t 48), none⟩] none)
 (.seq (.reg [⟨(some 49), .mv (.t 13), none⟩, ⟨(some 50), .mv (.t 1), none⟩, ⟨(some 51), .mv (.t 16), none⟩, ⟨(some 52), .bin .and (.t 50) (.t 51), none⟩, ⟨(some 53), .ixstr (.k (.str ⟨#[48, 49, 50, 51, 52, 53, 54, 55, 56, 57, 97, 98, 99, 100, 101, 102, 103, 104, 105, 106, 107, 108, 109, 110, 111, 112, 113, 114, 115, 116, 117, 118, 119, 120, 121, 122]⟩)) (.t 52), none⟩, ⟨(some 54), .ixa 65 1 (.t 12) (.t 49), none⟩, ⟨none, .st 1 (.t 54) (.t 53), none⟩] none)
 (.reg [⟨(some 55), .mv (.t 1), none⟩, ⟨(some 56), .mv (.t 14), none⟩, ⟨(some 57), .bin .shr (.t 55) (.t 56), none⟩, ⟨(some 1), .mv (.t 57), none⟩] none)))))))
 (.seq (.reg [⟨(some 58), .mv (.t 13), none⟩, ⟨(some 59), .bin .sub (.t 58) (.k (.int .i64 1)), none⟩, ⟨(some 13), .mv (.t 59), none⟩] none)
 (.reg [⟨(some 60), .mv (.t 13), none⟩, ⟨(some 61), .mv (.t 1), none⟩, ⟨(some 62), .ixstr (.k (.str ⟨#[48, 49, 50, 51, 52, 53, 54, 55, 56, 57, 97, 98, 99, 100, 101, 102, 103, 104, 105, 106, 107, 108, 109, 110, 111, 112, 113, 114, 115, 116, 117, 118, 119, 120, 121, 122]⟩)) (.t 61), none⟩, ⟨(some 63), .ixa 65 1 (.t 12) (.t 60), none⟩, ⟨none, .st 1 (.t 63) (.t 62), none⟩] none)))))) (.seq (.reg [⟨(some 64), .mv (.t 2), none⟩, ⟨(some 65), .conv .u64 (.t 64), none⟩, ⟨(some 17), .mv (.t 65), none⟩] none)
 (.seq (.block 2 (.loop (.seq (.seq (.reg [⟨(some 66), .mv (.t 1), none⟩, ⟨(some 67), .mv (.t 17), none⟩, ⟨(some 68), .bin .geq (.t 66) (.t 67), none⟩] none)
 (.cond (.t 68) .skip (.exit 2)))
 (.block 3 (.seq (.reg [⟨(some 69), .mv (.t 13), none⟩, ⟨(some 70), .bin .sub (.t 69) (.k (.int .i64 1)), none⟩, ⟨(some 13), .mv (.t 70), none⟩] none)
 (.seq (.reg [⟨(some 71), .mv (.t 1), none⟩, ⟨(some 72), .mv (.t 17), none⟩, ⟨(some 73), .bin .quo (.t 71) (.t 72), none⟩, ⟨(some 18), .mv (.t 73), none⟩] none)
 (.seq (.reg [⟨(some 74), .mv (.t 13), none⟩, ⟨(some 75), .mv (.t 1), none⟩, ⟨(some 76), .mv (.t 18), none⟩, ⟨(some 77), .mv (.t 17), none⟩, ⟨(some 78), .bin .mul (.t 76) (.t 77), none⟩, ⟨(some 79), .bin .sub (.t 75) (.t 78), none⟩, ⟨(some 80), .ixstr (.k (.str ⟨#[48, 49, 50, 51, 52, 53, 54, 55, 56, 57, 97, 98, 99, 100, 101, 102, 103, 104, 105, 106, 107, 108, 109, 110, 111, 112, 113, 114, 115, 116, 117, 118, 119, 120, 121, 122]⟩)) (.t 79), none⟩, ⟨(some 81), .ixa 65 1 (.t 12) (.t 74), none⟩, ⟨none, .st 1 (.t 81) (.t 80), none⟩] none)
 (.reg [⟨(some 82), .mv (.t 18), none⟩, ⟨(some 1), .mv (.t 82), none⟩] none))))))))
 (.seq (.reg [⟨(some 83), .mv (.t 13), none⟩, ⟨(some 84), .bin .sub (.t 83) (.k (.int .i64 1)), none⟩, ⟨(some 13), .mv (.t 84), none⟩] none)
 (.reg [⟨(some 85), .mv (.t 13), none⟩, ⟨(some 86), .mv (.t 1), none⟩, ⟨(some 87), .ixstr (.k (.str ⟨#[48, 49, 50, 51, 52, 53, 54, 55, 56, 57, 97, 98, 99, 100, 101, 102, 103, 104, 105, 106, 107, 108, 109, 110, 111, 112, 113, 114, 115, 116, 117, 118, 119, 120, 121, 122]⟩)) (.t 86), none⟩, ⟨(some 88), .ixa 65 1 (.t 12) (.t 85), none⟩, ⟨none, .st 1 (.t 88) (.t 87), none⟩] none))))))
 (.seq (.seq (.reg [⟨(some 89), .mv (.t 3), none⟩] none)
 (.cond (.t 89) (.seq (.reg [⟨(some 90), .mv (.t 13), none⟩, ⟨(some 91), .bin .sub (.t 90) (.k (.int .i64 1)), none⟩, ⟨(some 13), .mv (.t 91), none⟩] none)
 (.reg [⟨(some 92), .mv (.t 13), none⟩, ⟨(some 93), .ixa 65 1 (.t 12) (.t 92), none⟩, ⟨none, .st 1 (.t 93) (.k (.int .u8 45)), none⟩] none)) .skip))
 (.seq (.seq (.reg [⟨(some 94), .mv (.t 4), none⟩] none)
 (.cond (.t 94) (.seq (.reg [⟨(some 95), .mv (.t 0), none⟩, ⟨(some 96), .mv (.t 13), none⟩, ⟨(some 97), .slp 1 65 (.t 12) (some (.t 96)) none, none⟩, ⟨(some 98), .app 162 1 1 (.t 95) (.t 97), none⟩, ⟨(some 10), .mv (.t 98), none⟩] none)
 .ret) .skip))
 (.seq (.reg [⟨(some 99), .mv (.t 13), none⟩, ⟨(some 100), .slp 1 65 (.t 12) (some (.t 99)) none, none⟩, ⟨(some 101), .stop, none⟩, ⟨(some 11), .mv (.t 101), none⟩] none)
 .ret)))))))))⟩
/-- unicode/utf8.decodeRuneInStringSlow -/
def m73 : MFn := ⟨1, 117, [.tmp 2, .tmp 3], (.seq (.reg [⟨(some 2), .mv (.k (.int .i32 0)), none⟩, ⟨(some 3), .mv (.k (.int .i64 0)), none⟩] none)
 (.seq (.reg [⟨(some 13), .mv (.t 0), none⟩, ⟨(some 14), .lens (.t 13), none⟩, ⟨(some 4), .mv (.t 14), none⟩] none)
 (.seq (.seq (.reg [⟨(some 15), .mv (.t 4), none⟩, ⟨(some 16), .bin .lss (.t 15) (.k (.int .i64 1)), none⟩] none)
 (.cond (.t 16) (.seq (.reg [⟨(some 2), .mv (.k (.int .i32 65533)), none⟩, ⟨(some 3), .mv (.k (.int .i64 0)), none⟩] none)
 .ret) .skip))
 (.seq (.reg [⟨(some 17), .mv (.t 0), none⟩, ⟨(some 18), .ixstr (.t 17) (.k (.int .i64 0)), none⟩, ⟨(some 5), .mv (.t 18), none⟩] none)
 (.seq (.reg [⟨(some 19), .mv (.t 5), none⟩, ⟨(some 20), .ixa 256 1 (.g 5) (.t 19), none⟩, ⟨(some 21), .ld none (.t 20), none⟩, ⟨(some 6), .mv (.t 21), none⟩] none)
 (.seq (.seq (.reg [⟨(some 22), .mv (.t 6), none⟩, ⟨(some 23), .bin .geq (.t 22) (.k (.int .u8 240)), none⟩] none)
 (.cond (.t 23) (.seq (.reg [⟨(some 24), .mv (.t 6), none⟩, ⟨(some 25), .conv .i32 (.t 24), none⟩, ⟨(some 26), .bin .shl (.t 25) (.k (.int .u64 31)), none⟩, ⟨(some 27), .bin .shr (.t 26) (.k (.int .u64 31)), none⟩, ⟨(some 7), .mv (.t 27), none⟩] none)
 (.seq (.reg [⟨(some 28), .mv (.t 0), none⟩, ⟨(some 29), .ixstr (.t 28) (.k (.int .i64 0)), none⟩, ⟨(some 30), .conv .i32 (.t 29), none⟩, ⟨(some 31), .mv (.t 7), none⟩, ⟨(some 32), .bin .andNot (.t 30) (.t 31), none⟩, ⟨(some 33), .mv (.t 7), none⟩, ⟨(some 34), .bin .and (.k (.int .i32 65533)) (.t 33), none⟩, ⟨(some 35), .bin .or (.t 32) (.t 34), none⟩, ⟨(some 2), .mv (.t 35), none⟩, ⟨(some 3), .mv (.k (.int .i64 1)), none⟩] none)
 .ret)) .skip))
 (.seq (.reg [⟨(some 36), .mv (.t 6), none⟩, ⟨(some 37), .bin .and (.t 36) (.k (.int .u8 7)), none⟩, ⟨(some 38), .conv .i64 (.t 37), none⟩, ⟨(some 8), .mv (.t 38), none⟩] none)
 (.seq (.reg [⟨(some 39), .mv (.t 6), none⟩, ⟨(some 40), .bin .shr (.t 39) (.k (.int .u64 4)), none⟩, ⟨(some 41), .ixa 16 2 (.g 6) (.t 40), none⟩, ⟨(some 42), .ld (some 2) (.t 41), none⟩, ⟨(some 9), .alloc 73 [(.int .u8 0), (.int .u8 0)], none⟩, ⟨none, .st 2 (.t 9) (.t 42), none⟩] none)
 (.seq (.seq (.reg [⟨(some 43), .mv (.t 4), none⟩, ⟨(some 44), .mv (.t 8), none⟩, ⟨(some 45), .bin .lss (.t 43) (.t 44), none⟩] none)
 (.cond (.t 45) (.seq (.reg [⟨(some 2), .mv (.k (.int .i32 65533)), none⟩, ⟨(some 3), .mv (.k (.int .i64 1)), none⟩] none)
 .ret) .skip))
 (.seq (.reg [⟨(some 46), .mv (.t 0), none⟩, ⟨(some 47), .ixstr (.t 46) (.k (.int .i64 1)), none⟩, ⟨(some 10), .mv (.t 47), none⟩] none)
 (.seq (.seq (.reg [⟨(some 48), .mv (.t 10), none⟩, ⟨(some 49), .fa 0 (.t 9), none⟩, ⟨(some 50), .ld none (.t 49), none⟩, ⟨(some 51), .bin .lss (.t 48) (.t 50), none⟩, ⟨(some 52), .mv (.t 51), none⟩, ⟨(some 53), .fa 1 (.t 9), (some (52, false))⟩, ⟨(some 54), .ld none (.t 53), (some (52, false))⟩, ⟨(some 55), .mv (.t 10), (some (52, false))⟩, ⟨(some 56), .bin .lss (.t 54) (.t 55), (some (52, false))⟩, ⟨(some 57), .pick (.t 52) (.k (.bool true)) (.t 56), none⟩] none)
 (.cond (.t 57) (.seq (.reg [⟨(some 2), .mv (.k (.int .i32 65533)), none⟩, ⟨(some 3), .mv (.k (.int .i64 1)), none⟩] none)
 .ret) .skip))
 (.seq (.seq (.reg [⟨(some 58), .mv (.t 8), none⟩, ⟨(some 59), .bin .leq (.t 58) (.k (.int .i64 2)), none⟩] none)
 (.cond (.t 59) (.seq (.reg [⟨(some 60), .mv (.t 5), none⟩, ⟨(some 61), .bin .and (.t 60) (.k (.int .u8 31)), none⟩, ⟨(some 62), .conv .i32 (.t 61), none⟩, ⟨(some 63), .bin .shl (.t 62) (.k (.int .u64 6)), none⟩, ⟨(some 64), .mv (.t 10), none⟩, ⟨(some 65), .bin .and (.t 64) (.k (.int .u8 63)), none⟩, ⟨(some 66), .conv .i32 (.t 65), none⟩, ⟨(some 67), .bin .or (.t 63) (.t 66), none⟩, ⟨(some 2), .mv (.t 67), none⟩, ⟨(some 3), .mv (.k (.int .i64 2)), none⟩] none)
 .ret) .skip))
 (.seq (.reg [⟨(some 68), .mv (.t 0), none⟩, ⟨(some 69), .ixstr (.t 68) (.k (.int .i64 2)), none⟩, ⟨(some 11), .mv (.t 69), none⟩] none)
 (.seq (.seq (.reg [⟨(some 70), .mv (.t 11), none⟩, ⟨(some 71), .bin .lss (.t 70) (.k (.int .u8 128)), none⟩, ⟨(some 72), .mv (.t 71), none⟩, ⟨(some 73), .mv (.t 11), (some (72, false))⟩, ⟨(some 74), .bin .lss (.k (.int .u8 191)) (.t 73), (some (72, false))⟩, ⟨(some 75), .pick (.t 72) (.k (.bool true)) (.t 74), none⟩] none)
 (.cond (.t 75) (.seq (.reg [⟨(some 2), .mv (.k (.int .i32 65533)), none⟩, ⟨(some 3), .mv (.k (.int .i64 1)), none⟩] none)
 .ret) .skip))
 (.seq (.seq (.reg [⟨(some 76), .mv (.t 8), none⟩, ⟨(some 77), .bin .leq (.t 76) (.k (.int .i64 3)), none⟩] none)
 (.cond (.t 77) (.seq (.reg [⟨(some 78), .mv (.t 5), none⟩, ⟨(some 79), .bin .and (.t 78) (.k (.int .u8 15)), none⟩, ⟨(some 80), .conv .i32 (.t 79), none⟩, ⟨(some 81), .bin .shl (.t 80) (.k (.int .u64 12)), none⟩, ⟨(some 82), .mv (.t 10), none⟩, ⟨(some 83), .bin .and (.t 82) (.k (.int .u8 63)), none⟩, ⟨(some 84), .conv .i32 (.t 83), none⟩, ⟨(some 85), .bin .shl (.t 84) (.k (.int .u64 6)), none⟩, ⟨(some 86), .bin .or (.t 81) (.t 85), none⟩, ⟨(some 87), .mv (.t 11), none⟩, ⟨(some 88), .bin .and (.t 87) (.k (.int .u8 63)), none⟩, ⟨(some 89), .conv .i32 (.t 88), none⟩, ⟨(some 90), .bin .or (.t 86) (.t 89), none⟩, ⟨(some 2), .mv (.t 90), none⟩, ⟨(some 3), .mv (.k (.int .i64 3)), none⟩] none)
 .ret) .skip))
 (.seq (.reg [⟨(some 91), .mv (.t 0), none⟩, ⟨(some 92), .ixstr (.t 91) (.k (.int .i64 3)), none⟩, ⟨(some 12), .mv (.t 92), none⟩] none)
 (.seq (.seq (.reg [⟨(some 93), .mv (.t 12), none⟩, ⟨(some 94), .bin .lss (.t 93) (.k (.int .u8 128)), none⟩, ⟨(some 95), .mv (.t 94), none⟩, ⟨(some 96), .mv (.t 12), (some (95, false))⟩, ⟨(some 97), .bin .lss (.k (.int .u8 191)) (.t 96), (some (95, false))⟩, ⟨(some 98), .pick (.t 95) (.k (.bool true)) (.t 97), none⟩] none)
 (.cond (.t 98) (.seq (.reg [⟨(some 2), .mv (.k (.int .i32 65533)), none⟩, ⟨(some 3), .mv (.k (.int .i64 1)), none⟩] none)
 .ret) .skip))
 (.seq (.reg [⟨(some 99), .mv (.t 5), none⟩, ⟨(some 100), .bin .and (.t 99) (.k (.int .u8 7)), none⟩, ⟨(some 101), .conv .i32 (.t 100), none⟩, ⟨(some 102), .bin .shl (.t 101) (.k (.int .u64 18)), none⟩, ⟨(some 103), .mv (.t 10), none⟩, ⟨(some 104), .bin .and (.t 103) (.k (.int .u8 63)), none⟩, ⟨(some 105), .conv .i32 (.t 104), none⟩, ⟨(some 106), .bin .shl (.t 105) (.k (.int .u64 12)), none⟩, ⟨(some 107), .bin .or (.t 102) (.t 106), none⟩, ⟨(some 108), .mv (.t 11), none⟩, ⟨(some 109), .bin .and (.t 108) (.k (.int .u8 63)), none⟩, ⟨(some 110), .conv .i32 (.t 109), none⟩, ⟨(some 111), .bin .shl (.t 110) (.k (.int .u64 6)), none⟩, ⟨(some 112), .bin .or (.t 107) (.t 111), none⟩, ⟨(some 113), .mv (.t 12), none⟩, ⟨(some 114), .bin .and (.t 113) (.k (.int .u8 63)), none⟩, ⟨(some 115), .conv .i32 (.t 114), none⟩, ⟨(some 116), .bin .or (.t 112) (.t 115), none⟩, ⟨(some 2), .mv (.t 116), none⟩, ⟨(some 3), .mv (.k (.int .i64 4)), none⟩] none)
 .ret))))))))))))))))))⟩
/-- internal/stringslite.IndexByte -/
def m74 : MFn := ⟨2, 8, [.tmp 4], (.seq (.reg [⟨(some 4), .mv (.k (.int .i64 0)), none⟩] none)
 (.seq (.reg [⟨(some 5), .mv (.t 0), none⟩, ⟨(some 6), .mv (.t 1), none⟩, ⟨(some 7), .call 71 (.k (.fn (.func 85) [] [])) [(.t 5), (.t 6)], none⟩, ⟨(some 4), .mv (.t 7), none⟩] none)
 .ret))⟩
/-- internal/bytealg.Cutover -/
def m76 : MFn := ⟨1, 6, [.tmp 2], (.seq (.reg [⟨(some 2), .mv (.k (.int .i64 0)), none⟩] none)
 (.seq (.reg [⟨(some 3), .mv (.t 0), none⟩, ⟨(some 4), .bin .add (.t 3) (.k (.int .i64 16)), none⟩, ⟨(some 5), .bin .quo (.t 4) (.k (.int .i64 8)), none⟩, ⟨(some 2), .mv (.t 5), none⟩] none)
 .ret))⟩
/-- internal/bytealg.IndexRabinKarp[string] -/
def m77 : MFn := ⟨2, 81, [.tmp 4], (.seq (.reg [⟨(some 4), .mv (.k (.int .i64 0)), none⟩] none)
 (.seq (.reg [⟨(some 12), .mv (.t 1), none⟩, ⟨(some 13), .call 77 (.k (.fn (.func 86) [] [])) [(.t 12)], none⟩, ⟨(some 11), .mv (.t 13), none⟩, ⟨(some 14), .ext (.t 11) 0, none⟩, ⟨(some 15), .ext (.t 11) 1, none⟩, ⟨(some 5), .mv (.t 14), none⟩, ⟨(some 6), .mv (.t 15), none⟩] none)
 (.seq (.reg [⟨(some 16), .mv (.t 1), none⟩, ⟨(some 17), .lens (.t 16), none⟩, ⟨(some 7), .mv (.t 17), none⟩] none)
 (.seq (.reg [⟨(some 8), .mv (.k (.int .u32 0)), none⟩] none)
 (.seq (.seq (.reg [⟨(some 9), .mv (.k (.int .i64 0)), none⟩] none)
 (.block 0 (.loop (.seq (.seq (.reg [⟨(some 18), .mv (.t 9), none⟩, ⟨(some 19), .mv (.t 7), none⟩, ⟨(some 20), .bin .lss (.t 18) (.t 19), none⟩] none)
 (.cond (.t 20) .skip (.exit 0)))
 (.seq (.block 1 (.reg [⟨(some 23), .mv (.t 8), none⟩, ⟨(some 24), .bin .mul (.t 23) (.k (.int .u32 16777619)), none⟩, ⟨(some 25), .mv (.t 0), none⟩, ⟨(some 26), .mv (.t 9), none⟩, ⟨(some 27), .ixstr (.t 25) (.t 26), none⟩, ⟨(some 28), .conv .u32 (.t 27), none⟩, ⟨(some 29), .bin .add (.t 24) (.t 28), none⟩, ⟨(some 8), .mv (.t 29), none⟩] none))
 (.reg [⟨(some 21), .mv (.t 9), none⟩, ⟨(some 22), .bin .add (.t 21) (.k (.int .i64 1)), none⟩, ⟨(some 9), .mv (.t 22), none⟩] none))))))
 (.seq (.seq (.reg [⟨(some 30), .mv (.t 8), none⟩, ⟨(some 31), .mv (.t 5), none⟩, ⟨(some 32), .bin .eql (.t 30) (.t 31), none⟩, ⟨(some 33), .mv (.t 32), none⟩, ⟨(some 34), .mv (.t 0), (some (33, true))⟩, ⟨(some 35), .mv (.t 7), (some (33, true))⟩, ⟨(some 36), .slstr (.t 34) none (some (.t 35)), (some (33, true))⟩, ⟨(some 37), .mv (.t 1), (some (33, true))⟩, ⟨(some 38), .bin .eql (.t 36) (.t 37), (some (33, true))⟩, ⟨(some 39), .pick (.t 33) (.t 38) (.k (.bool false)), none⟩] none)
 (.cond (.t 39) (.seq (.reg [⟨(some 4), .mv (.k (.int .i64 0)), none⟩] none)
 .ret) .skip))
 (.seq (.seq (.reg [⟨(some 40), .mv (.t 7), none⟩, ⟨(some 10), .mv (.t 40), none⟩] none)
 (.block 2 (.loop (.seq (.seq (.reg [⟨(some 41), .mv (.t 10), none⟩, ⟨(some 42), .mv (.t 0), none⟩, ⟨(some 43), .lens (.t 42), none⟩, ⟨(some 44), .bin .lss (.t 41) (.t 43), none⟩] none)
 (.cond (.t 44) .skip (.exit 2)))
 (.block 3 (.seq (.reg [⟨(some 45), .mv (.t 8), none⟩, ⟨(some 46), .bin .mul (.t 45) (.k (.int .u32 16777619)), none⟩, ⟨(some 8), .mv (.t 46), none⟩] none)
 (.seq (.reg [⟨(some 47), .mv (.t 8), none⟩, ⟨(some 48), .mv (.t 0), none⟩, ⟨(some 49), .mv (.t 10), none⟩, ⟨(some 50), .ixstr (.t 48) (.t 49), none⟩, ⟨(some 51), .conv .u32 (.t 50), none⟩, ⟨(some 52), .bin .add (.t 47) (.t 51), none⟩, ⟨(some 8), .mv (.t 52), none⟩] none)
 (.seq (.reg [⟨(some 53), .mv (.t 8), none⟩, ⟨(some 54), .mv (.t 6), none⟩, ⟨(some 55), .mv (.t 0), none⟩, ⟨(some 56), .mv (.t 10), none⟩, ⟨(some 57), .mv (.t 7), none⟩, ⟨(some 58), .bin .sub (.t 56) (.t 57), none⟩, ⟨(some 59), .ixstr (.t 55) (.t 58), none⟩, ⟨(some 60), .conv .u32 (.t 59), none⟩, ⟨(some 61), .bin .mul (.t 54) (.t 60), none⟩, ⟨(some 62), .bin .sub (.t 53) (.t 61), none⟩, ⟨(some 8), .mv (.t 62), none⟩] none)
 (.seq (.reg [⟨(some 63), .mv (.t 10), none⟩, ⟨(some 64), .bin .add (.t 63) (.k (.int .i64 1)), none⟩, ⟨(some 10), .mv (.t 64), none⟩] none)
 (.seq (.reg [⟨(some 65), .mv (.t 8), none⟩, ⟨(some 66), .mv (.t 5), none⟩, ⟨(some 67), .bin .eql (.t 65) (.t 66), none⟩, ⟨(some 68), .mv (.t 67), none⟩, ⟨(some 69), .mv (.t 0), (some (68, true))⟩, ⟨(some 70), .mv (.t 10), (some (68, true))⟩, ⟨(some 71), .mv (.t 7), (some (68, true))⟩, ⟨(some 72), .bin .sub (.t 70) (.t 71), (some (68, true))⟩, ⟨(some 73), .mv (.t 10), (some (68, true))⟩, ⟨(some 74), .slstr (.t 69) (some (.t 72)) (some (.t 73)), (some (68, true))⟩, ⟨(some 75), .mv (.t 1), (some (68, true))⟩, ⟨(some 76), .bin .eql (.t 74) (.t 75), (some (68, true))⟩, ⟨(some 77), .pick (.t 68) (.t 76) (.k (.bool false)), none⟩] none)
 (.cond (.t 77) (.seq (.reg [⟨(some 78), .mv (.t 10), none⟩, ⟨(some 79), .mv (.t 7), none⟩, ⟨(some 80), .bin .sub (.t 78) (.t 79), none⟩, ⟨(some 4), .mv (.t 80), none⟩] none)
 .ret) .skip)))))))))))
 (.seq (.reg [⟨(some 4), .mv (.k (.int .i64 (-1))), none⟩] none)
 .ret))))))))⟩
/-- internal/strconv.lower -/
def m78 : MFn := ⟨1, 5, [.tmp 2], (.seq (.reg [⟨(some 2), .mv (.k (.int .u8 0)), none⟩] none)
 (.seq (.reg [⟨(some 3), .mv (.t 0), none⟩, ⟨(some 4), .bin .or (.t 3) (.k (.int .u8 32)), none⟩, ⟨(some 2), .mv (.t 4), none⟩] none)
 .ret))⟩
/-- internal/strconv.underscoreOK -/
def m79 : MFn := ⟨1, 94, [.tmp 2], (.seq (.reg [⟨(some 2), .mv (.k (.bool false)), none⟩] none)
 (.seq (.reg [⟨(some 3), .mv (.k (.int .i32 94)), none⟩] none)
 (.seq (.reg [⟨(some 4), .mv (.k (.int .i64 0)), none⟩] none)
 (.seq (.seq (.reg [⟨(some 6), .mv (.t 0), none⟩, ⟨(some 7), .lens (.t 6), none⟩, ⟨(some 8), .bin .geq (.t 7) (.k (.int .i64 1)), none⟩, ⟨(some 9), .mv (.t 8), none⟩, ⟨(some 10), .mv (.t 0), (some (9, true))⟩, ⟨(some 11), .ixstr (.t 10) (.k (.int .i64 0)), (some (9, true))⟩, ⟨(some 12), .bin .eql (.t 11) (.k (.int .u8 45)), (some (9, true))⟩, ⟨(some 13), .mv (.t 12), (some (9, true))⟩, ⟨(some 14), .mv (.t 0), (some (13, false))⟩, ⟨(some 15), .ixstr (.t 14) (.k (.int .i64 0)), (some (13, false))⟩, ⟨(some 16), .bin .eql (.t 15) (.k (.int .u8 43)), (some (13, false))⟩, ⟨(some 17), .pick (.t 13) (.k (.bool true)) (.t 16), (some (9, true))⟩, ⟨(some 18), .pick (.t 9) (.t 17) (.k (.bool false)), none⟩] none)
 (.cond (.t 18) (.reg [⟨(some 19), .mv (.t 0), none⟩, ⟨(some 20), .slstr (.t 19) (some (.k (.int .i64 1))) none, none⟩, ⟨(some 0), .mv (.t 20), none⟩] none) .skip))
 (.seq (.reg [⟨(some 5), .mv (.k (.bool false)), none⟩] none)
 (.seq (.seq (.reg [⟨(some 21), .mv (.t 0), none⟩, ⟨(some 22), .lens (.t 21), none⟩, ⟨(some 23), .bin .geq (.t 22) (.k (.int .i64 2)), none⟩, ⟨(some 24), .mv (.t 23), none⟩, ⟨(some 25), .mv (.t 0), (some (24, true))⟩, ⟨(some 26), .ixstr (.t 25) (.k (.int .i64 0)), (some (24, true))⟩, ⟨(some 27), .bin .eql (.t 26) (.k (.int .u8 48)), (some (24, true))⟩, ⟨(some 28), .pick (.t 24) (.t 27) (.k (.bool false)), none⟩, ⟨(some 29), .mv (.t 28), none⟩, ⟨(some 30), .mv (.t 0), (some (29, true))⟩, ⟨(some 31), .ixstr (.t 30) (.k (.int .i64 1)), (some (29, true))⟩, ⟨(some 32), .call 96 (.k (.fn (.func 78) [] [])) [(.t 31)], (some (29, true))⟩, ⟨(some 33), .bin .eql (.t 32) (.k (.int .u8 98)), (some (29, true))⟩, ⟨(some 34), .mv (.t 33), (some (29, true))⟩, ⟨(some 35), .mv (.t 0), (some (34, false))⟩, ⟨(some 36), .ixstr (.t 35) (.k (.int .i64 1)), (some (34, false))⟩, ⟨(some 37), .call 101 (.k (.fn (.func 78) [] [])) [(.t 36)], (some (34, false))⟩, ⟨(some 38), .bin .eql (.t 37) (.k (.int .u8 111)), (some (34, false))⟩, ⟨(some 39), .pick (.t 34) (.k (.bool true)) (.t 38), (some (29, true))⟩, ⟨(some 40), .mv (.t 39), (some (29, true))⟩, ⟨(some 41), .mv (.t 0), (some (40, false))⟩, ⟨(some 42), .ixstr (.t 41) (.k (.int .i64 1)), (some (40, false))⟩, ⟨(some 43), .call 107 (.k (.fn (.func 78) [] [])) [(.t 42)], (some (40, false))⟩, ⟨(some 44), .bin .eql (.t 43) (.k (.int .u8 120)), (some (40, false))⟩, ⟨(some 45), .pick (.t 40) (.k (.bool true)) (.t 44), (some (29, true))⟩, ⟨(some 46), .pick (.t 29) (.t 45) (.k (.bool false)), none⟩] none)
 (.cond (.t 46) (.seq (.reg [⟨(some 4), .mv (.k (.int .i64 2)), none⟩] none)
 (.seq (.reg [⟨(some 3), .mv (.k (.int .i32 48)), none⟩] none)
 (.reg [⟨(some 47), .mv (.t 0), none⟩, ⟨(some 48), .ixstr (.t 47) (.k (.int .i64 1)), none⟩, ⟨(some 49), .call 113 (.k (.fn (.func 78) [] [])) [(.t 48)], none⟩, ⟨(some 50), .bin .eql (.t 49) (.k (.int .u8 120)), none⟩, ⟨(some 5), .mv (.t 50), none⟩] none))) .skip))
 (.seq (.block 0 (.loop (.seq (.seq (.reg [⟨(some 51), .mv (.t 4), none⟩, ⟨(some 52), .mv (.t 0), none⟩, ⟨(some 53), .lens (.t 52), none⟩, ⟨(some 54), .bin .lss (.t 51) (.t 53), none⟩] none)
 (.cond (.t 54) .skip (.exit 0)))
 (.seq (.block 1 (.seq (.seq (.reg [⟨(some 57), .mv (.t 0), none⟩, ⟨(some 58), .mv (.t 4), none⟩, ⟨(some 59), .ixstr (.t 57) (.t 58), none⟩, ⟨(some 60), .bin .leq (.k (.int .u8 48)) (.t 59), none⟩, ⟨(some 61), .mv (.t 60), none⟩, ⟨(some 62), .mv (.t 0), (some (61, true))⟩, ⟨(some 63), .mv (.t 4), (some (61, true))⟩, ⟨(some 64), .ixstr (.t 62) (.t 63), (some (61, true))⟩, ⟨(some 65), .bin .leq (.t 64) (.k (.int .u8 57)), (some (61, true))⟩, ⟨(some 66), .pick (.t 61) (.t 65) (.k (.bool false)), none⟩, ⟨(some 67), .mv (.t 66), none⟩, ⟨(some 68), .mv (.t 5), (some (67, false))⟩, ⟨(some 69), .mv (.t 68), (some (67, false))⟩, ⟨(some 70), .mv (.t 0), (some (69, true))⟩, ⟨(some 71), .mv (.t 4), (some (69, true))⟩, ⟨(some 72), .ixstr (.t 70) (.t 71), (some (69, true))⟩, ⟨(some 73), .call 137 (.k (.fn (.func 78) [] [])) [(.t 72)], (some (69, true))⟩, ⟨(some 74), .bin .leq (.k (.int .u8 97)) (.t 73), (some (69, true))⟩, ⟨(some 75), .pick (.t 69) (.t 74) (.k (.bool false)), (some (67, false))⟩, ⟨(some 76), .mv (.t 75), (some (67, false))⟩, ⟨(some 77), .mv (.t 0), (some (76, true))⟩, ⟨(some 78), .mv (.t 4), (some (76, true))⟩, ⟨(some 79), .ixstr (.t 77) (.t 78), (some (76, true))⟩, ⟨(some 80), .call 144 (.k (.fn (.func 78) [] [])) [(.t 79)], (some (76, true))⟩, ⟨(some 81), .bin .leq (.t 80) (.k (.int .u8 102)), (some (76, true))⟩, ⟨(some 82), .pick (.t 76) (.t 81) (.k (.bool false)), (some (67, false))⟩, ⟨(some 83), .pick (.t 67) (.k (.bool true)) (.t 82), none⟩] none)
 (.cond (.t 83) (.seq (.reg [⟨(some 3), .mv (.k (.int .i32 48)), none⟩] none)
 (.exit 1)) .skip))
 (.seq (.seq (.reg [⟨(some 84), .mv (.t 0), none⟩, ⟨(some 85), .mv (.t 4), none⟩, ⟨(some 86), .ixstr (.t 84) (.t 85), none⟩, ⟨(some 87), .bin .eql (.t 86) (.k (.int .u8 95)), none⟩] none)
 (.cond (.t 87) (.seq (.seq (.reg [⟨(some 88), .mv (.t 3), none⟩, ⟨(some 89), .bin .neq (.t 88) (.k (.int .i32 48)), none⟩] none)
 (.cond (.t 89) (.seq (.reg [⟨(some 2), .mv (.k (.bool false)), none⟩] none)
 .ret) .skip))
 (.seq (.reg [⟨(some 3), .mv (.k (.int .i32 95)), none⟩] none)
 (.exit 1))) .skip))
 (.seq (.seq (.reg [⟨(some 90), .mv (.t 3), none⟩, ⟨(some 91), .bin .eql (.t 90) (.k (.int .i32 95)), none⟩] none)
 (.cond (.t 91) (.seq (.reg [⟨(some 2), .mv (.k (.bool false)), none⟩] none)
 .ret) .skip))
 (.reg [⟨(some 3), .mv (.k (.int .i32 33)), none⟩] none)))))
 (.reg [⟨(some 55), .mv (.t 4), none⟩, ⟨(some 56), .bin .add (.t 55) (.k (.int .i64 1)), none⟩, ⟨(some 4), .mv (.t 56), none⟩] none)))))
 (.seq (.reg [⟨(some 92), .mv (.t 3), none⟩, ⟨(some 93), .bin .neq (.t 92) (.k (.int .i32 95)), none⟩, ⟨(some 2), .mv (.t 93), none⟩] none)
 .ret))))))))⟩
/-- internal/strconv.log10Pow2 -/
def m80 : MFn := ⟨1, 6, [.tmp 2], (.seq (.reg [⟨(some 2), .mv (.k (.int .i64 0)), none⟩] none)
 (.seq (.reg [⟨(some 3), .mv (.t 0), none⟩, ⟨(some 4), .bin .mul (.t 3) (.k (.int .i64 78913)), none⟩, ⟨(some 5), .bin .shr (.t 4) (.k (.int .u64 18)), none⟩, ⟨(some 2), .mv (.t 5), none⟩] none)
 .ret))⟩
/-- math/bits.Len64 -/
def m81 : MFn := ⟨1, 25, [.tmp 2], (.seq (.reg [⟨(some 2), .mv (.k (.int .i64 0)), none⟩] none)
 (.seq (.seq (.reg [⟨(some 3), .mv (.t 0), none⟩, ⟨(some 4), .bin .geq (.t 3) (.k (.int .u64 4294967296)), none⟩] none)
 (.cond (.t 4) (.seq (.reg [⟨(some 5), .mv (.t 0), none⟩, ⟨(some 6), .bin .shr (.t 5) (.k (.int .u64 32)), none⟩, ⟨(some 0), .mv (.t 6), none⟩] none)
 (.reg [⟨(some 2), .mv (.k (.int .i64 32)), none⟩] none)) .skip))
 (.seq (.seq (.reg [⟨(some 7), .mv (.t 0), none⟩, ⟨(some 8), .bin .geq (.t 7) (.k (.int .u64 65536)), none⟩] none)
 (.cond (.t 8) (.seq (.reg [⟨(some 9), .mv (.t 0), none⟩, ⟨(some 10), .bin .shr (.t 9) (.k (.int .u64 16)), none⟩, ⟨(some 0), .mv (.t 10), none⟩] none)
 (.reg [⟨(some 11), .mv (.t 2), none⟩, ⟨(some 12), .bin .add (.t 11) (.k (.int .i64 16)), none⟩, ⟨(some 2), .mv (.t 12), none⟩] none)) .skip))
 (.seq (.seq (.reg [⟨(some 13), .mv (.t 0), none⟩, ⟨(some 14), .bin .geq (.t 13) (.k (.int .u64 256)), none⟩] none)
 (.cond (.t 14) (.seq (.reg [⟨(some 15), .mv (.t 0), none⟩, ⟨(some 16), .bin .shr (.t 15) (.k (.int .u64 8)), none⟩, ⟨(some 0), .mv (.t 16), none⟩] none)
 (.reg [⟨(some 17), .mv (.t 2), none⟩, ⟨(some 18), .bin .add (.t 17) (.k (.int .i64 8)), none⟩, ⟨(some 2), .mv (.t 18), none⟩] none)) .skip))
 (.seq (.reg [⟨(some 19), .mv (.t 2), none⟩, ⟨(some 20), .mv (.t 0), none⟩, ⟨(some 21), .conv .u8 (.t 20), none⟩, ⟨(some 22), .ixstr (.k (.str ⟨#[0, 1, 2, 2, 3, 3, 3, 3, 4, 4, 4, 4, 4, 4, 4, 4, 5, 5, 5, 5, 5, 5, 5, 5, 5, 5, 5, 5, 5, 5, 5, 5, 6, 6, 6, 6, 6, 6, 6, 6, 6, 6, 6, 6, 6, 6, 6, 6, 6, 6, 6, 6, 6, 6, 6, 6, 6, 6, 6, 6, 6, 6, 6, 6, 7, 7, 7, 7, 7, 7, 7, 7, 7, 7, 7, 7, 7, 7, 7, 7, 7, 7, 7, 7, 7, 7, 7, 7, 7, 7, 7, 7, 7, 7, 7, 7, 7, 7, 7, 7, 7, 7, 7, 7, 7, 7, 7, 7, 7, 7, 7, 7, 7, 7, 7, 7, 7, 7, 7, 7, 7, 7, 7, 7, 7, 7, 7, 7, 8, 8, 8, 8, 8, 8, 8, 8, 8, 8, 8, 8, 8, 8, 8, 8, 8, 8, 8, 8, 8, 8, 8, 8, 8, 8, 8, 8, 8, 8, 8, 8, 8, 8, 8, 8, 8, 8, 8, 8, 8, 8, 8, 8, 8, 8, 8, 8, 8, 8, 8, 8, 8, 8, 8, 8, 8, 8, 8, 8, 8, 8, 8, 8, 8, 8, 8, 8, 8, 8, 8, 8, 8, 8, 8, 8, 8, 8, 8, 8, 8, 8, 8, 8, 8, 8, 8, 8, 8, 8, 8, 8, 8, 8, 8, 8, 8, 8, 8, 8, 8, 8, 8, 8, 8, 8, 8, 8, 8, 8, 8, 8, 8, 8, 8, 8, 8, 8, 8, 8, 8, 8, 8, 8, 8, 8, 8, 8]⟩)) (.t 21), none⟩, ⟨(some 23), .conv .i64 (.t 22), none⟩, ⟨(some 24), .bin .add (.t 19) (.t 23), none⟩, ⟨(some 2), .mv (.t 24), none⟩] none)
 .ret)))))⟩
/-- internal/strconv.bool2[int] -/
def m82 : MFn := ⟨1, 4, [.tmp 2], (.seq (.reg [⟨(some 2), .mv (.k (.int .i64 0)), none⟩] none)
 (.seq (.seq (.reg [⟨(some 3), .mv (.t 0), none⟩] none)
 (.cond (.t 3) (.seq (.reg [⟨(some 2), .mv (.k (.int .i64 1)), none⟩] none)
 .ret) .skip))
 (.seq (.reg [⟨(some 2), .mv (.k (.int .i64 0)), none⟩] none)
 .ret)))⟩
/-- internal/strconv.isPowerOfTwo -/
def m83 : MFn := ⟨1, 8, [.tmp 2], (.seq (.reg [⟨(some 2), .mv (.k (.bool false)), none⟩] none)
 (.seq (.reg [⟨(some 3), .mv (.t 0), none⟩, ⟨(some 4), .mv (.t 0), none⟩, ⟨(some 5), .bin .sub (.t 4) (.k (.int .i64 1)), none⟩, ⟨(some 6), .bin .and (.t 3) (.t 5), none⟩, ⟨(some 7), .bin .eql (.t 6) (.k (.int .i64 0)), none⟩, ⟨(some 2), .mv (.t 7), none⟩] none)
 .ret))⟩
/-- math/bits.TrailingZeros -/
def m84 : MFn := ⟨1, 8, [.tmp 2], (.seq (.reg [⟨(some 2), .mv (.k (.int .i64 0)), none⟩] none)
 (.seq (.cond (.k (.bool false)) (.seq (.reg [⟨(some 3), .mv (.t 0), none⟩, ⟨(some 4), .conv .u32 (.t 3), none⟩, ⟨(some 5), .call 69 (.k (.fn (.func 87) [] [])) [(.t 4)], none⟩, ⟨(some 2), .mv (.t 5), none⟩] none)
 .ret) .skip)
 (.seq (.reg [⟨(some 6), .mv (.t 0), none⟩, ⟨(some 7), .call 71 (.k (.fn (.func 44) [] [])) [(.t 6)], none⟩, ⟨(some 2), .mv (.t 7), none⟩] none)
 .ret)))⟩
/-- internal/bytealg.hashStr[string] -/
def m86 : MFn := ⟨1, 39, [.tmp 2, .tmp 3], (.seq (.reg [⟨(some 2), .mv (.k (.int .u32 0)), none⟩, ⟨(some 3), .mv (.k (.int .u32 0)), none⟩] none)
 (.seq (.reg [⟨(some 4), .mv (.k (.int .u32 0)), none⟩] none)
 (.seq (.seq (.reg [⟨(some 5), .mv (.k (.int .i64 0)), none⟩] none)
 (.block 0 (.loop (.seq (.seq (.reg [⟨(some 9), .mv (.t 5), none⟩, ⟨(some 10), .mv (.t 0), none⟩, ⟨(some 11), .lens (.t 10), none⟩, ⟨(some 12), .bin .lss (.t 9) (.t 11), none⟩] none)
 (.cond (.t 12) .skip (.exit 0)))
 (.seq (.block 1 (.reg [⟨(some 15), .mv (.t 4), none⟩, ⟨(some 16), .bin .mul (.t 15) (.k (.int .u32 16777619)), none⟩, ⟨(some 17), .mv (.t 0), none⟩, ⟨(some 18), .mv (.t 5), none⟩, ⟨(some 19), .ixstr (.t 17) (.t 18), none⟩, ⟨(some 20), .conv .u32 (.t 19), none⟩, ⟨(some 21), .bin .add (.t 16) (.t 20), none⟩, ⟨(some 4), .mv (.t 21), none⟩] none))
 (.reg [⟨(some 13), .mv (.t 5), none⟩, ⟨(some 14), .bin .add (.t 13) (.k (.int .i64 1)), none⟩, ⟨(some 5), .mv (.t 14), none⟩] none))))))
 (.seq (.reg [⟨(some 6), .mv (.k (.int .u32 1)), none⟩, ⟨(some 7), .mv (.k (.int .u32 16777619)), none⟩] none)
 (.seq (.seq (.reg [⟨(some 22), .mv (.t 0), none⟩, ⟨(some 23), .lens (.t 22), none⟩, ⟨(some 8), .mv (.t 23), none⟩] none)
 (.block 2 (.loop (.seq (.seq (.reg [⟨(some 24), .mv (.t 8), none⟩, ⟨(some 25), .bin .gtr (.t 24) (.k (.int .i64 0)), none⟩] none)
 (.cond (.t 25) .skip (.exit 2)))
 (.seq (.block 3 (.seq (.seq (.reg [⟨(some 28), .mv (.t 8), none⟩, ⟨(some 29), .bin .and (.t 28) (.k (.int .i64 1)), none⟩, ⟨(some 30), .bin .neq (.t 29) (.k (.int .i64 0)), none⟩] none)
 (.cond (.t 30) (.reg [⟨(some 31), .mv (.t 6), none⟩, ⟨(some 32), .mv (.t 7), none⟩, ⟨(some 33), .bin .mul (.t 31) (.t 32), none⟩, ⟨(some 6), .mv (.t 33), none⟩] none) .skip))
 (.reg [⟨(some 34), .mv (.t 7), none⟩, ⟨(some 35), .mv (.t 7), none⟩, ⟨(some 36), .bin .mul (.t 34) (.t 35), none⟩, ⟨(some 7), .mv (.t 36), none⟩] none)))
 (.reg [⟨(some 26), .mv (.t 8), none⟩, ⟨(some 27), .bin .shr (.t 26) (.k (.int .u64 1)), none⟩, ⟨(some 8), .mv (.t 27), none⟩] none))))))
 (.seq (.reg [⟨(some 37), .mv (.t 4), none⟩, ⟨(some 38), .mv (.t 6), none⟩, ⟨(some 2), .mv (.t 37), none⟩, ⟨(some 3), .mv (.t 38), none⟩] none)
 .ret))))))⟩
/-- math/bits.TrailingZeros32 -/
def m87 : MFn := ⟨1, 14, [.tmp 2], (.seq (.reg [⟨(some 2), .mv (.k (.int .i64 0)), none⟩] none)
 (.seq (.seq (.reg [⟨(some 3), .mv (.t 0), none⟩, ⟨(some 4), .bin .eql (.t 3) (.k (.int .u32 0)), none⟩] none)
 (.cond (.t 4) (.seq (.reg [⟨(some 2), .mv (.k (.int .i64 32)), none⟩] none)
 .ret) .skip))
 (.seq (.reg [⟨(some 5), .mv (.t 0), none⟩, ⟨(some 6), .mv (.t 0), none⟩, ⟨(some 7), .un .neg (.t 6), none⟩, ⟨(some 8), .bin .and (.t 5) (.t 7), none⟩, ⟨(some 9), .bin .mul (.t 8) (.k (.int .u32 125613361)), none⟩, ⟨(some 10), .bin .shr (.t 9) (.k (.int .u64 27)), none⟩, ⟨(some 11), .ixa 32 1 (.g 7) (.t 10), none⟩, ⟨(some 12), .ld none (.t 11), none⟩, ⟨(some 13), .conv .i64 (.t 12), none⟩, ⟨(some 2), .mv (.t 13), none⟩] none)
 .ret)))⟩
/-- gosem.cut.vars -/
def m117 : MFn := ⟨0, 11, [], (.seq (.reg [⟨(some 0), .bld [(.int .u8 0), (.int .u8 0), (.int .u8 0), (.int .u8 0), (.int .u8 0), (.int .u8 0), (.int .u8 0), (.int .u8 0), (.int .u8 0), (.int .u8 0), (.int .u8 0), (.int .u8 0), (.int .u8 0), (.int .u8 0), (.int .u8 0), (.int .u8 0), (.int .u8 0), (.int .u8 0), (.int .u8 0), (.int .u8 0), (.int .u8 0), (.int .u8 0), (.int .u8 0), (.int .u8 0), (.int .u8 0), (.int .u8 0), (.int .u8 0), (.int .u8 0), (.int .u8 0), (.int .u8 0), (.int .u8 0), (.int .u8 0)] [(0, 1, (.k (.int .u8 0))), (1, 1, (.k (.int .u8 1))), (2, 1, (.k (.int .u8 28))), (3, 1, (.k (.int .u8 2))), (4, 1, (.k (.int .u8 29))), (5, 1, (.k (.int .u8 14))), (6, 1, (.k (.int .u8 24))), (7, 1, (.k (.int .u8 3))), (8, 1, (.k (.int .u8 30))), (9, 1, (.k (.int .u8 22))), (10, 1, (.k (.int .u8 20))), (11, 1, (.k (.int .u8 15))), (12, 1, (.k (.int .u8 25))), (13, 1, (.k (.int .u8 17))), (14, 1, (.k (.int .u8 4))), (15, 1, (.k (.int .u8 8))), (16, 1, (.k (.int .u8 31))), (17, 1, (.k (.int .u8 27))), (18, 1, (.k (.int .u8 13))), (19, 1, (.k (.int .u8 23))), (20, 1, (.k (.int .u8 21))), (21, 1, (.k (.int .u8 19))), (22, 1, (.k (.int .u8 16))), (23, 1, (.k (.int .u8 7))), (24, 1, (.k (.int .u8 26))), (25, 1, (.k (.int .u8 12))), (26, 1, (.k (.int .u8 18))), (27, 1, (.k (.int .u8 6))), (28, 1, (.k (.int .u8 11))), (29, 1, (.k (.int .u8 5))), (30, 1, (.k (.int .u8 10))), (31, 1, (.k (.int .u8 9)))], none⟩, ⟨none, .st 32 (.g 7) (.t 0), none⟩] none)
 (.seq (.reg [⟨(some 1), .bld [(.int .u8 0), (.int .u8 0), (.int .u8 0), (.int .u8 0), (.int .u8 0), (.int .u8 0), (.int .u8 0), (.int .u8 0), (.int .u8 0), (.int .u8 0), (.int .u8 0), (.int .u8 0), (.int .u8 0), (.int .u8 0), (.int .u8 0), (.int .u8 0), (.int .u8 0), (.int .u8 0), (.int .u8 0), (.int .u8 0), (.int .u8 0), (.int .u8 0), (.int .u8 0), (.int .u8 0), (.int .u8 0), (.int .u8 0), (.int .u8 0), (.int .u8 0), (.int .u8 0), (.int .u8 0), (.int .u8 0), (.int .u8 0), (.int .u8 0), (.int .u8 0), (.int .u8 0), (.int .u8 0), (.int .u8 0), (.int .u8 0), (.int .u8 0), (.int .u8 0), (.int .u8 0), (.int .u8 0), (.int .u8 0), (.int .u8 0), (.int .u8 0), (.int .u8 0), (.int .u8 0), (.int .u8 0), (.int .u8 0), (.int .u8 0), (.int .u8 0), (.int .u8 0), (.int .u8 0), (.int .u8 0), (.int .u8 0), (.int .u8 0), (.int .u8 0), (.int .u8 0), (.int .u8 0), (.int .u8 0), (.int .u8 0), (.int .u8 0), (.int .u8 0), (.int .u8 0)] [(0, 1, (.k (.int .u8 0))), (1, 1, (.k (.int .u8 1))), (2, 1, (.k (.int .u8 56))), (3, 1, (.k (.int .u8 2))), (4, 1, (.k (.int .u8 57))), (5, 1, (.k (.int .u8 49))), (6, 1, (.k (.int .u8 28))), (7, 1, (.k (.int .u8 3))), (8, 1, (.k (.int .u8 61))), (9, 1, (.k (.int .u8 58))), (10, 1, (.k (.int .u8 42))), (11, 1, (.k (.int .u8 50))), (12, 1, (.k (.int .u8 38))), (13, 1, (.k (.int .u8 29))), (14, 1, (.k (.int .u8 17))), (15, 1, (.k (.int .u8 4))), (16, 1, (.k (.int .u8 62))), (17, 1, (.k (.int .u8 47))), (18, 1, (.k (.int .u8 59))), (19, 1, (.k (.int .u8 36))), (20, 1, (.k (.int .u8 45))), (21, 1, (.k (.int .u8 43))), (22, 1, (.k (.int .u8 51))), (23, 1, (.k (.int .u8 22))), (24, 1, (.k (.int .u8 53))), (25, 1, (.k (.int .u8 39))), (26, 1, (.k (.int .u8 33))), (27, 1, (.k (.int .u8 30))), (28, 1, (.k (.int .u8 24))), (29, 1, (.k (.int .u8 18))), (30, 1, (.k (.int .u8 12))), (31, 1, (.k (.int .u8 5))), (32, 1, (.k (.int .u8 63))), (33, 1, (.k (.int .u8 55))), (34, 1, (.k (.int .u8 48))), (35, 1, (.k (.int .u8 27))), (36, 1, (.k (.int .u8 60))), (37, 1, (.k (.int .u8 41))), (38, 1, (.k (.int .u8 37))), (39, 1, (.k (.int .u8 16))), (40, 1, (.k (.int .u8 46))), (41, 1, (.k (.int .u8 35))), (42, 1, (.k (.int .u8 44))), (43, 1, (.k (.int .u8 21))), (44, 1, (.k (.int .u8 52))), (45, 1, (.k (.int .u8 32))), (46, 1, (.k (.int .u8 23))), (47, 1, (.k (.int .u8 11))), (48, 1, (.k (.int .u8 54))), (49, 1, (.k (.int .u8 26))), (50, 1, (.k (.int .u8 40))), (51, 1, (.k (.int .u8 15))), (52, 1, (.k (.int .u8 34))), (53, 1, (.k (.int .u8 20))), (54, 1, (.k (.int .u8 31))), (55, 1, (.k (.int .u8 10))), (56, 1, (.k (.int .u8 25))), (57, 1, (.k (.int .u8 14))), (58, 1, (.k (.int .u8 19))), (59, 1, (.k (.int .u8 9))), (60, 1, (.k (.int .u8 13))), (61, 1, (.k (.int .u8 8))), (62, 1, (.k (.int .u8 7))), (63, 1, (.k (.int .u8 6)))], none⟩, ⟨none, .st 64 (.g 0) (.t 1), none⟩] none)
 (.seq (.reg [⟨(some 2), .bld [(.int .u64 0), (.int .u64 0), (.int .u64 0), (.int .u64 0), (.int .u64 0), (.int .u64 0), (.int .u64 0), (.int .u64 0), (.int .u64 0), (.int .u64 0), (.int .u64 0), (.int .u64 0), (.int .u64 0), (.int .u64 0), (.int .u64 0), (.int .u64 0), (.int .u64 0), (.int .u64 0), (.int .u64 0), (.int .u64 0)] [(0, 1, (.k (.int .u64 1))), (1, 1, (.k (.int .u64 10))), (2, 1, (.k (.int .u64 100))), (3, 1, (.k (.int .u64 1000))), (4, 1, (.k (.int .u64 10000))), (5, 1, (.k (.int .u64 100000))), (6, 1, (.k (.int .u64 1000000))), (7, 1, (.k (.int .u64 10000000))), (8, 1, (.k (.int .u64 100000000))), (9, 1, (.k (.int .u64 1000000000))), (10, 1, (.k (.int .u64 10000000000))), (11, 1, (.k (.int .u64 100000000000))), (12, 1, (.k (.int .u64 1000000000000))), (13, 1, (.k (.int .u64 10000000000000))), (14, 1, (.k (.int .u64 100000000000000))), (15, 1, (.k (.int .u64 1000000000000000))), (16, 1, (.k (.int .u64 10000000000000000))), (17, 1, (.k (.int .u64 100000000000000000))), (18, 1, (.k (.int .u64 1000000000000000000))), (19, 1, (.k (.int .u64 10000000000000000000)))], none⟩, ⟨none, .st 20 (.g 4) (.t 2), none⟩] none)
 (.seq (.reg [⟨(some 3), .bld [(.int .u8 0), (.int .u8 0)] [(0, 1, (.k (.int .u8 128))), (1, 1, (.k (.int .u8 191)))], none⟩, ⟨(some 4), .bld [(.int .u8 0), (.int .u8 0)] [(0, 1, (.k (.int .u8 160))), (1, 1, (.k (.int .u8 191)))], none⟩, ⟨(some 5), .bld [(.int .u8 0), (.int .u8 0)] [(0, 1, (.k (.int .u8 128))), (1, 1, (.k (.int .u8 159)))], none⟩, ⟨(some 6), .bld [(.int .u8 0), (.int .u8 0)] [(0, 1, (.k (.int .u8 144))), (1, 1, (.k (.int .u8 191)))], none⟩, ⟨(some 7), .bld [(.int .u8 0), (.int .u8 0)] [(0, 1, (.k (.int .u8 128))), (1, 1, (.k (.int .u8 143)))], none⟩, ⟨(some 8), .bld [(.int .u8 0), (.int .u8 0), (.int .u8 0), (.int .u8 0), (.int .u8 0), (.int .u8 0), (.int .u8 0), (.int .u8 0), (.int .u8 0), (.int .u8 0), (.int .u8 0), (.int .u8 0), (.int .u8 0), (.int .u8 0), (.int .u8 0), (.int .u8 0), (.int .u8 0), (.int .u8 0), (.int .u8 0), (.int .u8 0), (.int .u8 0), (.int .u8 0), (.int .u8 0), (.int .u8 0), (.int .u8 0), (.int .u8 0), (.int .u8 0), (.int .u8 0), (.int .u8 0), (.int .u8 0), (.int .u8 0), (.int .u8 0)] [(0, 2, (.t 3)), (2, 2, (.t 4)), (4, 2, (.t 5)), (6, 2, (.t 6)), (8, 2, (.t 7))], none⟩, ⟨none, .st 32 (.g 6) (.t 8), none⟩] none)
 (.seq (.reg [⟨(some 9), .call 73 (.k (.fn (.func 66) [] [])) [(.k (.str ⟨#[118, 97, 108, 117, 101, 32, 111, 117, 116, 32, 111, 102, 32, 114, 97, 110, 103, 101]⟩))], none⟩, ⟨none, .st 1 (.g 2) (.t 9), none⟩] none)
 (.reg [⟨(some 10), .call 74 (.k (.fn (.func 66) [] [])) [(.k (.str ⟨#[105, 110, 118, 97, 108, 105, 100, 32, 115, 121, 110, 116, 97, 120]⟩))], none⟩, ⟨none, .st 1 (.g 1) (.t 10), none⟩] none))))))⟩

theorem low3 : lowFn Tryd.prog Tryd.f3 = some m3 := by kernel_rfl
theorem low4 : lowFn Tryd.prog Tryd.f4 = some m4 := by kernel_rfl
theorem low5 : lowFn Tryd.prog Tryd.f5 = some m5 := by kernel_rfl
theorem low6 : lowFn Tryd.prog Tryd.f6 = some m6 := by kernel_rfl
theorem low7 : lowFn Tryd.prog Tryd.f7 = some m7 := by kernel_rfl
theorem low8 : lowFn Tryd.prog Tryd.f8 = some m8 := by kernel_rfl
theorem low9 : lowFn Tryd.prog Tryd.f9 = some m9 := by kernel_rfl
theorem low10 : lowFn Tryd.prog Tryd.f10 = some m10 := by kernel_rfl
theorem low11 : lowFn Tryd.prog Tryd.f11 = some m11 := by kernel_rfl
theorem low12 : lowFn Tryd.prog Tryd.f12 = some m12 := by kernel_rfl
theorem low13 : lowFn Tryd.prog Tryd.f13 = some m13 := by kernel_rfl
theorem low14 : lowFn Tryd.prog Tryd.f14 = some m14 := by kernel_rfl
theorem low15 : lowFn Tryd.prog Tryd.f15 = some m15 := by kernel_rfl
theorem low16 : lowFn Tryd.prog Tryd.f16 = some m16 := by kernel_rfl
theorem low17 : lowFn Tryd.prog Tryd.f17 = some m17 := by kernel_rfl
theorem low18 : lowFn Tryd.prog Tryd.f18 = some m18 := by kernel_rfl
theorem low19 : lowFn Tryd.prog Tryd.f19 = some m19 := by kernel_rfl
theorem low20 : lowFn Tryd.prog Tryd.f20 = some m20 := by kernel_rfl
theorem low21 : lowFn Tryd.prog Tryd.f21 = some m21 := by kernel_rfl
theorem low22 : lowFn Tryd.prog Tryd.f22 = some m22 := by kernel_rfl
theorem low24 : lowFn Tryd.prog Tryd.f24 = some m24 := by kernel_rfl
theorem low25 : lowFn Tryd.prog Tryd.f25 = some m25 := by kernel_rfl
theorem low26 : lowFn Tryd.prog Tryd.f26 = some m26 := by kernel_rfl
theorem low27 : lowFn Tryd.prog Tryd.f27 = some m27 := by kernel_rfl
theorem low28 : lowFn Tryd.prog Tryd.f28 = some m28 := by kernel_rfl
theorem low30 : lowFn Tryd.prog Tryd.f30 = some m30 := by kernel_rfl
theorem low31 : lowFn Tryd.prog Tryd.f31 = some m31 := by kernel_rfl
theorem low32 : lowFn Tryd.prog Tryd.f32 = some m32 := by kernel_rfl
theorem low33 : lowFn Tryd.prog Tryd.f33 = some m33 := by kernel_rfl
theorem low34 : lowFn Tryd.prog Tryd.f34 = some m34 := by kernel_rfl
theorem low35 : lowFn Tryd.prog Tryd.f35 = some m35 := by kernel_rfl
theorem low36 : lowFn Tryd.prog Tryd.f36 = some m36 := by kernel_rfl
theorem low37 : lowFn Tryd.prog Tryd.f37 = some m37 := by kernel_rfl
theorem low38 : lowFn Tryd.prog Tryd.f38 = some m38 := by kernel_rfl
theorem low39 : lowFn Tryd.prog Tryd.f39 = some m39 := by kernel_rfl
theorem low40 : lowFn Tryd.prog Tryd.f40 = some m40 := by kernel_rfl
theorem low41 : lowFn Tryd.prog Tryd.f41 = some m41 := by kernel_rfl
theorem low42 : lowFn Tryd.prog Tryd.f42 = some m42 := by kernel_rfl
theorem low43 : lowFn Tryd.prog Tryd.f43 = some m43 := by kernel_rfl
theorem low44 : lowFn Tryd.prog Tryd.f44 = some m44 := by kernel_rfl
theorem low45 : lowFn Tryd.prog Tryd.f45 = some m45 := by kernel_rfl
theorem low46 : lowFn Tryd.prog Tryd.f46 = some m46 := by kernel_rfl
theorem low47 : lowFn Tryd.prog Tryd.f47 = some m47 := by kernel_rfl
theorem low48 : lowFn Tryd.prog Tryd.f48 = some m48 := by kernel_rfl
theorem low49 : lowFn Tryd.prog Tryd.f49 = some m49 := by kernel_rfl
theorem low50 : lowFn Tryd.prog Tryd.f50 = some m50 := by kernel_rfl
theorem low51 : lowFn Tryd.prog Tryd.f51 = some m51 := by kernel_rfl
theorem low52 : lowFn Tryd.prog Tryd.f52 = some m52 := by kernel_rfl
theorem low53 : lowFn Tryd.prog Tryd.f53 = some m53 := by kernel_rfl
theorem low54 : lowFn Tryd.prog Tryd.f54 = some m54 := by kernel_rfl
theorem low55 : lowFn Tryd.prog Tryd.f55 = some m55 := by kernel_rfl
theorem low56 : lowFn Tryd.prog Tryd.f56 = some m56 := by kernel_rfl
theorem low57 : lowFn Tryd.prog Tryd.f57 = some m57 := by kernel_rfl
theorem low59 : lowFn Tryd.prog Tryd.f59 = some m59 := by kernel_rfl
theorem low60 : lowFn Tryd.prog Tryd.f60 = some m60 := by kernel_rfl
theorem low61 : lowFn Tryd.prog Tryd.f61 = some m61 := by kernel_rfl
theorem low63 : lowFn Tryd.prog Tryd.f63 = some m63 := by kernel_rfl
theorem low64 : lowFn Tryd.prog Tryd.f64 = some m64 := by kernel_rfl
theorem low65 : lowFn Tryd.prog Tryd.f65 = some m65 := by kernel_rfl
theorem low66 : lowFn Tryd.prog Tryd.f66 = some m66 := by kernel_rfl
theorem low67 : lowFn Tryd.prog Tryd.f67 = some m67 := by kernel_rfl
theorem low68 : lowFn Tryd.prog Tryd.f68 = some m68 := by kernel_rfl
theorem low69 : lowFn Tryd.prog Tryd.f69 = some m69 := by kernel_rfl
theorem low70 : lowFn Tryd.prog Tryd.f70 = some m70 := by kernel_rfl
theorem low73 : lowFn Tryd.prog Tryd.f73 = some m73 := by kernel_rfl
theorem low74 : lowFn Tryd.prog Tryd.f74 = some m74 := by kernel_rfl
theorem low76 : lowFn Tryd.prog Tryd.f76 = some m76 := by kernel_rfl
theorem low77 : lowFn Tryd.prog Tryd.f77 = some m77 := by kernel_rfl
theorem low78 : lowFn Tryd.prog Tryd.f78 = some m78 := by kernel_rfl
theorem low79 : lowFn Tryd.prog Tryd.f79 = some m79 := by kernel_rfl
theorem low80 : lowFn Tryd.prog Tryd.f80 = some m80 := by kernel_rfl
theorem low81 : lowFn Tryd.prog Tryd.f81 = some m81 := by kernel_rfl
theorem low82 : lowFn Tryd.prog Tryd.f82 = some m82 := by kernel_rfl
theorem low83 : lowFn Tryd.prog Tryd.f83 = some m83 := by kernel_rfl
theorem low84 : lowFn Tryd.prog Tryd.f84 = some m84 := by kernel_rfl
theorem low86 : lowFn Tryd.prog Tryd.f86 = some m86 := by kernel_rfl
theorem low87 : lowFn Tryd.prog Tryd.f87 = some m87 := by kernel_rfl
theorem low117 : lowFn Tryd.prog Tryd.f117 = some m117 := by kernel_rfl
end Go.Nx
