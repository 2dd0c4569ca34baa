/-
  THE FUNCTIONS OF THE SEAT, LOWERED.
-/
import Derived.Test.YtommbfigioeghaaXy
import Derived.Test.YtommbfigioeghaaRows
set_option linter.unusedVariables false
namespace Go.Nx
open Go.RowKit Go.Proofs

/-- besom/besomlaw08.ChainOnce -/
def m3 : MFn := ⟨1, 30, [.tmp 2], (.seq (.reg [⟨(some 2), .mv (.k (.bool false)), none⟩] none)
 (.seq (.reg [⟨(some 6), .call 70 (.k (.fn (.func 13) [] [])) [], none⟩, ⟨(some 3), .mv (.t 6), none⟩] none)
 (.seq (.seq (.reg [⟨(some 7), .mv (.t 3), none⟩, ⟨(some 8), .un .not (.t 7), none⟩] none)
 (.cond (.t 8) (.seq (.reg [⟨(some 2), .mv (.k (.bool false)), none⟩] none)
 .ret) .skip))
 (.seq (.reg [⟨(some 9), .call 73 (.k (.fn (.func 14) [] [])) [], none⟩, ⟨(some 4), .alloc 68 [.nils, .nils, .nils, (.int .i64 0)], none⟩, ⟨none, .st 4 (.t 4) (.t 9), none⟩] none)
 (.seq (.seq (.reg [⟨(some 5), .mv (.k (.int .i64 0)), none⟩] none)
 (.block 0 (.loop (.seq (.seq (.reg [⟨(some 10), .mv (.t 5), none⟩, ⟨(some 11), .mv (.t 0), none⟩, ⟨(some 12), .len (.t 11), none⟩, ⟨(some 13), .bin .lss (.t 10) (.t 12), none⟩, ⟨(some 14), .mv (.t 13), none⟩, ⟨(some 15), .mv (.t 5), (some (14, true))⟩, ⟨(some 16), .bin .lss (.t 15) (.k (.int .i64 400)), (some (14, true))⟩, ⟨(some 17), .pick (.t 14) (.t 16) (.k (.bool false)), none⟩] none)
 (.cond (.t 17) .skip (.exit 0)))
 (.seq (.block 1 (.seq (.reg [⟨(some 20), .mv (.t 0), none⟩, ⟨(some 21), .mv (.t 5), none⟩, ⟨(some 22), .ixs 1 (.t 20) (.t 21), none⟩, ⟨(some 23), .ld none (.t 22), none⟩, ⟨(some 24), .call 88 (.k (.fn (.func 15) [] [])) [(.t 4), (.t 23)], none⟩] none)
 (.seq (.reg [⟨(some 25), .call 89 (.k (.fn (.func 17) [] [])) [(.t 4)], none⟩, ⟨(some 26), .bslt 1 [(.k (.int .i64 1)), (.k (.int .i64 2)), (.k (.int .i64 3)), (.k (.int .i64 4)), (.k (.int .i64 5)), (.k (.int .i64 6)), (.k (.int .i64 7)), (.k (.int .i64 8))], none⟩, ⟨(some 27), .call 91 (.k (.fn (.func 16) [] [])) [(.t 25), (.t 26)], none⟩, ⟨(some 28), .un .not (.t 27), none⟩] none)
 (.cond (.t 28) (.seq (.reg [⟨(some 2), .mv (.k (.bool false)), none⟩] none)
 .ret) .skip))))
 (.reg [⟨(some 18), .mv (.t 5), none⟩, ⟨(some 19), .bin .add (.t 18) (.k (.int .i64 1)), none⟩, ⟨(some 5), .mv (.t 19), none⟩] none))))))
 (.seq (.reg [⟨(some 29), .mv (.t 3), none⟩, ⟨(some 2), .mv (.t 29), none⟩] none)
 .ret))))))⟩
/-- besom/besomlaw06.BagTells -/
def m4 : MFn := ⟨4, 109, [.tmp 8], (.seq (.reg [⟨(some 8), .mv (.k (.bool false)), none⟩] none)
 (.seq (.reg [⟨(some 18), .call 82 (.k (.fn (.func 18) [] [])) [], none⟩, ⟨(some 9), .mv (.t 18), none⟩] none)
 (.seq (.seq (.reg [⟨(some 19), .mv (.t 9), none⟩, ⟨(some 20), .un .not (.t 19), none⟩] none)
 (.cond (.t 20) (.seq (.reg [⟨(some 8), .mv (.k (.bool false)), none⟩] none)
 .ret) .skip))
 (.seq (.reg [⟨(some 22), .mv (.t 0), none⟩, ⟨(some 23), .mv (.t 1), none⟩, ⟨(some 24), .call 88 (.k (.fn (.func 19) [] [])) [(.t 22), (.t 23)], none⟩, ⟨(some 21), .mv (.t 24), none⟩, ⟨(some 25), .ext (.t 21) 0, none⟩, ⟨(some 26), .ext (.t 21) 1, none⟩, ⟨(some 10), .mv (.t 25), none⟩, ⟨(some 11), .mv (.t 26), none⟩] none)
 (.seq (.reg [⟨(some 28), .mv (.t 0), none⟩, ⟨(some 29), .mv (.t 1), none⟩, ⟨(some 30), .call 94 (.k (.fn (.func 20) [] [])) [(.t 28), (.t 29)], none⟩, ⟨(some 27), .mv (.t 30), none⟩, ⟨(some 31), .ext (.t 27) 0, none⟩, ⟨(some 32), .ext (.t 27) 1, none⟩, ⟨(some 12), .mv (.t 31), none⟩, ⟨(some 13), .mv (.t 32), none⟩] none)
 (.seq (.reg [⟨(some 34), .mv (.t 0), none⟩, ⟨(some 35), .call 99 (.k (.fn (.func 21) [] [])) [(.t 34)], none⟩, ⟨(some 33), .mv (.t 35), none⟩, ⟨(some 36), .ext (.t 33) 0, none⟩, ⟨(some 37), .ext (.t 33) 1, none⟩, ⟨(some 14), .mv (.t 36), none⟩, ⟨(some 15), .mv (.t 37), none⟩] none)
 (.seq (.reg [⟨(some 39), .mv (.t 0), none⟩, ⟨(some 40), .call 104 (.k (.fn (.func 22) [] [])) [(.t 39)], none⟩, ⟨(some 38), .mv (.t 40), none⟩, ⟨(some 41), .ext (.t 38) 0, none⟩, ⟨(some 42), .ext (.t 38) 1, none⟩, ⟨(some 16), .mv (.t 41), none⟩, ⟨(some 17), .mv (.t 42), none⟩] none)
 (.seq (.seq (.reg [⟨(some 43), .mv (.t 10), none⟩, ⟨(some 44), .mv (.t 12), none⟩, ⟨(some 45), .call 109 (.k (.fn (.func 23) [] [])) [(.t 43), (.t 44)], none⟩, ⟨(some 46), .un .not (.t 45), none⟩, ⟨(some 47), .mv (.t 46), none⟩, ⟨(some 48), .mv (.t 11), (some (47, false))⟩, ⟨(some 49), .mv (.t 13), (some (47, false))⟩, ⟨(some 50), .binb .neq (.t 48) (.t 49), (some (47, false))⟩, ⟨(some 51), .pick (.t 47) (.k (.bool true)) (.t 50), none⟩, ⟨(some 52), .mv (.t 51), none⟩, ⟨(some 53), .mv (.t 14), (some (52, false))⟩, ⟨(some 54), .mv (.t 16), (some (52, false))⟩, ⟨(some 55), .bin .neq (.t 53) (.t 54), (some (52, false))⟩, ⟨(some 56), .pick (.t 52) (.k (.bool true)) (.t 55), none⟩, ⟨(some 57), .mv (.t 56), none⟩, ⟨(some 58), .mv (.t 15), (some (57, false))⟩, ⟨(some 59), .mv (.t 17), (some (57, false))⟩, ⟨(some 60), .binb .neq (.t 58) (.t 59), (some (57, false))⟩, ⟨(some 61), .pick (.t 57) (.k (.bool true)) (.t 60), none⟩, ⟨(some 62), .mv (.t 61), none⟩, ⟨(some 63), .mv (.t 0), (some (62, false))⟩, ⟨(some 64), .mv (.t 2), (some (62, false))⟩, ⟨(some 65), .mv (.t 3), (some (62, false))⟩, ⟨(some 66), .call 130 (.k (.fn (.func 24) [] [])) [(.t 63), (.t 64), (.t 65)], (some (62, false))⟩, ⟨(some 67), .mv (.t 0), (some (62, false))⟩, ⟨(some 68), .mv (.t 2), (some (62, false))⟩, ⟨(some 69), .mv (.t 3), (some (62, false))⟩, ⟨(some 70), .call 134 (.k (.fn (.func 25) [] [])) [(.t 67), (.t 68), (.t 69)], (some (62, false))⟩, ⟨(some 71), .call 135 (.k (.fn (.func 23) [] [])) [(.t 66), (.t 70)], (some (62, false))⟩, ⟨(some 72), .un .not (.t 71), (some (62, false))⟩, ⟨(some 73), .pick (.t 62) (.k (.bool true)) (.t 72), none⟩] none)
 (.cond (.t 73) (.seq (.reg [⟨(some 8), .mv (.k (.bool false)), none⟩] none)
 .ret) .skip))
 (.seq (.reg [⟨(some 74), .mv (.t 9), none⟩, ⟨(some 75), .mv (.t 74), none⟩, ⟨(some 76), .mv (.t 0), (some (75, true))⟩, ⟨(some 77), .call 141 (.k (.fn (.func 26) [] [])) [(.t 76)], (some (75, true))⟩, ⟨(some 78), .mv (.t 0), (some (75, true))⟩, ⟨(some 79), .call 143 (.k (.fn (.func 27) [] [])) [(.t 78)], (some (75, true))⟩, ⟨(some 80), .call 144 (.k (.fn (.func 23) [] [])) [(.t 77), (.t 79)], (some (75, true))⟩, ⟨(some 81), .pick (.t 75) (.t 80) (.k (.bool false)), none⟩, ⟨(some 82), .mv (.t 81), none⟩, ⟨(some 83), .mv (.t 0), (some (82, true))⟩, ⟨(some 84), .mv (.t 2), (some (82, true))⟩, ⟨(some 85), .call 149 (.k (.fn (.func 28) [] [])) [(.t 83), (.t 84)], (some (82, true))⟩, ⟨(some 86), .mv (.t 0), (some (82, true))⟩, ⟨(some 87), .mv (.t 2), (some (82, true))⟩, ⟨(some 88), .call 152 (.k (.fn (.func 29) [] [])) [(.t 86), (.t 87)], (some (82, true))⟩, ⟨(some 89), .bin .eql (.t 85) (.t 88), (some (82, true))⟩, ⟨(some 90), .pick (.t 82) (.t 89) (.k (.bool false)), none⟩, ⟨(some 91), .mv (.t 90), none⟩, ⟨(some 92), .mv (.t 0), (some (91, true))⟩, ⟨(some 93), .mv (.t 1), (some (91, true))⟩, ⟨(some 94), .call 158 (.k (.fn (.func 30) [] [])) [(.t 92), (.t 93)], (some (91, true))⟩, ⟨(some 95), .mv (.t 0), (some (91, true))⟩, ⟨(some 96), .mv (.t 1), (some (91, true))⟩, ⟨(some 97), .call 161 (.k (.fn (.func 31) [] [])) [(.t 95), (.t 96)], (some (91, true))⟩, ⟨(some 98), .call 162 (.k (.fn (.func 23) [] [])) [(.t 94), (.t 97)], (some (91, true))⟩, ⟨(some 99), .pick (.t 91) (.t 98) (.k (.bool false)), none⟩, ⟨(some 100), .mv (.t 99), none⟩, ⟨(some 101), .mv (.t 0), (some (100, true))⟩, ⟨(some 102), .mv (.t 1), (some (100, true))⟩, ⟨(some 103), .call 167 (.k (.fn (.func 16) [] [])) [(.t 101), (.t 102)], (some (100, true))⟩, ⟨(some 104), .mv (.t 0), (some (100, true))⟩, ⟨(some 105), .mv (.t 1), (some (100, true))⟩, ⟨(some 106), .call 170 (.k (.fn (.func 32) [] [])) [(.t 104), (.t 105)], (some (100, true))⟩, ⟨(some 107), .binb .eql (.t 103) (.t 106), (some (100, true))⟩, ⟨(some 108), .pick (.t 100) (.t 107) (.k (.bool false)), none⟩, ⟨(some 8), .mv (.t 108), none⟩] none)
 .ret)))))))))⟩
/-- besom/besomlaw06.BagSums -/
def m5 : MFn := ⟨3, 78, [.tmp 6], (.seq (.reg [⟨(some 6), .mv (.k (.bool false)), none⟩] none)
 (.seq (.reg [⟨(some 13), .call 77 (.k (.fn (.func 18) [] [])) [], none⟩, ⟨(some 7), .mv (.t 13), none⟩] none)
 (.seq (.seq (.reg [⟨(some 14), .mv (.t 7), none⟩, ⟨(some 15), .un .not (.t 14), none⟩] none)
 (.cond (.t 15) (.seq (.reg [⟨(some 6), .mv (.k (.bool false)), none⟩] none)
 .ret) .skip))
 (.seq (.reg [⟨(some 16), .mv (.t 0), none⟩, ⟨(some 17), .mv (.t 1), none⟩, ⟨(some 18), .call 82 (.k (.fn (.func 30) [] [])) [(.t 16), (.t 17)], none⟩, ⟨(some 8), .mv (.t 18), none⟩] none)
 (.seq (.reg [⟨(some 20), .mv (.t 8), none⟩, ⟨(some 21), .mv (.t 0), none⟩, ⟨(some 22), .call 86 (.k (.fn (.func 19) [] [])) [(.t 20), (.t 21)], none⟩, ⟨(some 19), .mv (.t 22), none⟩, ⟨(some 23), .ext (.t 19) 0, none⟩, ⟨(some 24), .ext (.t 19) 1, none⟩, ⟨(some 9), .mv (.t 23), none⟩, ⟨(some 10), .mv (.t 24), none⟩] none)
 (.seq (.reg [⟨(some 26), .mv (.t 8), none⟩, ⟨(some 27), .mv (.t 1), none⟩, ⟨(some 28), .call 92 (.k (.fn (.func 19) [] [])) [(.t 26), (.t 27)], none⟩, ⟨(some 25), .mv (.t 28), none⟩, ⟨(some 29), .ext (.t 25) 0, none⟩, ⟨(some 30), .ext (.t 25) 1, none⟩, ⟨(some 11), .mv (.t 29), none⟩, ⟨(some 12), .mv (.t 30), none⟩] none)
 (.seq (.reg [⟨(some 31), .mv (.t 7), none⟩, ⟨(some 32), .mv (.t 31), none⟩, ⟨(some 33), .mv (.t 10), (some (32, true))⟩, ⟨(some 34), .pick (.t 32) (.t 33) (.k (.bool false)), none⟩, ⟨(some 35), .mv (.t 34), none⟩, ⟨(some 36), .mv (.t 12), (some (35, true))⟩, ⟨(some 37), .pick (.t 35) (.t 36) (.k (.bool false)), none⟩, ⟨(some 38), .mv (.t 37), none⟩, ⟨(some 39), .mv (.t 9), (some (38, true))⟩, ⟨(some 40), .mv (.t 1), (some (38, true))⟩, ⟨(some 41), .call 105 (.k (.fn (.func 16) [] [])) [(.t 39), (.t 40)], (some (38, true))⟩, ⟨(some 42), .pick (.t 38) (.t 41) (.k (.bool false)), none⟩, ⟨(some 43), .mv (.t 42), none⟩, ⟨(some 44), .mv (.t 11), (some (43, true))⟩, ⟨(some 45), .mv (.t 0), (some (43, true))⟩, ⟨(some 46), .call 110 (.k (.fn (.func 16) [] [])) [(.t 44), (.t 45)], (some (43, true))⟩, ⟨(some 47), .pick (.t 43) (.t 46) (.k (.bool false)), none⟩, ⟨(some 48), .mv (.t 47), none⟩, ⟨(some 49), .mv (.t 8), (some (48, true))⟩, ⟨(some 50), .mv (.t 1), (some (48, true))⟩, ⟨(some 51), .mv (.t 0), (some (48, true))⟩, ⟨(some 52), .call 116 (.k (.fn (.func 30) [] [])) [(.t 50), (.t 51)], (some (48, true))⟩, ⟨(some 53), .call 117 (.k (.fn (.func 16) [] [])) [(.t 49), (.t 52)], (some (48, true))⟩, ⟨(some 54), .pick (.t 48) (.t 53) (.k (.bool false)), none⟩, ⟨(some 55), .mv (.t 54), none⟩, ⟨(some 56), .mv (.t 8), (some (55, true))⟩, ⟨(some 57), .mv (.t 2), (some (55, true))⟩, ⟨(some 58), .call 122 (.k (.fn (.func 28) [] [])) [(.t 56), (.t 57)], (some (55, true))⟩, ⟨(some 59), .mv (.t 0), (some (55, true))⟩, ⟨(some 60), .mv (.t 2), (some (55, true))⟩, ⟨(some 61), .call 125 (.k (.fn (.func 28) [] [])) [(.t 59), (.t 60)], (some (55, true))⟩, ⟨(some 62), .mv (.t 1), (some (55, true))⟩, ⟨(some 63), .mv (.t 2), (some (55, true))⟩, ⟨(some 64), .call 128 (.k (.fn (.func 28) [] [])) [(.t 62), (.t 63)], (some (55, true))⟩, ⟨(some 65), .bin .add (.t 61) (.t 64), (some (55, true))⟩, ⟨(some 66), .bin .eql (.t 58) (.t 65), (some (55, true))⟩, ⟨(some 67), .pick (.t 55) (.t 66) (.k (.bool false)), none⟩, ⟨(some 68), .mv (.t 67), none⟩, ⟨(some 69), .mv (.t 8), (some (68, true))⟩, ⟨(some 70), .len (.t 69), (some (68, true))⟩, ⟨(some 71), .mv (.t 0), (some (68, true))⟩, ⟨(some 72), .len (.t 71), (some (68, true))⟩, ⟨(some 73), .mv (.t 1), (some (68, true))⟩, ⟨(some 74), .len (.t 73), (some (68, true))⟩, ⟨(some 75), .bin .add (.t 72) (.t 74), (some (68, true))⟩, ⟨(some 76), .bin .eql (.t 70) (.t 75), (some (68, true))⟩, ⟨(some 77), .pick (.t 68) (.t 76) (.k (.bool false)), none⟩, ⟨(some 6), .mv (.t 77), none⟩] none)
 .ret)))))))⟩
/-- besom/besomlaw06.BagLess -/
def m6 : MFn := ⟨2, 64, [.tmp 4], (.seq (.reg [⟨(some 4), .mv (.k (.bool false)), none⟩] none)
 (.seq (.reg [⟨(some 10), .call 74 (.k (.fn (.func 18) [] [])) [], none⟩, ⟨(some 5), .mv (.t 10), none⟩] none)
 (.seq (.seq (.reg [⟨(some 11), .mv (.t 5), none⟩, ⟨(some 12), .un .not (.t 11), none⟩] none)
 (.cond (.t 12) (.seq (.reg [⟨(some 4), .mv (.k (.bool false)), none⟩] none)
 .ret) .skip))
 (.seq (.reg [⟨(some 14), .mv (.t 0), none⟩, ⟨(some 15), .mv (.t 1), none⟩, ⟨(some 16), .call 80 (.k (.fn (.func 19) [] [])) [(.t 14), (.t 15)], none⟩, ⟨(some 13), .mv (.t 16), none⟩, ⟨(some 17), .ext (.t 13) 0, none⟩, ⟨(some 18), .ext (.t 13) 1, none⟩, ⟨(some 6), .mv (.t 17), none⟩, ⟨(some 7), .mv (.t 18), none⟩] none)
 (.seq (.reg [⟨(some 8), .mv (.k (.bool true)), none⟩] none)
 (.seq (.seq (.reg [⟨(some 9), .mv (.k (.int .i64 0)), none⟩] none)
 (.block 0 (.loop (.seq (.seq (.reg [⟨(some 19), .mv (.t 9), none⟩, ⟨(some 20), .mv (.t 1), none⟩, ⟨(some 21), .len (.t 20), none⟩, ⟨(some 22), .bin .lss (.t 19) (.t 21), none⟩] none)
 (.cond (.t 22) .skip (.exit 0)))
 (.seq (.block 1 (.reg [⟨(some 25), .mv (.t 8), none⟩, ⟨(some 26), .mv (.t 25), none⟩, ⟨(some 27), .mv (.t 0), (some (26, true))⟩, ⟨(some 28), .mv (.t 1), (some (26, true))⟩, ⟨(some 29), .mv (.t 9), (some (26, true))⟩, ⟨(some 30), .ixs 1 (.t 28) (.t 29), (some (26, true))⟩, ⟨(some 31), .ld none (.t 30), (some (26, true))⟩, ⟨(some 32), .call 96 (.k (.fn (.func 28) [] [])) [(.t 27), (.t 31)], (some (26, true))⟩, ⟨(some 33), .mv (.t 1), (some (26, true))⟩, ⟨(some 34), .mv (.t 1), (some (26, true))⟩, ⟨(some 35), .mv (.t 9), (some (26, true))⟩, ⟨(some 36), .ixs 1 (.t 34) (.t 35), (some (26, true))⟩, ⟨(some 37), .ld none (.t 36), (some (26, true))⟩, ⟨(some 38), .call 102 (.k (.fn (.func 28) [] [])) [(.t 33), (.t 37)], (some (26, true))⟩, ⟨(some 39), .bin .geq (.t 32) (.t 38), (some (26, true))⟩, ⟨(some 40), .pick (.t 26) (.t 39) (.k (.bool false)), none⟩, ⟨(some 8), .mv (.t 40), none⟩] (some [(5, 11), (6, 11), (7, 11), (5, 12), (6, 12), (7, 12)])))
 (.reg [⟨(some 23), .mv (.t 9), none⟩, ⟨(some 24), .bin .add (.t 23) (.k (.int .i64 1)), none⟩, ⟨(some 9), .mv (.t 24), none⟩] none))))))
 (.seq (.seq (.reg [⟨(some 41), .mv (.t 7), none⟩, ⟨(some 42), .mv (.t 8), none⟩, ⟨(some 43), .binb .neq (.t 41) (.t 42), none⟩] none)
 (.cond (.t 43) (.seq (.reg [⟨(some 4), .mv (.k (.bool false)), none⟩] none)
 .ret) .skip))
 (.seq (.reg [⟨(some 44), .mv (.t 5), none⟩, ⟨(some 45), .mv (.t 44), none⟩, ⟨(some 46), .mv (.t 7), (some (45, true))⟩, ⟨(some 47), .mv (.t 46), (some (45, true))⟩, ⟨(some 48), .mv (.t 6), (some (47, true))⟩, ⟨(some 49), .mv (.t 1), (some (47, true))⟩, ⟨(some 50), .call 114 (.k (.fn (.func 30) [] [])) [(.t 48), (.t 49)], (some (47, true))⟩, ⟨(some 51), .mv (.t 0), (some (47, true))⟩, ⟨(some 52), .call 116 (.k (.fn (.func 16) [] [])) [(.t 50), (.t 51)], (some (47, true))⟩, ⟨(some 53), .pick (.t 47) (.t 52) (.k (.bool false)), (some (45, true))⟩, ⟨(some 54), .mv (.t 53), (some (45, true))⟩, ⟨(some 55), .mv (.t 7), (some (54, false))⟩, ⟨(some 56), .un .not (.t 55), (some (54, false))⟩, ⟨(some 57), .mv (.t 56), (some (54, false))⟩, ⟨(some 58), .mv (.t 6), (some (57, true))⟩, ⟨(some 59), .len (.t 58), (some (57, true))⟩, ⟨(some 60), .bin .eql (.t 59) (.k (.int .i64 0)), (some (57, true))⟩, ⟨(some 61), .pick (.t 57) (.t 60) (.k (.bool false)), (some (54, false))⟩, ⟨(some 62), .pick (.t 54) (.k (.bool true)) (.t 61), (some (45, true))⟩, ⟨(some 63), .pick (.t 45) (.t 62) (.k (.bool false)), none⟩, ⟨(some 4), .mv (.t 63), none⟩] none)
 .ret))))))))⟩
/-- besom/besomlaw06.BagNorm -/
def m7 : MFn := ⟨2, 95, [.tmp 4], (.seq (.reg [⟨(some 4), .mv (.k (.bool false)), none⟩] none)
 (.seq (.reg [⟨(some 14), .call 78 (.k (.fn (.func 18) [] [])) [], none⟩, ⟨(some 5), .mv (.t 14), none⟩] none)
 (.seq (.seq (.reg [⟨(some 15), .mv (.t 5), none⟩, ⟨(some 16), .un .not (.t 15), none⟩] none)
 (.cond (.t 16) (.seq (.reg [⟨(some 4), .mv (.k (.bool false)), none⟩] none)
 .ret) .skip))
 (.seq (.reg [⟨(some 17), .mv (.t 0), none⟩, ⟨(some 18), .call 82 (.k (.fn (.func 26) [] [])) [(.t 17)], none⟩, ⟨(some 6), .mv (.t 18), none⟩] none)
 (.seq (.reg [⟨(some 7), .mv (.k .nils), none⟩] none)
 (.seq (.seq (.reg [⟨(some 8), .mv (.k (.int .i64 0)), none⟩] none)
 (.block 0 (.loop (.seq (.seq (.reg [⟨(some 19), .mv (.t 8), none⟩, ⟨(some 20), .mv (.t 0), none⟩, ⟨(some 21), .len (.t 20), none⟩, ⟨(some 22), .bin .lss (.t 19) (.t 21), none⟩] none)
 (.cond (.t 22) .skip (.exit 0)))
 (.seq (.block 1 (.reg [⟨(some 25), .mv (.t 0), none⟩, ⟨(some 26), .mv (.t 8), none⟩, ⟨(some 27), .ixs 1 (.t 25) (.t 26), none⟩, ⟨(some 28), .ld none (.t 27), none⟩, ⟨(some 29), .bslt 1 [(.t 28)], none⟩, ⟨(some 30), .mv (.t 7), none⟩, ⟨(some 31), .app 95 1 8 (.t 29) (.t 30), none⟩, ⟨(some 7), .mv (.t 31), none⟩] none))
 (.reg [⟨(some 23), .mv (.t 8), none⟩, ⟨(some 24), .bin .add (.t 23) (.k (.int .i64 1)), none⟩, ⟨(some 8), .mv (.t 24), none⟩] none))))))
 (.seq (.seq (.reg [⟨(some 9), .mv (.k (.int .i64 1)), none⟩] none)
 (.block 2 (.loop (.seq (.seq (.reg [⟨(some 32), .mv (.t 9), none⟩, ⟨(some 33), .mv (.t 6), none⟩, ⟨(some 34), .len (.t 33), none⟩, ⟨(some 35), .bin .lss (.t 32) (.t 34), none⟩] none)
 (.cond (.t 35) .skip (.exit 2)))
 (.seq (.block 3 (.seq (.reg [⟨(some 38), .mv (.t 6), none⟩, ⟨(some 39), .mv (.t 9), none⟩, ⟨(some 40), .bin .sub (.t 39) (.k (.int .i64 1)), none⟩, ⟨(some 41), .ixs 1 (.t 38) (.t 40), none⟩, ⟨(some 42), .ld none (.t 41), none⟩, ⟨(some 43), .mv (.t 6), none⟩, ⟨(some 44), .mv (.t 9), none⟩, ⟨(some 45), .ixs 1 (.t 43) (.t 44), none⟩, ⟨(some 46), .ld none (.t 45), none⟩, ⟨(some 47), .bin .gtr (.t 42) (.t 46), none⟩] (some [(3, 7), (4, 7), (3, 8), (4, 8)]))
 (.cond (.t 47) (.seq (.reg [⟨(some 4), .mv (.k (.bool false)), none⟩] none)
 .ret) .skip)))
 (.reg [⟨(some 36), .mv (.t 9), none⟩, ⟨(some 37), .bin .add (.t 36) (.k (.int .i64 1)), none⟩, ⟨(some 9), .mv (.t 37), none⟩] none))))))
 (.seq (.reg [⟨(some 49), .mv (.t 0), none⟩, ⟨(some 50), .call 114 (.k (.fn (.func 21) [] [])) [(.t 49)], none⟩, ⟨(some 48), .mv (.t 50), none⟩, ⟨(some 51), .ext (.t 48) 0, none⟩, ⟨(some 52), .ext (.t 48) 1, none⟩, ⟨(some 10), .mv (.t 51), none⟩, ⟨(some 11), .mv (.t 52), none⟩] none)
 (.seq (.reg [⟨(some 54), .mv (.t 7), none⟩, ⟨(some 55), .call 119 (.k (.fn (.func 21) [] [])) [(.t 54)], none⟩, ⟨(some 53), .mv (.t 55), none⟩, ⟨(some 56), .ext (.t 53) 0, none⟩, ⟨(some 57), .ext (.t 53) 1, none⟩, ⟨(some 12), .mv (.t 56), none⟩, ⟨(some 13), .mv (.t 57), none⟩] none)
 (.seq (.reg [⟨(some 58), .mv (.t 5), none⟩, ⟨(some 59), .mv (.t 58), none⟩, ⟨(some 60), .mv (.t 6), (some (59, true))⟩, ⟨(some 61), .mv (.t 0), (some (59, true))⟩, ⟨(some 62), .call 126 (.k (.fn (.func 16) [] [])) [(.t 60), (.t 61)], (some (59, true))⟩, ⟨(some 63), .pick (.t 59) (.t 62) (.k (.bool false)), none⟩, ⟨(some 64), .mv (.t 63), none⟩, ⟨(some 65), .mv (.t 7), (some (64, true))⟩, ⟨(some 66), .mv (.t 0), (some (64, true))⟩, ⟨(some 67), .call 131 (.k (.fn (.func 16) [] [])) [(.t 65), (.t 66)], (some (64, true))⟩, ⟨(some 68), .pick (.t 64) (.t 67) (.k (.bool false)), none⟩, ⟨(some 69), .mv (.t 68), none⟩, ⟨(some 70), .mv (.t 6), (some (69, true))⟩, ⟨(some 71), .len (.t 70), (some (69, true))⟩, ⟨(some 72), .mv (.t 0), (some (69, true))⟩, ⟨(some 73), .len (.t 72), (some (69, true))⟩, ⟨(some 74), .bin .eql (.t 71) (.t 73), (some (69, true))⟩, ⟨(some 75), .pick (.t 69) (.t 74) (.k (.bool false)), none⟩, ⟨(some 76), .mv (.t 75), none⟩, ⟨(some 77), .mv (.t 6), (some (76, true))⟩, ⟨(some 78), .mv (.t 1), (some (76, true))⟩, ⟨(some 79), .call 143 (.k (.fn (.func 28) [] [])) [(.t 77), (.t 78)], (some (76, true))⟩, ⟨(some 80), .mv (.t 0), (some (76, true))⟩, ⟨(some 81), .mv (.t 1), (some (76, true))⟩, ⟨(some 82), .call 146 (.k (.fn (.func 28) [] [])) [(.t 80), (.t 81)], (some (76, true))⟩, ⟨(some 83), .bin .eql (.t 79) (.t 82), (some (76, true))⟩, ⟨(some 84), .pick (.t 76) (.t 83) (.k (.bool false)), none⟩, ⟨(some 85), .mv (.t 84), none⟩, ⟨(some 86), .mv (.t 10), (some (85, true))⟩, ⟨(some 87), .mv (.t 12), (some (85, true))⟩, ⟨(some 88), .bin .eql (.t 86) (.t 87), (some (85, true))⟩, ⟨(some 89), .pick (.t 85) (.t 88) (.k (.bool false)), none⟩, ⟨(some 90), .mv (.t 89), none⟩, ⟨(some 91), .mv (.t 11), (some (90, true))⟩, ⟨(some 92), .mv (.t 13), (some (90, true))⟩, ⟨(some 93), .binb .eql (.t 91) (.t 92), (some (90, true))⟩, ⟨(some 94), .pick (.t 90) (.t 93) (.k (.bool false)), none⟩, ⟨(some 4), .mv (.t 94), none⟩] none)
 .ret))))))))))⟩
/-- besom/besomlaw06.BagAdds -/
def m8 : MFn := ⟨3, 78, [.tmp 6], (.seq (.reg [⟨(some 6), .mv (.k (.bool false)), none⟩] none)
 (.seq (.reg [⟨(some 12), .call 76 (.k (.fn (.func 18) [] [])) [], none⟩, ⟨(some 7), .mv (.t 12), none⟩] none)
 (.seq (.seq (.reg [⟨(some 13), .mv (.t 7), none⟩, ⟨(some 14), .un .not (.t 13), none⟩] none)
 (.cond (.t 14) (.seq (.reg [⟨(some 6), .mv (.k (.bool false)), none⟩] none)
 .ret) .skip))
 (.seq (.reg [⟨(some 15), .mv (.t 2), none⟩, ⟨(some 16), .bin .rem (.t 15) (.k (.int .u8 20)), none⟩, ⟨(some 17), .conv .i64 (.t 16), none⟩, ⟨(some 8), .mv (.t 17), none⟩] none)
 (.seq (.reg [⟨(some 18), .mv (.t 0), none⟩, ⟨(some 19), .mv (.t 1), none⟩, ⟨(some 20), .mv (.t 8), none⟩, ⟨(some 21), .call 85 (.k (.fn (.func 24) [] [])) [(.t 18), (.t 19), (.t 20)], none⟩, ⟨(some 9), .mv (.t 21), none⟩] none)
 (.seq (.reg [⟨(some 22), .mv (.t 0), none⟩, ⟨(some 23), .mv (.t 1), none⟩, ⟨(some 24), .call 88 (.k (.fn (.func 28) [] [])) [(.t 22), (.t 23)], none⟩, ⟨(some 10), .mv (.t 24), none⟩] none)
 (.seq (.reg [⟨(some 25), .mv (.t 0), none⟩, ⟨(some 26), .mv (.t 1), none⟩, ⟨(some 27), .mv (.t 8), none⟩, ⟨(some 28), .un .neg (.t 27), none⟩, ⟨(some 29), .call 93 (.k (.fn (.func 24) [] [])) [(.t 25), (.t 26), (.t 28)], none⟩, ⟨(some 11), .mv (.t 29), none⟩] none)
 (.seq (.reg [⟨(some 30), .mv (.t 7), none⟩, ⟨(some 31), .mv (.t 30), none⟩, ⟨(some 32), .mv (.t 9), (some (31, true))⟩, ⟨(some 33), .mv (.t 1), (some (31, true))⟩, ⟨(some 34), .call 98 (.k (.fn (.func 28) [] [])) [(.t 32), (.t 33)], (some (31, true))⟩, ⟨(some 35), .mv (.t 10), (some (31, true))⟩, ⟨(some 36), .mv (.t 8), (some (31, true))⟩, ⟨(some 37), .bin .add (.t 35) (.t 36), (some (31, true))⟩, ⟨(some 38), .bin .eql (.t 34) (.t 37), (some (31, true))⟩, ⟨(some 39), .pick (.t 31) (.t 38) (.k (.bool false)), none⟩, ⟨(some 40), .mv (.t 39), none⟩, ⟨(some 41), .mv (.t 9), (some (40, true))⟩, ⟨(some 42), .mv (.t 1), (some (40, true))⟩, ⟨(some 43), .mv (.t 8), (some (40, true))⟩, ⟨(some 44), .un .neg (.t 43), (some (40, true))⟩, ⟨(some 45), .call 109 (.k (.fn (.func 24) [] [])) [(.t 41), (.t 42), (.t 44)], (some (40, true))⟩, ⟨(some 46), .mv (.t 0), (some (40, true))⟩, ⟨(some 47), .call 111 (.k (.fn (.func 16) [] [])) [(.t 45), (.t 46)], (some (40, true))⟩, ⟨(some 48), .pick (.t 40) (.t 47) (.k (.bool false)), none⟩, ⟨(some 49), .mv (.t 48), none⟩, ⟨(some 50), .mv (.t 11), (some (49, true))⟩, ⟨(some 51), .mv (.t 1), (some (49, true))⟩, ⟨(some 52), .call 116 (.k (.fn (.func 28) [] [])) [(.t 50), (.t 51)], (some (49, true))⟩, ⟨(some 53), .mv (.t 10), (some (49, true))⟩, ⟨(some 54), .mv (.t 8), (some (49, true))⟩, ⟨(some 55), .bin .sub (.t 53) (.t 54), (some (49, true))⟩, ⟨(some 56), .mx (.t 55) (.k (.int .i64 0)), (some (49, true))⟩, ⟨(some 57), .bin .eql (.t 52) (.t 56), (some (49, true))⟩, ⟨(some 58), .pick (.t 49) (.t 57) (.k (.bool false)), none⟩, ⟨(some 59), .mv (.t 58), none⟩, ⟨(some 60), .mv (.t 11), (some (59, true))⟩, ⟨(some 61), .len (.t 60), (some (59, true))⟩, ⟨(some 62), .mv (.t 0), (some (59, true))⟩, ⟨(some 63), .len (.t 62), (some (59, true))⟩, ⟨(some 64), .mv (.t 10), (some (59, true))⟩, ⟨(some 65), .mv (.t 8), (some (59, true))⟩, ⟨(some 66), .mn (.t 64) (.t 65), (some (59, true))⟩, ⟨(some 67), .bin .sub (.t 63) (.t 66), (some (59, true))⟩, ⟨(some 68), .bin .eql (.t 61) (.t 67), (some (59, true))⟩, ⟨(some 69), .pick (.t 59) (.t 68) (.k (.bool false)), none⟩, ⟨(some 70), .mv (.t 69), none⟩, ⟨(some 71), .mv (.t 0), (some (70, true))⟩, ⟨(some 72), .mv (.t 1), (some (70, true))⟩, ⟨(some 73), .call 137 (.k (.fn (.func 24) [] [])) [(.t 71), (.t 72), (.k (.int .i64 (-4611686018427387904)))], (some (70, true))⟩, ⟨(some 74), .mv (.t 1), (some (70, true))⟩, ⟨(some 75), .call 139 (.k (.fn (.func 28) [] [])) [(.t 73), (.t 74)], (some (70, true))⟩, ⟨(some 76), .bin .eql (.t 75) (.k (.int .i64 0)), (some (70, true))⟩, ⟨(some 77), .pick (.t 70) (.t 76) (.k (.bool false)), none⟩, ⟨(some 6), .mv (.t 77), none⟩] none)
 .ret))))))))⟩
/-- besom/besomlaw06.BagSame -/
def m9 : MFn := ⟨4, 71, [.tmp 8], (.seq (.reg [⟨(some 8), .mv (.k (.bool false)), none⟩] none)
 (.seq (.reg [⟨(some 11), .call 75 (.k (.fn (.func 18) [] [])) [], none⟩, ⟨(some 9), .mv (.t 11), none⟩] none)
 (.seq (.seq (.reg [⟨(some 12), .mv (.t 9), none⟩, ⟨(some 13), .un .not (.t 12), none⟩] none)
 (.cond (.t 13) (.seq (.reg [⟨(some 8), .mv (.k (.bool false)), none⟩] none)
 .ret) .skip))
 (.seq (.reg [⟨(some 14), .mv (.t 0), none⟩, ⟨(some 15), .mv (.t 1), none⟩, ⟨(some 16), .call 80 (.k (.fn (.func 16) [] [])) [(.t 14), (.t 15)], none⟩, ⟨(some 10), .mv (.t 16), none⟩] none)
 (.seq (.seq (.reg [⟨(some 17), .mv (.t 0), none⟩, ⟨(some 18), .mv (.t 0), none⟩, ⟨(some 19), .call 83 (.k (.fn (.func 16) [] [])) [(.t 17), (.t 18)], none⟩, ⟨(some 20), .un .not (.t 19), none⟩, ⟨(some 21), .mv (.t 20), none⟩, ⟨(some 22), .mv (.t 10), (some (21, false))⟩, ⟨(some 23), .mv (.t 1), (some (21, false))⟩, ⟨(some 24), .mv (.t 0), (some (21, false))⟩, ⟨(some 25), .call 89 (.k (.fn (.func 16) [] [])) [(.t 23), (.t 24)], (some (21, false))⟩, ⟨(some 26), .binb .neq (.t 22) (.t 25), (some (21, false))⟩, ⟨(some 27), .pick (.t 21) (.k (.bool true)) (.t 26), none⟩, ⟨(some 28), .mv (.t 27), none⟩, ⟨(some 29), .mv (.t 10), (some (28, false))⟩, ⟨(some 30), .mv (.t 29), (some (28, false))⟩, ⟨(some 31), .mv (.t 1), (some (30, true))⟩, ⟨(some 32), .mv (.t 2), (some (30, true))⟩, ⟨(some 33), .call 97 (.k (.fn (.func 16) [] [])) [(.t 31), (.t 32)], (some (30, true))⟩, ⟨(some 34), .pick (.t 30) (.t 33) (.k (.bool false)), (some (28, false))⟩, ⟨(some 35), .mv (.t 34), (some (28, false))⟩, ⟨(some 36), .mv (.t 0), (some (35, true))⟩, ⟨(some 37), .mv (.t 2), (some (35, true))⟩, ⟨(some 38), .call 102 (.k (.fn (.func 16) [] [])) [(.t 36), (.t 37)], (some (35, true))⟩, ⟨(some 39), .un .not (.t 38), (some (35, true))⟩, ⟨(some 40), .pick (.t 35) (.t 39) (.k (.bool false)), (some (28, false))⟩, ⟨(some 41), .pick (.t 28) (.k (.bool true)) (.t 40), none⟩] none)
 (.cond (.t 41) (.seq (.reg [⟨(some 8), .mv (.k (.bool false)), none⟩] none)
 .ret) .skip))
 (.seq (.reg [⟨(some 42), .mv (.t 9), none⟩, ⟨(some 43), .mv (.t 42), none⟩, ⟨(some 44), .mv (.t 0), (some (43, true))⟩, ⟨(some 45), .mv (.t 0), (some (43, true))⟩, ⟨(some 46), .mv (.t 3), (some (43, true))⟩, ⟨(some 47), .call 111 (.k (.fn (.func 24) [] [])) [(.t 45), (.t 46), (.k (.int .i64 1))], (some (43, true))⟩, ⟨(some 48), .call 112 (.k (.fn (.func 16) [] [])) [(.t 44), (.t 47)], (some (43, true))⟩, ⟨(some 49), .un .not (.t 48), (some (43, true))⟩, ⟨(some 50), .pick (.t 43) (.t 49) (.k (.bool false)), none⟩, ⟨(some 51), .mv (.t 50), none⟩, ⟨(some 52), .mv (.t 10), (some (51, true))⟩, ⟨(some 53), .un .not (.t 52), (some (51, true))⟩, ⟨(some 54), .mv (.t 53), (some (51, true))⟩, ⟨(some 55), .mv (.t 0), (some (54, false))⟩, ⟨(some 56), .len (.t 55), (some (54, false))⟩, ⟨(some 57), .mv (.t 1), (some (54, false))⟩, ⟨(some 58), .len (.t 57), (some (54, false))⟩, ⟨(some 59), .bin .eql (.t 56) (.t 58), (some (54, false))⟩, ⟨(some 60), .mv (.t 59), (some (54, false))⟩, ⟨(some 61), .mv (.t 0), (some (60, true))⟩, ⟨(some 62), .mv (.t 3), (some (60, true))⟩, ⟨(some 63), .call 127 (.k (.fn (.func 28) [] [])) [(.t 61), (.t 62)], (some (60, true))⟩, ⟨(some 64), .mv (.t 1), (some (60, true))⟩, ⟨(some 65), .mv (.t 3), (some (60, true))⟩, ⟨(some 66), .call 130 (.k (.fn (.func 28) [] [])) [(.t 64), (.t 65)], (some (60, true))⟩, ⟨(some 67), .bin .eql (.t 63) (.t 66), (some (60, true))⟩, ⟨(some 68), .pick (.t 60) (.t 67) (.k (.bool false)), (some (54, false))⟩, ⟨(some 69), .pick (.t 54) (.k (.bool true)) (.t 68), (some (51, true))⟩, ⟨(some 70), .pick (.t 51) (.t 69) (.k (.bool false)), none⟩, ⟨(some 8), .mv (.t 70), none⟩] none)
 .ret))))))⟩
/-- besom/besomlaw07.DequeStops -/
def m10 : MFn := ⟨3, 86, [.tmp 6], (.seq (.reg [⟨(some 6), .mv (.k (.bool false)), none⟩] none)
 (.seq (.reg [⟨(some 15), .call 79 (.k (.fn (.func 33) [] [])) [], none⟩, ⟨(some 7), .mv (.t 15), none⟩] none)
 (.seq (.seq (.reg [⟨(some 16), .mv (.t 7), none⟩, ⟨(some 17), .un .not (.t 16), none⟩] none)
 (.cond (.t 17) (.seq (.reg [⟨(some 6), .mv (.k (.bool false)), none⟩] none)
 .ret) .skip))
 (.seq (.reg [⟨(some 18), .mv (.t 0), none⟩, ⟨(some 19), .bin .rem (.t 18) (.k (.int .u8 4)), none⟩, ⟨(some 20), .conv .i64 (.t 19), none⟩, ⟨(some 21), .bin .add (.k (.int .i64 1)) (.t 20), none⟩, ⟨(some 22), .call 86 (.k (.fn (.func 34) [] [])) [(.t 21)], none⟩, ⟨(some 8), .alloc 72 [.nils, (.int .i64 0), (.int .i64 0), (.int .i64 0), (.int .i64 0), (.int .i64 0), (.int .u64 0), (.int .u64 0), (.int .i64 0), (.int .i64 0), .nils, .nils, .nils, (.int .i64 0)], none⟩, ⟨none, .st 14 (.t 8) (.t 22), none⟩] none)
 (.seq (.seq (.reg [⟨(some 9), .mv (.k (.int .i64 0)), none⟩] none)
 (.block 0 (.loop (.seq (.seq (.reg [⟨(some 23), .mv (.t 9), none⟩, ⟨(some 24), .mv (.t 1), none⟩, ⟨(some 25), .len (.t 24), none⟩, ⟨(some 26), .bin .lss (.t 23) (.t 25), none⟩, ⟨(some 27), .mv (.t 26), none⟩, ⟨(some 28), .mv (.t 9), (some (27, true))⟩, ⟨(some 29), .bin .lss (.t 28) (.k (.int .i64 200)), (some (27, true))⟩, ⟨(some 30), .pick (.t 27) (.t 29) (.k (.bool false)), none⟩] none)
 (.cond (.t 30) .skip (.exit 0)))
 (.seq (.block 1 (.reg [⟨(some 33), .mv (.t 1), none⟩, ⟨(some 34), .mv (.t 9), none⟩, ⟨(some 35), .ixs 1 (.t 33) (.t 34), none⟩, ⟨(some 36), .ld none (.t 35), none⟩, ⟨(some 37), .call 101 (.k (.fn (.func 35) [] [])) [(.t 8), (.t 36)], none⟩] none))
 (.reg [⟨(some 31), .mv (.t 9), none⟩, ⟨(some 32), .bin .add (.t 31) (.k (.int .i64 1)), none⟩, ⟨(some 9), .mv (.t 32), none⟩] none))))))
 (.seq (.reg [⟨(some 38), .fa 2 (.t 8), none⟩, ⟨(some 39), .ld (some 8) (.t 38), none⟩, ⟨(some 10), .alloc 74 [(.int .i64 0), (.int .i64 0), (.int .i64 0), (.int .i64 0), (.int .u64 0), (.int .u64 0), (.int .i64 0), (.int .i64 0)], none⟩, ⟨none, .st 8 (.t 10) (.t 39), none⟩] none)
 (.seq (.reg [⟨(some 11), .mv (.k (.int .i64 7)), none⟩] none)
 (.seq (.seq (.reg [⟨(some 40), .mv (.t 2), none⟩, ⟨(some 41), .bin .rem (.t 40) (.k (.int .u8 4)), none⟩, ⟨(some 42), .bin .lss (.t 41) (.k (.int .u8 3)), none⟩] none)
 (.cond (.t 42) (.seq (.reg [⟨(some 43), .fa 10 (.t 8), none⟩, ⟨(some 44), .ld none (.t 43), none⟩, ⟨(some 45), .mv (.t 2), none⟩, ⟨(some 46), .bin .rem (.t 45) (.k (.int .u8 4)), none⟩, ⟨(some 47), .ixs 8 (.t 44) (.t 46), none⟩, ⟨(some 48), .ld (some 8) (.t 47), none⟩, ⟨none, .st 8 (.t 10) (.t 48), none⟩] none)
 (.reg [⟨(some 11), .mv (.k (.int .i64 4)), none⟩] none)) .skip))
 (.seq (.reg [⟨(some 50), .fa 0 (.t 8), none⟩, ⟨(some 51), .ld none (.t 50), none⟩, ⟨(some 52), .ld (some 8) (.t 10), none⟩, ⟨(some 53), .mv (.t 11), none⟩, ⟨(some 54), .call 118 (.k (.fn (.func 36) [] [])) [(.t 51), (.t 52), (.t 53)], none⟩, ⟨(some 49), .mv (.t 54), none⟩, ⟨(some 55), .ext (.t 49) 0, none⟩, ⟨(some 56), .ext (.t 49) 1, none⟩, ⟨(some 57), .ext (.t 49) 2, none⟩, ⟨(some 13), .alloc 77 [(.int .i64 0), (.int .i64 0), (.int .i64 0), (.int .i64 0), (.int .u64 0), (.int .u64 0), (.int .i64 0), (.int .i64 0)], none⟩, ⟨(some 12), .mv (.t 55), none⟩, ⟨none, .st 8 (.t 13) (.t 56), none⟩, ⟨(some 14), .mv (.t 57), none⟩] none)
 (.seq (.reg [⟨(some 58), .mv (.t 7), none⟩, ⟨(some 59), .mv (.t 58), none⟩, ⟨(some 60), .fa 7 (.t 13), (some (59, true))⟩, ⟨(some 61), .ld none (.t 60), (some (59, true))⟩, ⟨(some 62), .bin .neq (.t 61) (.k (.int .i64 0)), (some (59, true))⟩, ⟨(some 63), .pick (.t 59) (.t 62) (.k (.bool false)), none⟩, ⟨(some 64), .mv (.t 63), none⟩, ⟨(some 65), .mv (.t 14), (some (64, true))⟩, ⟨(some 66), .mv (.t 11), (some (64, true))⟩, ⟨(some 67), .bin .leq (.t 65) (.t 66), (some (64, true))⟩, ⟨(some 68), .pick (.t 64) (.t 67) (.k (.bool false)), none⟩, ⟨(some 69), .mv (.t 68), none⟩, ⟨(some 70), .fa 7 (.t 10), (some (69, true))⟩, ⟨(some 71), .ld none (.t 70), (some (69, true))⟩, ⟨(some 72), .bin .neq (.t 71) (.k (.int .i64 0)), (some (69, true))⟩, ⟨(some 73), .mv (.t 72), (some (69, true))⟩, ⟨(some 74), .fa 1 (.t 13), (some (73, false))⟩, ⟨(some 75), .ld none (.t 74), (some (73, false))⟩, ⟨(some 76), .fa 1 (.t 10), (some (73, false))⟩, ⟨(some 77), .ld none (.t 76), (some (73, false))⟩, ⟨(some 78), .bin .gtr (.t 75) (.t 77), (some (73, false))⟩, ⟨(some 79), .pick (.t 73) (.k (.bool true)) (.t 78), (some (69, true))⟩, ⟨(some 80), .mv (.t 79), (some (69, true))⟩, ⟨(some 81), .fa 0 (.t 10), (some (80, false))⟩, ⟨(some 82), .ld none (.t 81), (some (80, false))⟩, ⟨(some 83), .bin .eql (.t 82) (.k (.int .i64 2)), (some (80, false))⟩, ⟨(some 84), .pick (.t 80) (.k (.bool true)) (.t 83), (some (69, true))⟩, ⟨(some 85), .pick (.t 69) (.t 84) (.k (.bool false)), none⟩, ⟨(some 6), .mv (.t 85), none⟩] none)
 .ret))))))))))⟩
/-- besom/besomlaw07.DequeOrder -/
def m11 : MFn := ⟨2, 104, [.tmp 4], (.seq (.reg [⟨(some 4), .mv (.k (.bool false)), none⟩] none)
 (.seq (.reg [⟨(some 15), .call 79 (.k (.fn (.func 33) [] [])) [], none⟩, ⟨(some 5), .mv (.t 15), none⟩] none)
 (.seq (.seq (.reg [⟨(some 16), .mv (.t 5), none⟩, ⟨(some 17), .un .not (.t 16), none⟩] none)
 (.cond (.t 17) (.seq (.reg [⟨(some 4), .mv (.k (.bool false)), none⟩] none)
 .ret) .skip))
 (.seq (.reg [⟨(some 18), .mv (.t 0), none⟩, ⟨(some 19), .bin .rem (.t 18) (.k (.int .u8 4)), none⟩, ⟨(some 20), .conv .i64 (.t 19), none⟩, ⟨(some 21), .bin .add (.k (.int .i64 1)) (.t 20), none⟩, ⟨(some 22), .call 86 (.k (.fn (.func 34) [] [])) [(.t 21)], none⟩, ⟨(some 6), .alloc 70 [.nils, (.int .i64 0), (.int .i64 0), (.int .i64 0), (.int .i64 0), (.int .i64 0), (.int .u64 0), (.int .u64 0), (.int .i64 0), (.int .i64 0), .nils, .nils, .nils, (.int .i64 0)], none⟩, ⟨none, .st 14 (.t 6) (.t 22), none⟩] none)
 (.seq (.reg [⟨(some 7), .mv (.k (.int .i64 0)), none⟩] none)
 (.seq (.seq (.reg [⟨(some 8), .mv (.k (.int .i64 0)), none⟩] none)
 (.block 0 (.loop (.seq (.seq (.reg [⟨(some 23), .mv (.t 8), none⟩, ⟨(some 24), .mv (.t 1), none⟩, ⟨(some 25), .len (.t 24), none⟩, ⟨(some 26), .bin .lss (.t 23) (.t 25), none⟩, ⟨(some 27), .mv (.t 26), none⟩, ⟨(some 28), .mv (.t 8), (some (27, true))⟩, ⟨(some 29), .bin .lss (.t 28) (.k (.int .i64 400)), (some (27, true))⟩, ⟨(some 30), .pick (.t 27) (.t 29) (.k (.bool false)), none⟩] none)
 (.cond (.t 30) .skip (.exit 0)))
 (.seq (.block 1 (.seq (.reg [⟨(some 33), .mv (.t 1), none⟩, ⟨(some 34), .mv (.t 8), none⟩, ⟨(some 35), .ixs 1 (.t 33) (.t 34), none⟩, ⟨(some 36), .ld none (.t 35), none⟩, ⟨(some 37), .bin .rem (.t 36) (.k (.int .u8 5)), none⟩, ⟨(some 38), .conv .i64 (.t 37), none⟩, ⟨(some 9), .mv (.t 38), none⟩] none)
 (.seq (.reg [⟨(some 39), .fa 12 (.t 6), none⟩, ⟨(some 40), .ld none (.t 39), none⟩, ⟨(some 10), .mv (.t 40), none⟩] none)
 (.seq (.reg [⟨(some 41), .mv (.t 1), none⟩, ⟨(some 42), .mv (.t 8), none⟩, ⟨(some 43), .ixs 1 (.t 41) (.t 42), none⟩, ⟨(some 44), .ld none (.t 43), none⟩, ⟨(some 45), .call 109 (.k (.fn (.func 35) [] [])) [(.t 6), (.t 44)], none⟩] none)
 (.seq (.seq (.reg [⟨(some 46), .mv (.t 9), none⟩, ⟨(some 47), .bin .lss (.t 46) (.k (.int .i64 3)), none⟩, ⟨(some 48), .mv (.t 47), none⟩, ⟨(some 49), .fa 12 (.t 6), (some (48, true))⟩, ⟨(some 50), .ld none (.t 49), (some (48, true))⟩, ⟨(some 51), .len (.t 50), (some (48, true))⟩, ⟨(some 52), .mv (.t 10), (some (48, true))⟩, ⟨(some 53), .len (.t 52), (some (48, true))⟩, ⟨(some 54), .bin .gtr (.t 51) (.t 53), (some (48, true))⟩, ⟨(some 55), .pick (.t 48) (.t 54) (.k (.bool false)), none⟩] none)
 (.cond (.t 55) (.seq (.reg [⟨(some 57), .fa 12 (.t 6), none⟩, ⟨(some 58), .ld none (.t 57), none⟩, ⟨(some 59), .mv (.t 10), none⟩, ⟨(some 60), .call 124 (.k (.fn (.func 19) [] [])) [(.t 58), (.t 59)], none⟩, ⟨(some 56), .mv (.t 60), none⟩, ⟨(some 61), .ext (.t 56) 0, none⟩, ⟨(some 62), .ext (.t 56) 1, none⟩, ⟨(some 11), .mv (.t 61), none⟩, ⟨(some 12), .mv (.t 62), none⟩] none)
 (.seq (.seq (.reg [⟨(some 63), .mv (.t 12), none⟩, ⟨(some 64), .un .not (.t 63), none⟩, ⟨(some 65), .mv (.t 64), none⟩, ⟨(some 66), .mv (.t 11), (some (65, false))⟩, ⟨(some 67), .len (.t 66), (some (65, false))⟩, ⟨(some 68), .bin .neq (.t 67) (.k (.int .i64 1)), (some (65, false))⟩, ⟨(some 69), .pick (.t 65) (.k (.bool true)) (.t 68), none⟩, ⟨(some 70), .mv (.t 69), none⟩, ⟨(some 71), .mv (.t 11), (some (70, false))⟩, ⟨(some 72), .ixs 1 (.t 71) (.k (.int .i64 0)), (some (70, false))⟩, ⟨(some 73), .ld none (.t 72), (some (70, false))⟩, ⟨(some 74), .mv (.t 7), (some (70, false))⟩, ⟨(some 75), .bin .leq (.t 73) (.t 74), (some (70, false))⟩, ⟨(some 76), .pick (.t 70) (.k (.bool true)) (.t 75), none⟩] none)
 (.cond (.t 76) (.seq (.reg [⟨(some 4), .mv (.k (.bool false)), none⟩] none)
 .ret) .skip))
 (.reg [⟨(some 77), .mv (.t 11), none⟩, ⟨(some 78), .ixs 1 (.t 77) (.k (.int .i64 0)), none⟩, ⟨(some 79), .ld none (.t 78), none⟩, ⟨(some 7), .mv (.t 79), none⟩] none))) .skip))
 (.seq (.reg [⟨(some 80), .fa 0 (.t 6), none⟩, ⟨(some 81), .ld none (.t 80), none⟩, ⟨(some 82), .fa 1 (.t 6), none⟩, ⟨(some 83), .ld none (.t 82), none⟩, ⟨(some 84), .fa 2 (.t 6), none⟩, ⟨(some 85), .ld (some 8) (.t 84), none⟩, ⟨(some 86), .call 150 (.k (.fn (.func 37) [] [])) [(.t 81), (.k (.int .i64 0)), (.t 83), (.t 85)], none⟩, ⟨(some 13), .mv (.t 86), none⟩] none)
 (.seq (.reg [⟨(some 14), .mv (.k (.int .i64 1)), none⟩] none)
 (.block 2 (.loop (.seq (.seq (.reg [⟨(some 87), .mv (.t 14), none⟩, ⟨(some 88), .mv (.t 13), none⟩, ⟨(some 89), .len (.t 88), none⟩, ⟨(some 90), .bin .lss (.t 87) (.t 89), none⟩] none)
 (.cond (.t 90) .skip (.exit 2)))
 (.seq (.block 3 (.seq (.reg [⟨(some 93), .mv (.t 13), none⟩, ⟨(some 94), .mv (.t 14), none⟩, ⟨(some 95), .bin .sub (.t 94) (.k (.int .i64 1)), none⟩, ⟨(some 96), .ixs 1 (.t 93) (.t 95), none⟩, ⟨(some 97), .ld none (.t 96), none⟩, ⟨(some 98), .mv (.t 13), none⟩, ⟨(some 99), .mv (.t 14), none⟩, ⟨(some 100), .ixs 1 (.t 98) (.t 99), none⟩, ⟨(some 101), .ld none (.t 100), none⟩, ⟨(some 102), .bin .geq (.t 97) (.t 101), none⟩] (some [(3, 7), (4, 7), (3, 8), (4, 8)]))
 (.cond (.t 102) (.seq (.reg [⟨(some 4), .mv (.k (.bool false)), none⟩] none)
 .ret) .skip)))
 (.reg [⟨(some 91), .mv (.t 14), none⟩, ⟨(some 92), .bin .add (.t 91) (.k (.int .i64 1)), none⟩, ⟨(some 14), .mv (.t 92), none⟩] none))))))))))))
 (.reg [⟨(some 31), .mv (.t 8), none⟩, ⟨(some 32), .bin .add (.t 31) (.k (.int .i64 1)), none⟩, ⟨(some 8), .mv (.t 32), none⟩] none))))))
 (.seq (.reg [⟨(some 103), .mv (.t 5), none⟩, ⟨(some 4), .mv (.t 103), none⟩] none)
 .ret)))))))⟩
/-- besom/besomlaw07.DequeOnce -/
def m12 : MFn := ⟨2, 57, [.tmp 4], (.seq (.reg [⟨(some 4), .mv (.k (.bool false)), none⟩] none)
 (.seq (.reg [⟨(some 9), .call 73 (.k (.fn (.func 33) [] [])) [], none⟩, ⟨(some 5), .mv (.t 9), none⟩] none)
 (.seq (.seq (.reg [⟨(some 10), .mv (.t 5), none⟩, ⟨(some 11), .un .not (.t 10), none⟩] none)
 (.cond (.t 11) (.seq (.reg [⟨(some 4), .mv (.k (.bool false)), none⟩] none)
 .ret) .skip))
 (.seq (.reg [⟨(some 12), .mv (.t 0), none⟩, ⟨(some 13), .bin .rem (.t 12) (.k (.int .u8 4)), none⟩, ⟨(some 14), .conv .i64 (.t 13), none⟩, ⟨(some 15), .bin .add (.k (.int .i64 1)) (.t 14), none⟩, ⟨(some 16), .call 80 (.k (.fn (.func 34) [] [])) [(.t 15)], none⟩, ⟨(some 6), .alloc 70 [.nils, (.int .i64 0), (.int .i64 0), (.int .i64 0), (.int .i64 0), (.int .i64 0), (.int .u64 0), (.int .u64 0), (.int .i64 0), (.int .i64 0), .nils, .nils, .nils, (.int .i64 0)], none⟩, ⟨none, .st 14 (.t 6) (.t 16), none⟩] none)
 (.seq (.seq (.reg [⟨(some 7), .mv (.k (.int .i64 0)), none⟩] none)
 (.block 0 (.loop (.seq (.seq (.reg [⟨(some 17), .mv (.t 7), none⟩, ⟨(some 18), .mv (.t 1), none⟩, ⟨(some 19), .len (.t 18), none⟩, ⟨(some 20), .bin .lss (.t 17) (.t 19), none⟩, ⟨(some 21), .mv (.t 20), none⟩, ⟨(some 22), .mv (.t 7), (some (21, true))⟩, ⟨(some 23), .bin .lss (.t 22) (.k (.int .i64 400)), (some (21, true))⟩, ⟨(some 24), .pick (.t 21) (.t 23) (.k (.bool false)), none⟩] none)
 (.cond (.t 24) .skip (.exit 0)))
 (.seq (.block 1 (.seq (.reg [⟨(some 27), .mv (.t 1), none⟩, ⟨(some 28), .mv (.t 7), none⟩, ⟨(some 29), .ixs 1 (.t 27) (.t 28), none⟩, ⟨(some 30), .ld none (.t 29), none⟩, ⟨(some 31), .call 95 (.k (.fn (.func 35) [] [])) [(.t 6), (.t 30)], none⟩] none)
 (.seq (.reg [⟨(some 32), .fa 0 (.t 6), none⟩, ⟨(some 33), .ld none (.t 32), none⟩, ⟨(some 34), .fa 1 (.t 6), none⟩, ⟨(some 35), .ld none (.t 34), none⟩, ⟨(some 36), .fa 2 (.t 6), none⟩, ⟨(some 37), .ld (some 8) (.t 36), none⟩, ⟨(some 38), .call 102 (.k (.fn (.func 37) [] [])) [(.t 33), (.k (.int .i64 0)), (.t 35), (.t 37)], none⟩, ⟨(some 8), .mv (.t 38), none⟩] none)
 (.seq (.reg [⟨(some 39), .fa 11 (.t 6), none⟩, ⟨(some 40), .ld none (.t 39), none⟩, ⟨(some 41), .mv (.t 8), none⟩, ⟨(some 42), .call 106 (.k (.fn (.func 38) [] [])) [(.t 6)], none⟩, ⟨(some 43), .call 107 (.k (.fn (.func 30) [] [])) [(.t 41), (.t 42)], none⟩, ⟨(some 44), .fa 12 (.t 6), none⟩, ⟨(some 45), .ld none (.t 44), none⟩, ⟨(some 46), .call 110 (.k (.fn (.func 30) [] [])) [(.t 43), (.t 45)], none⟩, ⟨(some 47), .call 111 (.k (.fn (.func 16) [] [])) [(.t 40), (.t 46)], none⟩, ⟨(some 48), .un .not (.t 47), none⟩, ⟨(some 49), .mv (.t 48), none⟩, ⟨(some 50), .mv (.t 8), (some (49, false))⟩, ⟨(some 51), .len (.t 50), (some (49, false))⟩, ⟨(some 52), .fa 1 (.t 6), (some (49, false))⟩, ⟨(some 53), .ld none (.t 52), (some (49, false))⟩, ⟨(some 54), .bin .gtr (.t 51) (.t 53), (some (49, false))⟩, ⟨(some 55), .pick (.t 49) (.k (.bool true)) (.t 54), none⟩] (some [(1, 3), (1, 4), (1, 6), (3, 6), (4, 6), (1, 7), (12, 14)]))
 (.cond (.t 55) (.seq (.reg [⟨(some 4), .mv (.k (.bool false)), none⟩] none)
 .ret) .skip)))))
 (.reg [⟨(some 25), .mv (.t 7), none⟩, ⟨(some 26), .bin .add (.t 25) (.k (.int .i64 1)), none⟩, ⟨(some 7), .mv (.t 26), none⟩] none))))))
 (.seq (.reg [⟨(some 56), .mv (.t 5), none⟩, ⟨(some 4), .mv (.t 56), none⟩] none)
 .ret))))))⟩
/-- besom/besomlaw08.examples -/
def m13 : MFn := ⟨0, 132, [.tmp 0], (.seq (.reg [⟨(some 0), .mv (.k (.bool false)), none⟩] none)
 (.seq (.reg [⟨(some 13), .mks 77 1 8 (.int .u64 0) (.k (.int .i64 6)), none⟩, ⟨(some 14), .bslt 1 [(.k (.int .i64 2)), (.k (.int .i64 1))], none⟩, ⟨(some 15), .call 79 (.k (.fn (.func 39) [] [])) [(.t 13), (.k (.int .i64 0)), (.k (.int .i64 1)), (.t 14)], none⟩, ⟨(some 1), .mv (.t 15), none⟩] none)
 (.seq (.reg [⟨(some 17), .mks 81 1 8 (.int .u64 0) (.k (.int .i64 6)), none⟩, ⟨(some 18), .call 82 (.k (.fn (.func 41) [] [])) [(.k (.int .i64 2)), (.k (.int .i64 0)), (.k (.int .i64 1)), (.k (.int .i64 0))], none⟩, ⟨(some 19), .call 83 (.k (.fn (.func 40) [] [])) [(.t 17), (.t 18), (.k (.int .i64 9))], none⟩, ⟨(some 16), .mv (.t 19), none⟩, ⟨(some 20), .ext (.t 16) 0, none⟩, ⟨(some 21), .ext (.t 16) 1, none⟩, ⟨(some 22), .ext (.t 16) 2, none⟩, ⟨(some 3), .alloc 67 [(.int .i64 0), (.int .i64 0), (.int .i64 0), (.int .i64 0), (.int .u64 0), (.int .i64 0), (.int .i64 0), (.int .i64 0)], none⟩, ⟨(some 2), .mv (.t 20), none⟩, ⟨none, .st 8 (.t 3) (.t 21), none⟩, ⟨(some 4), .mv (.t 22), none⟩] (some [(0, 1), (0, 7), (1, 7), (2, 7)]))
 (.seq (.reg [⟨(some 24), .mv (.t 1), none⟩, ⟨(some 25), .call 89 (.k (.fn (.func 41) [] [])) [(.k (.int .i64 2)), (.k (.int .i64 0)), (.k (.int .i64 1)), (.k (.int .i64 0))], none⟩, ⟨(some 26), .call 90 (.k (.fn (.func 40) [] [])) [(.t 24), (.t 25), (.k (.int .i64 9))], none⟩, ⟨(some 23), .mv (.t 26), none⟩, ⟨(some 27), .ext (.t 23) 0, none⟩, ⟨(some 28), .ext (.t 23) 1, none⟩, ⟨(some 29), .ext (.t 23) 2, none⟩, ⟨(some 6), .alloc 70 [(.int .i64 0), (.int .i64 0), (.int .i64 0), (.int .i64 0), (.int .u64 0), (.int .i64 0), (.int .i64 0), (.int .i64 0)], none⟩, ⟨(some 5), .mv (.t 27), none⟩, ⟨none, .st 8 (.t 6) (.t 28), none⟩, ⟨(some 7), .mv (.t 29), none⟩] none)
 (.seq (.reg [⟨(some 31), .mv (.t 5), none⟩, ⟨(some 32), .call 96 (.k (.fn (.func 41) [] [])) [(.k (.int .i64 1)), (.k (.int .i64 0)), (.k (.int .i64 1)), (.k (.int .i64 3))], none⟩, ⟨(some 33), .call 97 (.k (.fn (.func 40) [] [])) [(.t 31), (.t 32), (.k (.int .i64 9))], none⟩, ⟨(some 30), .mv (.t 33), none⟩, ⟨(some 34), .ext (.t 30) 0, none⟩, ⟨(some 35), .ext (.t 30) 1, none⟩, ⟨(some 36), .ext (.t 30) 2, none⟩, ⟨(some 9), .alloc 73 [(.int .i64 0), (.int .i64 0), (.int .i64 0), (.int .i64 0), (.int .u64 0), (.int .i64 0), (.int .i64 0), (.int .i64 0)], none⟩, ⟨(some 8), .mv (.t 34), none⟩, ⟨none, .st 8 (.t 9) (.t 35), none⟩, ⟨(some 10), .mv (.t 36), none⟩] none)
 (.seq (.seq (.reg [⟨(some 37), .mv (.t 1), none⟩, ⟨(some 38), .len (.t 37), none⟩, ⟨(some 39), .bin .neq (.t 38) (.k (.int .i64 6)), none⟩, ⟨(some 40), .mv (.t 39), none⟩, ⟨(some 41), .mv (.t 8), (some (40, false))⟩, ⟨(some 42), .len (.t 41), (some (40, false))⟩, ⟨(some 43), .bin .neq (.t 42) (.k (.int .i64 6)), (some (40, false))⟩, ⟨(some 44), .pick (.t 40) (.k (.bool true)) (.t 43), none⟩] none)
 (.cond (.t 44) (.seq (.reg [⟨(some 0), .mv (.k (.bool false)), none⟩] none)
 .ret) .skip))
 (.seq (.reg [⟨(some 46), .mv (.t 1), none⟩, ⟨(some 47), .call 111 (.k (.fn (.func 41) [] [])) [(.k (.int .i64 2)), (.k (.int .i64 0)), (.k (.int .i64 1)), (.k (.int .i64 0))], none⟩, ⟨(some 48), .call 112 (.k (.fn (.func 42) [] [])) [(.t 46), (.t 47)], none⟩, ⟨(some 45), .mv (.t 48), none⟩, ⟨(some 49), .ext (.t 45) 0, none⟩, ⟨(some 50), .ext (.t 45) 1, none⟩, ⟨(some 12), .alloc 76 [(.int .i64 0), (.int .i64 0), (.int .i64 0), (.int .i64 0), (.int .u64 0), (.int .i64 0), (.int .i64 0), (.int .i64 0)], none⟩, ⟨(some 11), .mv (.t 49), none⟩, ⟨none, .st 8 (.t 12) (.t 50), none⟩] none)
 (.seq (.reg [⟨(some 52), .mv (.t 11), none⟩, ⟨(some 53), .ld (some 8) (.t 12), none⟩, ⟨(some 54), .call 118 (.k (.fn (.func 42) [] [])) [(.t 52), (.t 53)], none⟩, ⟨(some 51), .mv (.t 54), none⟩, ⟨(some 55), .ext (.t 51) 0, none⟩, ⟨(some 56), .ext (.t 51) 1, none⟩, ⟨(some 11), .mv (.t 55), none⟩, ⟨none, .st 8 (.t 12) (.t 56), none⟩] none)
 (.seq (.reg [⟨(some 58), .mv (.t 8), none⟩, ⟨(some 59), .ld (some 8) (.t 12), none⟩, ⟨(some 60), .call 124 (.k (.fn (.func 42) [] [])) [(.t 58), (.t 59)], none⟩, ⟨(some 57), .mv (.t 60), none⟩, ⟨(some 61), .ext (.t 57) 0, none⟩, ⟨(some 62), .ext (.t 57) 1, none⟩, ⟨none, .st 8 (.t 12) (.t 62), none⟩] none)
 (.seq (.reg [⟨(some 63), .fa 7 (.t 3), none⟩, ⟨(some 64), .ld none (.t 63), none⟩, ⟨(some 65), .bin .eql (.t 64) (.k (.int .i64 2)), none⟩, ⟨(some 66), .mv (.t 65), none⟩, ⟨(some 67), .mv (.t 4), (some (66, true))⟩, ⟨(some 68), .bin .eql (.t 67) (.k (.int .i64 1)), (some (66, true))⟩, ⟨(some 69), .pick (.t 66) (.t 68) (.k (.bool false)), none⟩, ⟨(some 70), .mv (.t 69), none⟩, ⟨(some 71), .mv (.t 1), (some (70, true))⟩, ⟨(some 72), .call 136 (.k (.fn (.func 44) [] [])) [(.t 71), (.k (.int .i64 0)), (.k (.int .i64 1)), (.k (.int .i64 9))], (some (70, true))⟩, ⟨(some 73), .bslt 1 [(.k (.int .i64 2)), (.k (.int .i64 1))], (some (70, true))⟩, ⟨(some 74), .call 138 (.k (.fn (.func 43) [] [])) [(.t 72), (.t 73)], (some (70, true))⟩, ⟨(some 75), .pick (.t 70) (.t 74) (.k (.bool false)), none⟩, ⟨(some 76), .mv (.t 75), none⟩, ⟨(some 77), .fa 7 (.t 6), (some (76, true))⟩, ⟨(some 78), .ld none (.t 77), (some (76, true))⟩, ⟨(some 79), .bin .eql (.t 78) (.k (.int .i64 1)), (some (76, true))⟩, ⟨(some 80), .pick (.t 76) (.t 79) (.k (.bool false)), none⟩, ⟨(some 81), .mv (.t 80), none⟩, ⟨(some 82), .fa 5 (.t 6), (some (81, true))⟩, ⟨(some 83), .ld none (.t 82), (some (81, true))⟩, ⟨(some 84), .bin .eql (.t 83) (.k (.int .i64 2)), (some (81, true))⟩, ⟨(some 85), .pick (.t 81) (.t 84) (.k (.bool false)), none⟩, ⟨(some 86), .mv (.t 85), none⟩, ⟨(some 87), .mv (.t 5), (some (86, true))⟩, ⟨(some 88), .call 152 (.k (.fn (.func 44) [] [])) [(.t 87), (.k (.int .i64 0)), (.k (.int .i64 1)), (.k (.int .i64 9))], (some (86, true))⟩, ⟨(some 89), .bslt 1 [(.k (.int .i64 1))], (some (86, true))⟩, ⟨(some 90), .call 154 (.k (.fn (.func 43) [] [])) [(.t 88), (.t 89)], (some (86, true))⟩, ⟨(some 91), .pick (.t 86) (.t 90) (.k (.bool false)), none⟩, ⟨(some 92), .mv (.t 91), none⟩, ⟨(some 93), .fa 7 (.t 9), (some (92, true))⟩, ⟨(some 94), .ld none (.t 93), (some (92, true))⟩, ⟨(some 95), .bin .eql (.t 94) (.k (.int .i64 1)), (some (92, true))⟩, ⟨(some 96), .pick (.t 92) (.t 95) (.k (.bool false)), none⟩, ⟨(some 97), .mv (.t 96), none⟩, ⟨(some 98), .mv (.t 8), (some (97, true))⟩, ⟨(some 99), .call 163 (.k (.fn (.func 44) [] [])) [(.t 98), (.k (.int .i64 0)), (.k (.int .i64 1)), (.k (.int .i64 9))], (some (97, true))⟩, ⟨(some 100), .bslt 1 [(.k (.int .i64 3)), (.k (.int .i64 1))], (some (97, true))⟩, ⟨(some 101), .call 165 (.k (.fn (.func 43) [] [])) [(.t 99), (.t 100)], (some (97, true))⟩, ⟨(some 102), .pick (.t 97) (.t 101) (.k (.bool false)), none⟩, ⟨(some 103), .mv (.t 102), none⟩, ⟨(some 104), .mv (.t 8), (some (103, true))⟩, ⟨(some 105), .ixs 1 (.t 104) (.k (.int .i64 0)), (some (103, true))⟩, ⟨(some 106), .ld none (.t 105), (some (103, true))⟩, ⟨(some 107), .call 171 (.k (.fn (.func 45) [] [])) [(.k (.int .u64 2)), (.k (.int .i64 3))], (some (103, true))⟩, ⟨(some 108), .bin .eql (.t 106) (.t 107), (some (103, true))⟩, ⟨(some 109), .pick (.t 103) (.t 108) (.k (.bool false)), none⟩, ⟨(some 110), .mv (.t 109), none⟩, ⟨(some 111), .mv (.t 8), (some (110, true))⟩, ⟨(some 112), .ixs 1 (.t 111) (.k (.int .i64 0)), (some (110, true))⟩, ⟨(some 113), .ld none (.t 112), (some (110, true))⟩, ⟨(some 114), .call 178 (.k (.fn (.func 46) [] [])) [(.t 113)], (some (110, true))⟩, ⟨(some 115), .bin .eql (.t 114) (.k (.int .i64 3)), (some (110, true))⟩, ⟨(some 116), .pick (.t 110) (.t 115) (.k (.bool false)), none⟩, ⟨(some 117), .mv (.t 116), none⟩, ⟨(some 118), .mv (.t 11), (some (117, true))⟩, ⟨(some 119), .len (.t 118), (some (117, true))⟩, ⟨(some 120), .bin .eql (.t 119) (.k (.int .i64 6)), (some (117, true))⟩, ⟨(some 121), .pick (.t 117) (.t 120) (.k (.bool false)), none⟩, ⟨(some 122), .mv (.t 121), none⟩, ⟨(some 123), .fa 7 (.t 12), (some (122, true))⟩, ⟨(some 124), .ld none (.t 123), (some (122, true))⟩, ⟨(some 125), .bin .eql (.t 124) (.k (.int .i64 0)), (some (122, true))⟩, ⟨(some 126), .pick (.t 122) (.t 125) (.k (.bool false)), none⟩, ⟨(some 127), .mv (.t 126), none⟩, ⟨(some 128), .fa 1 (.t 12), (some (127, true))⟩, ⟨(some 129), .ld none (.t 128), (some (127, true))⟩, ⟨(some 130), .bin .eql (.t 129) (.k (.int .i64 0)), (some (127, true))⟩, ⟨(some 131), .pick (.t 127) (.t 130) (.k (.bool false)), none⟩, ⟨(some 0), .mv (.t 131), none⟩] (some [(9, 10), (25, 26), (36, 37), (42, 44), (43, 44)]))
 .ret))))))))))⟩
/-- besom/besomlaw08.start -/
def m14 : MFn := ⟨0, 30, [.cell 0 (some 4)], (.seq (.reg [⟨(some 0), .alloc 64 [.nils, .nils, .nils, (.int .i64 0)], none⟩] none)
 (.seq (.reg [⟨(some 3), .mks 67 1 8 (.int .u64 0) (.k (.int .i64 10)), none⟩, ⟨(some 4), .bld [.nils, .nils, .nils, (.int .i64 0)] [(0, 1, (.t 3))], none⟩, ⟨(some 1), .alloc 65 [.nils, .nils, .nils, (.int .i64 0)], none⟩, ⟨none, .st 4 (.t 1) (.t 4), none⟩] none)
 (.seq (.reg [⟨(some 5), .fa 0 (.t 1), none⟩, ⟨(some 6), .ld none (.t 5), none⟩, ⟨(some 7), .bslt 1 [(.k (.int .i64 1)), (.k (.int .i64 2)), (.k (.int .i64 3)), (.k (.int .i64 4)), (.k (.int .i64 5)), (.k (.int .i64 6)), (.k (.int .i64 7)), (.k (.int .i64 8))], none⟩, ⟨(some 8), .call 72 (.k (.fn (.func 39) [] [])) [(.t 6), (.k (.int .i64 0)), (.k (.int .i64 1)), (.t 7)], none⟩, ⟨(some 9), .fa 0 (.t 1), none⟩, ⟨none, .st 1 (.t 9) (.t 8), none⟩] none)
 (.seq (.reg [⟨(some 10), .fa 0 (.t 1), none⟩, ⟨(some 11), .ld none (.t 10), none⟩, ⟨(some 12), .call 76 (.k (.fn (.func 39) [] [])) [(.t 11), (.k (.int .i64 1)), (.k (.int .i64 1)), (.k .nils)], none⟩, ⟨(some 13), .fa 0 (.t 1), none⟩, ⟨none, .st 1 (.t 13) (.t 12), none⟩] none)
 (.seq (.seq (.reg [⟨(some 2), .mv (.k (.int .i64 0)), none⟩] none)
 (.block 0 (.loop (.seq (.seq (.reg [⟨(some 14), .mv (.t 2), none⟩, ⟨(some 15), .bin .lss (.t 14) (.k (.int .i64 5)), none⟩] none)
 (.cond (.t 15) .skip (.exit 0)))
 (.seq (.block 1 (.seq (.reg [⟨(some 18), .fa 1 (.t 1), none⟩, ⟨(some 19), .ld none (.t 18), none⟩, ⟨(some 20), .bld [(.int .i64 0), (.int .i64 0), (.int .i64 0), (.int .i64 0), (.int .u64 0), (.int .i64 0), (.int .i64 0), (.int .i64 0)] [(7, 1, (.k (.int .i64 1)))], none⟩, ⟨(some 21), .bslt 8 [(.t 20)], none⟩, ⟨(some 22), .app 86 8 64 (.t 19) (.t 21), none⟩, ⟨(some 23), .fa 1 (.t 1), none⟩, ⟨none, .st 1 (.t 23) (.t 22), none⟩] none)
 (.reg [⟨(some 24), .fa 2 (.t 1), none⟩, ⟨(some 25), .ld none (.t 24), none⟩, ⟨(some 26), .bslt 1 [(.k (.int .i64 0))], none⟩, ⟨(some 27), .app 91 1 8 (.t 25) (.t 26), none⟩, ⟨(some 28), .fa 2 (.t 1), none⟩, ⟨none, .st 1 (.t 28) (.t 27), none⟩] none)))
 (.reg [⟨(some 16), .mv (.t 2), none⟩, ⟨(some 17), .bin .add (.t 16) (.k (.int .i64 1)), none⟩, ⟨(some 2), .mv (.t 17), none⟩] none))))))
 (.seq (.reg [⟨(some 29), .ld (some 4) (.t 1), none⟩, ⟨none, .st 4 (.t 0) (.t 29), none⟩] none)
 .ret))))))⟩
/-- (*besom/besomlaw08.World).step -/
def m15 : MFn := ⟨2, 114, [], (.seq (.reg [⟨(some 6), .mv (.t 1), none⟩, ⟨(some 7), .bin .rem (.t 6) (.k (.int .u8 5)), none⟩, ⟨(some 8), .conv .i64 (.t 7), none⟩, ⟨(some 4), .mv (.t 8), none⟩] none)
 (.seq (.seq (.reg [⟨(some 9), .mv (.t 0), none⟩, ⟨(some 10), .nilc (.t 9), none⟩, ⟨(some 11), .fa 1 (.t 10), none⟩, ⟨(some 12), .ld none (.t 11), none⟩, ⟨(some 13), .mv (.t 4), none⟩, ⟨(some 14), .ixs 8 (.t 12) (.t 13), none⟩, ⟨(some 15), .fa 7 (.t 14), none⟩, ⟨(some 16), .ld none (.t 15), none⟩, ⟨(some 17), .bin .neq (.t 16) (.k (.int .i64 0)), none⟩] none)
 (.cond (.t 17) (.seq (.reg [⟨(some 5), .mv (.k (.int .i64 2)), none⟩] none)
 (.seq (.seq (.reg [⟨(some 18), .mv (.t 0), none⟩, ⟨(some 19), .nilc (.t 18), none⟩, ⟨(some 20), .fa 2 (.t 19), none⟩, ⟨(some 21), .ld none (.t 20), none⟩, ⟨(some 22), .mv (.t 4), none⟩, ⟨(some 23), .ixs 1 (.t 21) (.t 22), none⟩, ⟨(some 24), .ld none (.t 23), none⟩, ⟨(some 25), .bin .gtr (.t 24) (.k (.int .i64 0)), none⟩] none)
 (.cond (.t 25) (.reg [⟨(some 5), .mv (.k (.int .i64 1)), none⟩] none) .skip))
 (.reg [⟨(some 26), .mv (.t 0), none⟩, ⟨(some 27), .nilc (.t 26), none⟩, ⟨(some 28), .fa 1 (.t 27), none⟩, ⟨(some 29), .ld none (.t 28), none⟩, ⟨(some 30), .mv (.t 4), none⟩, ⟨(some 31), .mv (.t 5), none⟩, ⟨(some 32), .mv (.t 1), none⟩, ⟨(some 33), .bin .quo (.t 32) (.k (.int .u8 5)), none⟩, ⟨(some 34), .bin .rem (.t 33) (.k (.int .u8 2)), none⟩, ⟨(some 35), .conv .i64 (.t 34), none⟩, ⟨(some 36), .mv (.t 0), none⟩, ⟨(some 37), .nilc (.t 36), none⟩, ⟨(some 38), .fa 2 (.t 37), none⟩, ⟨(some 39), .ld none (.t 38), none⟩, ⟨(some 40), .mv (.t 4), none⟩, ⟨(some 41), .ixs 1 (.t 39) (.t 40), none⟩, ⟨(some 42), .ld none (.t 41), none⟩, ⟨(some 43), .call 107 (.k (.fn (.func 41) [] [])) [(.t 31), (.t 35), (.k (.int .i64 1)), (.t 42)], none⟩, ⟨(some 44), .ixs 8 (.t 29) (.t 30), none⟩, ⟨none, .st 8 (.t 44) (.t 43), none⟩] (some [(3, 13), (3, 15), (3, 16), (3, 17)])))) .skip))
 (.seq (.reg [⟨(some 46), .mv (.t 0), none⟩, ⟨(some 47), .mv (.t 0), none⟩, ⟨(some 48), .nilc (.t 47), none⟩, ⟨(some 49), .fa 1 (.t 48), none⟩, ⟨(some 50), .ld none (.t 49), none⟩, ⟨(some 51), .mv (.t 4), none⟩, ⟨(some 52), .mv (.t 0), none⟩, ⟨(some 53), .nilc (.t 52), none⟩, ⟨(some 54), .fa 0 (.t 53), none⟩, ⟨(some 55), .ld none (.t 54), none⟩, ⟨(some 56), .mv (.t 0), none⟩, ⟨(some 57), .nilc (.t 56), none⟩, ⟨(some 58), .fa 1 (.t 57), none⟩, ⟨(some 59), .ld none (.t 58), none⟩, ⟨(some 60), .mv (.t 4), none⟩, ⟨(some 61), .ixs 8 (.t 59) (.t 60), none⟩, ⟨(some 62), .ld (some 8) (.t 61), none⟩, ⟨(some 63), .call 127 (.k (.fn (.func 42) [] [])) [(.t 55), (.t 62)], none⟩, ⟨(some 45), .mv (.t 63), none⟩, ⟨(some 64), .ext (.t 45) 0, none⟩, ⟨(some 65), .ext (.t 45) 1, none⟩, ⟨(some 66), .nilc (.t 46), none⟩, ⟨(some 67), .fa 0 (.t 66), none⟩, ⟨none, .st 1 (.t 67) (.t 64), none⟩, ⟨(some 68), .ixs 8 (.t 50) (.t 51), none⟩, ⟨none, .st 8 (.t 68) (.t 65), none⟩] (some [(4, 9), (4, 13), (9, 13), (4, 15), (9, 15), (4, 16), (9, 16), (4, 17)]))
 (.seq (.reg [⟨(some 69), .mv (.t 0), none⟩, ⟨(some 70), .nilc (.t 69), none⟩, ⟨(some 71), .fa 1 (.t 70), none⟩, ⟨(some 72), .ld none (.t 71), none⟩, ⟨(some 73), .mv (.t 4), none⟩, ⟨(some 74), .ixs 8 (.t 72) (.t 73), none⟩, ⟨(some 75), .fa 7 (.t 74), none⟩, ⟨(some 76), .ld none (.t 75), none⟩, ⟨(some 77), .bin .eql (.t 76) (.k (.int .i64 1)), none⟩] none)
 (.cond (.t 77) (.seq (.reg [⟨(some 78), .mv (.t 0), none⟩, ⟨(some 79), .nilc (.t 78), none⟩, ⟨(some 80), .fa 3 (.t 79), none⟩, ⟨(some 81), .ld none (.t 80), none⟩, ⟨(some 82), .bin .add (.t 81) (.k (.int .i64 1)), none⟩, ⟨(some 83), .nilc (.t 78), none⟩, ⟨(some 84), .fa 3 (.t 83), none⟩, ⟨none, .st 1 (.t 84) (.t 82), none⟩] none)
 (.seq (.reg [⟨(some 85), .mv (.t 0), none⟩, ⟨(some 86), .nilc (.t 85), none⟩, ⟨(some 87), .fa 2 (.t 86), none⟩, ⟨(some 88), .ld none (.t 87), none⟩, ⟨(some 89), .mv (.t 4), none⟩, ⟨(some 90), .mv (.t 0), none⟩, ⟨(some 91), .nilc (.t 90), none⟩, ⟨(some 92), .fa 1 (.t 91), none⟩, ⟨(some 93), .ld none (.t 92), none⟩, ⟨(some 94), .mv (.t 4), none⟩, ⟨(some 95), .ixs 8 (.t 93) (.t 94), none⟩, ⟨(some 96), .fa 5 (.t 95), none⟩, ⟨(some 97), .ld none (.t 96), none⟩, ⟨(some 98), .ixs 1 (.t 88) (.t 89), none⟩, ⟨none, .st 1 (.t 98) (.t 97), none⟩] (some [(3, 8), (3, 10), (3, 12)]))
 (.seq (.reg [⟨(some 99), .mv (.t 0), none⟩, ⟨(some 100), .nilc (.t 99), none⟩, ⟨(some 101), .fa 1 (.t 100), none⟩, ⟨(some 102), .ld none (.t 101), none⟩, ⟨(some 103), .mv (.t 4), none⟩, ⟨(some 104), .ixs 8 (.t 102) (.t 103), none⟩, ⟨(some 105), .fa 0 (.t 104), none⟩, ⟨(some 106), .ld none (.t 105), none⟩, ⟨(some 107), .bin .eql (.t 106) (.k (.int .i64 1)), none⟩] none)
 (.cond (.t 107) (.reg [⟨(some 108), .mv (.t 0), none⟩, ⟨(some 109), .nilc (.t 108), none⟩, ⟨(some 110), .fa 2 (.t 109), none⟩, ⟨(some 111), .ld none (.t 110), none⟩, ⟨(some 112), .mv (.t 4), none⟩, ⟨(some 113), .ixs 1 (.t 111) (.t 112), none⟩, ⟨none, .st 1 (.t 113) (.k (.int .i64 0)), none⟩] none) .skip)))) .skip)))))⟩
/-- besom/bag.Same -/
def m16 : MFn := ⟨2, 10, [.tmp 4], (.seq (.reg [⟨(some 4), .mv (.k (.bool false)), none⟩] none)
 (.seq (.reg [⟨(some 5), .mv (.t 0), none⟩, ⟨(some 6), .call 70 (.k (.fn (.func 48) [] [])) [(.t 5)], none⟩, ⟨(some 7), .mv (.t 1), none⟩, ⟨(some 8), .call 72 (.k (.fn (.func 48) [] [])) [(.t 7)], none⟩, ⟨(some 9), .call 73 (.k (.fn (.func 47) [] [])) [(.t 6), (.t 8)], none⟩, ⟨(some 4), .mv (.t 9), none⟩] none)
 .ret))⟩
/-- (*besom/besomlaw08.World).nodes -/
def m17 : MFn := ⟨1, 47, [.tmp 2], (.seq (.reg [⟨(some 2), .mv (.k .nils), none⟩] none)
 (.seq (.reg [⟨(some 5), .bslt 1 [], none⟩, ⟨(some 3), .mv (.t 5), none⟩] none)
 (.seq (.seq (.reg [⟨(some 4), .mv (.k (.int .i64 0)), none⟩] none)
 (.block 0 (.loop (.seq (.seq (.reg [⟨(some 6), .mv (.t 4), none⟩, ⟨(some 7), .mv (.t 0), none⟩, ⟨(some 8), .nilc (.t 7), none⟩, ⟨(some 9), .fa 2 (.t 8), none⟩, ⟨(some 10), .ld none (.t 9), none⟩, ⟨(some 11), .len (.t 10), none⟩, ⟨(some 12), .bin .lss (.t 6) (.t 11), none⟩] none)
 (.cond (.t 12) .skip (.exit 0)))
 (.seq (.block 1 (.seq (.reg [⟨(some 15), .mv (.t 0), none⟩, ⟨(some 16), .nilc (.t 15), none⟩, ⟨(some 17), .fa 2 (.t 16), none⟩, ⟨(some 18), .ld none (.t 17), none⟩, ⟨(some 19), .mv (.t 4), none⟩, ⟨(some 20), .ixs 1 (.t 18) (.t 19), none⟩, ⟨(some 21), .ld none (.t 20), none⟩, ⟨(some 22), .bin .gtr (.t 21) (.k (.int .i64 0)), none⟩] none)
 (.cond (.t 22) (.reg [⟨(some 23), .mv (.t 3), none⟩, ⟨(some 24), .mv (.t 0), none⟩, ⟨(some 25), .nilc (.t 24), none⟩, ⟨(some 26), .fa 2 (.t 25), none⟩, ⟨(some 27), .ld none (.t 26), none⟩, ⟨(some 28), .mv (.t 4), none⟩, ⟨(some 29), .ixs 1 (.t 27) (.t 28), none⟩, ⟨(some 30), .ld none (.t 29), none⟩, ⟨(some 31), .bslt 1 [(.t 30)], none⟩, ⟨(some 32), .app 96 1 8 (.t 23) (.t 31), none⟩, ⟨(some 3), .mv (.t 32), none⟩] none) .skip)))
 (.reg [⟨(some 13), .mv (.t 4), none⟩, ⟨(some 14), .bin .add (.t 13) (.k (.int .i64 1)), none⟩, ⟨(some 4), .mv (.t 14), none⟩] none))))))
 (.seq (.reg [⟨(some 33), .mv (.t 3), none⟩, ⟨(some 34), .mv (.t 0), none⟩, ⟨(some 35), .nilc (.t 34), none⟩, ⟨(some 36), .fa 0 (.t 35), none⟩, ⟨(some 37), .ld none (.t 36), none⟩, ⟨(some 38), .call 102 (.k (.fn (.func 44) [] [])) [(.t 37), (.k (.int .i64 0)), (.k (.int .i64 1)), (.k (.int .i64 50))], none⟩, ⟨(some 39), .app 103 1 8 (.t 33) (.t 38), none⟩, ⟨(some 3), .mv (.t 39), none⟩] none)
 (.seq (.reg [⟨(some 40), .mv (.t 3), none⟩, ⟨(some 41), .mv (.t 0), none⟩, ⟨(some 42), .nilc (.t 41), none⟩, ⟨(some 43), .fa 0 (.t 42), none⟩, ⟨(some 44), .ld none (.t 43), none⟩, ⟨(some 45), .call 109 (.k (.fn (.func 44) [] [])) [(.t 44), (.k (.int .i64 1)), (.k (.int .i64 1)), (.k (.int .i64 50))], none⟩, ⟨(some 46), .app 110 1 8 (.t 40) (.t 45), none⟩, ⟨(some 2), .mv (.t 46), none⟩] none)
 .ret)))))⟩
/-- besom/besomlaw06.examples -/
def m18 : MFn := ⟨0, 90, [.tmp 0], (.seq (.reg [⟨(some 0), .mv (.k (.bool false)), none⟩] none)
 (.seq (.reg [⟨(some 10), .bslt 1 [(.k (.int .i64 2)), (.k (.int .i64 1)), (.k (.int .i64 2))], none⟩, ⟨(some 1), .mv (.t 10), none⟩] none)
 (.seq (.reg [⟨(some 12), .mv (.t 1), none⟩, ⟨(some 13), .bslt 1 [(.k (.int .i64 2))], none⟩, ⟨(some 14), .call 78 (.k (.fn (.func 19) [] [])) [(.t 12), (.t 13)], none⟩, ⟨(some 11), .mv (.t 14), none⟩, ⟨(some 15), .ext (.t 11) 0, none⟩, ⟨(some 16), .ext (.t 11) 1, none⟩, ⟨(some 2), .mv (.t 15), none⟩, ⟨(some 3), .mv (.t 16), none⟩] none)
 (.seq (.reg [⟨(some 18), .mv (.t 1), none⟩, ⟨(some 19), .bslt 1 [(.k (.int .i64 1)), (.k (.int .i64 1))], none⟩, ⟨(some 20), .call 84 (.k (.fn (.func 19) [] [])) [(.t 18), (.t 19)], none⟩, ⟨(some 17), .mv (.t 20), none⟩, ⟨(some 21), .ext (.t 17) 0, none⟩, ⟨(some 22), .ext (.t 17) 1, none⟩, ⟨(some 4), .mv (.t 21), none⟩, ⟨(some 5), .mv (.t 22), none⟩] none)
 (.seq (.reg [⟨(some 24), .bslt 1 [(.k (.int .i64 3)), (.k (.int .i64 1))], none⟩, ⟨(some 25), .call 89 (.k (.fn (.func 21) [] [])) [(.t 24)], none⟩, ⟨(some 23), .mv (.t 25), none⟩, ⟨(some 26), .ext (.t 23) 0, none⟩, ⟨(some 27), .ext (.t 23) 1, none⟩, ⟨(some 6), .mv (.t 26), none⟩, ⟨(some 7), .mv (.t 27), none⟩] none)
 (.seq (.reg [⟨(some 29), .mv (.t 1), none⟩, ⟨(some 30), .call 94 (.k (.fn (.func 21) [] [])) [(.t 29)], none⟩, ⟨(some 28), .mv (.t 30), none⟩, ⟨(some 31), .ext (.t 28) 0, none⟩, ⟨(some 32), .ext (.t 28) 1, none⟩, ⟨(some 8), .mv (.t 31), none⟩, ⟨(some 9), .mv (.t 32), none⟩] none)
 (.seq (.reg [⟨(some 33), .mv (.t 1), none⟩, ⟨(some 34), .call 98 (.k (.fn (.func 26) [] [])) [(.t 33)], none⟩, ⟨(some 35), .bslt 1 [(.k (.int .i64 1)), (.k (.int .i64 2)), (.k (.int .i64 2))], none⟩, ⟨(some 36), .call 100 (.k (.fn (.func 16) [] [])) [(.t 34), (.t 35)], none⟩, ⟨(some 37), .mv (.t 36), none⟩, ⟨(some 38), .mv (.t 3), (some (37, true))⟩, ⟨(some 39), .pick (.t 37) (.t 38) (.k (.bool false)), none⟩, ⟨(some 40), .mv (.t 39), none⟩, ⟨(some 41), .mv (.t 2), (some (40, true))⟩, ⟨(some 42), .bslt 1 [(.k (.int .i64 1)), (.k (.int .i64 2))], (some (40, true))⟩, ⟨(some 43), .call 107 (.k (.fn (.func 16) [] [])) [(.t 41), (.t 42)], (some (40, true))⟩, ⟨(some 44), .pick (.t 40) (.t 43) (.k (.bool false)), none⟩, ⟨(some 45), .mv (.t 44), none⟩, ⟨(some 46), .mv (.t 5), (some (45, true))⟩, ⟨(some 47), .un .not (.t 46), (some (45, true))⟩, ⟨(some 48), .pick (.t 45) (.t 47) (.k (.bool false)), none⟩, ⟨(some 49), .mv (.t 48), none⟩, ⟨(some 50), .mv (.t 7), (some (49, true))⟩, ⟨(some 51), .pick (.t 49) (.t 50) (.k (.bool false)), none⟩, ⟨(some 52), .mv (.t 51), none⟩, ⟨(some 53), .mv (.t 6), (some (52, true))⟩, ⟨(some 54), .bin .eql (.t 53) (.k (.int .u64 5)), (some (52, true))⟩, ⟨(some 55), .pick (.t 52) (.t 54) (.k (.bool false)), none⟩, ⟨(some 56), .mv (.t 55), none⟩, ⟨(some 57), .mv (.t 9), (some (56, true))⟩, ⟨(some 58), .un .not (.t 57), (some (56, true))⟩, ⟨(some 59), .pick (.t 56) (.t 58) (.k (.bool false)), none⟩, ⟨(some 60), .mv (.t 59), none⟩, ⟨(some 61), .mv (.t 1), (some (60, true))⟩, ⟨(some 62), .call 126 (.k (.fn (.func 28) [] [])) [(.t 61), (.k (.int .i64 2))], (some (60, true))⟩, ⟨(some 63), .bin .eql (.t 62) (.k (.int .i64 2)), (some (60, true))⟩, ⟨(some 64), .pick (.t 60) (.t 63) (.k (.bool false)), none⟩, ⟨(some 65), .mv (.t 64), none⟩, ⟨(some 66), .mv (.t 1), (some (65, true))⟩, ⟨(some 67), .call 131 (.k (.fn (.func 24) [] [])) [(.t 66), (.k (.int .i64 2)), (.k (.int .i64 (-5)))], (some (65, true))⟩, ⟨(some 68), .len (.t 67), (some (65, true))⟩, ⟨(some 69), .bin .eql (.t 68) (.k (.int .i64 1)), (some (65, true))⟩, ⟨(some 70), .pick (.t 65) (.t 69) (.k (.bool false)), none⟩, ⟨(some 71), .mv (.t 70), none⟩, ⟨(some 72), .mv (.t 1), (some (71, true))⟩, ⟨(some 73), .call 137 (.k (.fn (.func 24) [] [])) [(.t 72), (.k (.int .i64 7)), (.k (.int .i64 2))], (some (71, true))⟩, ⟨(some 74), .len (.t 73), (some (71, true))⟩, ⟨(some 75), .bin .eql (.t 74) (.k (.int .i64 5)), (some (71, true))⟩, ⟨(some 76), .pick (.t 71) (.t 75) (.k (.bool false)), none⟩, ⟨(some 77), .mv (.t 76), none⟩, ⟨(some 78), .mv (.t 1), (some (77, true))⟩, ⟨(some 79), .mv (.t 1), (some (77, true))⟩, ⟨(some 80), .call 144 (.k (.fn (.func 30) [] [])) [(.t 78), (.t 79)], (some (77, true))⟩, ⟨(some 81), .bslt 1 [(.k (.int .i64 1)), (.k (.int .i64 1)), (.k (.int .i64 2)), (.k (.int .i64 2)), (.k (.int .i64 2)), (.k (.int .i64 2))], (some (77, true))⟩, ⟨(some 82), .call 146 (.k (.fn (.func 16) [] [])) [(.t 80), (.t 81)], (some (77, true))⟩, ⟨(some 83), .pick (.t 77) (.t 82) (.k (.bool false)), none⟩, ⟨(some 84), .mv (.t 83), none⟩, ⟨(some 85), .mv (.t 1), (some (84, true))⟩, ⟨(some 86), .mv (.t 2), (some (84, true))⟩, ⟨(some 87), .call 151 (.k (.fn (.func 16) [] [])) [(.t 85), (.t 86)], (some (84, true))⟩, ⟨(some 88), .un .not (.t 87), (some (84, true))⟩, ⟨(some 89), .pick (.t 84) (.t 88) (.k (.bool false)), none⟩, ⟨(some 0), .mv (.t 89), none⟩] none)
 .ret)))))))⟩
/-- besom/bag.Less -/
def m19 : MFn := ⟨2, 35, [.tmp 4, .tmp 5], (.seq (.reg [⟨(some 4), .mv (.k .nils), none⟩, ⟨(some 5), .mv (.k (.bool false)), none⟩] none)
 (.seq (.reg [⟨(some 10), .mkm 74, none⟩, ⟨(some 6), .alloc 70 [.nilmap], none⟩, ⟨none, .st 1 (.t 6) (.t 10), none⟩] none)
 (.seq (.seq (.reg [⟨(some 11), .mv (.t 1), none⟩, ⟨(some 12), .len (.t 11), none⟩, ⟨(some 13), .mv (.k (.int .i64 0)), none⟩] none)
 (.block 0 (.loop (.seq (.reg [⟨(some 14), .bin .lss (.t 13) (.t 12), none⟩] none)
 (.seq (.cond (.t 14) .skip (.exit 0))
 (.seq (.block 1 (.seq (.reg [⟨(some 15), .ixs 1 (.t 11) (.t 13), none⟩, ⟨(some 16), .ld none (.t 15), none⟩, ⟨(some 8), .mv (.t 16), none⟩] none)
 (.reg [⟨(some 17), .ld none (.t 6), none⟩, ⟨(some 18), .mv (.t 8), none⟩, ⟨(some 19), .lkpi (.t 17) (.t 18), none⟩, ⟨(some 20), .bin .add (.t 19) (.k (.int .i64 1)), none⟩, ⟨none, .updi (.t 17) (.t 18) (.t 20), none⟩] none)))
 (.reg [⟨(some 21), .bin .add (.t 13) (.k (.int .i64 1)), none⟩, ⟨(some 13), .mv (.t 21), none⟩] none)))))))
 (.seq (.reg [⟨(some 22), .mv (.t 0), none⟩, ⟨(some 23), .call 87 (.k (.fn (.func 48) [] [])) [(.t 22)], none⟩, ⟨(some 24), .mkf (.func 50) [] [(.t 6)], none⟩, ⟨(some 25), .call 89 (.k (.fn (.func 49) [] [])) [(.t 23), (.t 24)], none⟩, ⟨(some 9), .mv (.t 25), none⟩] none)
 (.seq (.seq (.reg [⟨(some 26), .mv (.t 9), none⟩, ⟨(some 27), .len (.t 26), none⟩, ⟨(some 28), .mv (.t 1), none⟩, ⟨(some 29), .len (.t 28), none⟩, ⟨(some 30), .bin .add (.t 27) (.t 29), none⟩, ⟨(some 31), .mv (.t 0), none⟩, ⟨(some 32), .len (.t 31), none⟩, ⟨(some 33), .bin .neq (.t 30) (.t 32), none⟩] none)
 (.cond (.t 33) (.seq (.reg [⟨(some 4), .mv (.k .nils), none⟩, ⟨(some 5), .mv (.k (.bool false)), none⟩] none)
 .ret) .skip))
 (.seq (.reg [⟨(some 34), .mv (.t 9), none⟩, ⟨(some 4), .mv (.t 34), none⟩, ⟨(some 5), .mv (.k (.bool true)), none⟩] none)
 .ret))))))⟩
/-- besom/besomref06.Less -/
def m20 : MFn := ⟨2, 30, [.tmp 4, .tmp 5], (.seq (.reg [⟨(some 4), .mv (.k .nils), none⟩, ⟨(some 5), .mv (.k (.bool false)), none⟩] none)
 (.seq (.reg [⟨(some 8), .mv (.t 0), none⟩, ⟨(some 9), .call 73 (.k (.fn (.func 27) [] [])) [(.t 8)], none⟩, ⟨(some 6), .mv (.t 9), none⟩] none)
 (.seq (.seq (.reg [⟨(some 7), .mv (.k (.int .i64 0)), none⟩] none)
 (.block 0 (.loop (.seq (.seq (.reg [⟨(some 10), .mv (.t 7), none⟩, ⟨(some 11), .mv (.t 1), none⟩, ⟨(some 12), .len (.t 11), none⟩, ⟨(some 13), .bin .lss (.t 10) (.t 12), none⟩] none)
 (.cond (.t 13) .skip (.exit 0)))
 (.seq (.block 1 (.seq (.seq (.reg [⟨(some 16), .mv (.t 6), none⟩, ⟨(some 17), .mv (.t 1), none⟩, ⟨(some 18), .mv (.t 7), none⟩, ⟨(some 19), .ixs 1 (.t 17) (.t 18), none⟩, ⟨(some 20), .ld none (.t 19), none⟩, ⟨(some 21), .call 85 (.k (.fn (.func 29) [] [])) [(.t 16), (.t 20)], none⟩, ⟨(some 22), .bin .eql (.t 21) (.k (.int .i64 0)), none⟩] none)
 (.cond (.t 22) (.seq (.reg [⟨(some 4), .mv (.k .nils), none⟩, ⟨(some 5), .mv (.k (.bool false)), none⟩] none)
 .ret) .skip))
 (.reg [⟨(some 23), .mv (.t 6), none⟩, ⟨(some 24), .mv (.t 1), none⟩, ⟨(some 25), .mv (.t 7), none⟩, ⟨(some 26), .ixs 1 (.t 24) (.t 25), none⟩, ⟨(some 27), .ld none (.t 26), none⟩, ⟨(some 28), .call 92 (.k (.fn (.func 25) [] [])) [(.t 23), (.t 27), (.k (.int .i64 (-1)))], none⟩, ⟨(some 6), .mv (.t 28), none⟩] none)))
 (.reg [⟨(some 14), .mv (.t 7), none⟩, ⟨(some 15), .bin .add (.t 14) (.k (.int .i64 1)), none⟩, ⟨(some 7), .mv (.t 15), none⟩] none))))))
 (.seq (.reg [⟨(some 29), .mv (.t 6), none⟩, ⟨(some 4), .mv (.t 29), none⟩, ⟨(some 5), .mv (.k (.bool true)), none⟩] none)
 .ret))))⟩
/-- besom/bag.Once -/
def m21 : MFn := ⟨1, 13, [.tmp 2, .tmp 3], (.seq (.reg [⟨(some 2), .mv (.k (.int .u64 0)), none⟩, ⟨(some 3), .mv (.k (.bool false)), none⟩] none)
 (.seq (.reg [⟨(some 5), .mv (.t 0), none⟩, ⟨(some 6), .call 70 (.k (.fn (.func 51) [] [])) [(.t 5)], none⟩, ⟨(some 4), .mv (.t 6), none⟩] none)
 (.seq (.seq (.reg [⟨(some 7), .mv (.t 4), none⟩, ⟨(some 8), .call 72 (.k (.fn (.func 52) [] [])) [(.t 7)], none⟩, ⟨(some 9), .mv (.t 0), none⟩, ⟨(some 10), .len (.t 9), none⟩, ⟨(some 11), .bin .neq (.t 8) (.t 10), none⟩] none)
 (.cond (.t 11) (.seq (.reg [⟨(some 2), .mv (.k (.int .u64 0)), none⟩, ⟨(some 3), .mv (.k (.bool false)), none⟩] none)
 .ret) .skip))
 (.seq (.reg [⟨(some 12), .mv (.t 4), none⟩, ⟨(some 2), .mv (.t 12), none⟩, ⟨(some 3), .mv (.k (.bool true)), none⟩] none)
 .ret))))⟩
/-- besom/besomref06.Once -/
def m22 : MFn := ⟨1, 39, [.tmp 2, .tmp 3], (.seq (.reg [⟨(some 2), .mv (.k (.int .u64 0)), none⟩, ⟨(some 3), .mv (.k (.bool false)), none⟩] none)
 (.seq (.reg [⟨(some 4), .mv (.k (.int .u64 0)), none⟩] none)
 (.seq (.seq (.reg [⟨(some 5), .mv (.k (.int .i64 0)), none⟩] none)
 (.block 0 (.loop (.seq (.seq (.reg [⟨(some 6), .mv (.t 5), none⟩, ⟨(some 7), .mv (.t 0), none⟩, ⟨(some 8), .len (.t 7), none⟩, ⟨(some 9), .bin .lss (.t 6) (.t 8), none⟩] none)
 (.cond (.t 9) .skip (.exit 0)))
 (.seq (.block 1 (.seq (.seq (.reg [⟨(some 12), .mv (.t 0), none⟩, ⟨(some 13), .mv (.t 5), none⟩, ⟨(some 14), .ixs 1 (.t 12) (.t 13), none⟩, ⟨(some 15), .ld none (.t 14), none⟩, ⟨(some 16), .bin .lss (.t 15) (.k (.int .i64 1)), none⟩, ⟨(some 17), .mv (.t 16), none⟩, ⟨(some 18), .mv (.t 0), (some (17, false))⟩, ⟨(some 19), .mv (.t 5), (some (17, false))⟩, ⟨(some 20), .ixs 1 (.t 18) (.t 19), (some (17, false))⟩, ⟨(some 21), .ld none (.t 20), (some (17, false))⟩, ⟨(some 22), .bin .gtr (.t 21) (.k (.int .i64 64)), (some (17, false))⟩, ⟨(some 23), .pick (.t 17) (.k (.bool true)) (.t 22), none⟩, ⟨(some 24), .mv (.t 23), none⟩, ⟨(some 25), .mv (.t 4), (some (24, false))⟩, ⟨(some 26), .mv (.t 0), (some (24, false))⟩, ⟨(some 27), .mv (.t 5), (some (24, false))⟩, ⟨(some 28), .ixs 1 (.t 26) (.t 27), (some (24, false))⟩, ⟨(some 29), .ld none (.t 28), (some (24, false))⟩, ⟨(some 30), .call 94 (.k (.fn (.func 53) [] [])) [(.t 25), (.t 29)], (some (24, false))⟩, ⟨(some 31), .pick (.t 24) (.k (.bool true)) (.t 30), none⟩] none)
 (.cond (.t 31) (.seq (.reg [⟨(some 2), .mv (.k (.int .u64 0)), none⟩, ⟨(some 3), .mv (.k (.bool false)), none⟩] none)
 .ret) .skip))
 (.reg [⟨(some 32), .mv (.t 4), none⟩, ⟨(some 33), .mv (.t 0), none⟩, ⟨(some 34), .mv (.t 5), none⟩, ⟨(some 35), .ixs 1 (.t 33) (.t 34), none⟩, ⟨(some 36), .ld none (.t 35), none⟩, ⟨(some 37), .call 101 (.k (.fn (.func 54) [] [])) [(.t 32), (.t 36)], none⟩, ⟨(some 4), .mv (.t 37), none⟩] none)))
 (.reg [⟨(some 10), .mv (.t 5), none⟩, ⟨(some 11), .bin .add (.t 10) (.k (.int .i64 1)), none⟩, ⟨(some 5), .mv (.t 11), none⟩] none))))))
 (.seq (.reg [⟨(some 38), .mv (.t 4), none⟩, ⟨(some 2), .mv (.t 38), none⟩, ⟨(some 3), .mv (.k (.bool true)), none⟩] none)
 .ret))))⟩
/-- besom/besomlaw06.ints -/
def m23 : MFn := ⟨2, 26, [.tmp 4], (.seq (.reg [⟨(some 4), .mv (.k (.bool false)), none⟩] none)
 (.seq (.seq (.reg [⟨(some 6), .mv (.t 0), none⟩, ⟨(some 7), .len (.t 6), none⟩, ⟨(some 8), .mv (.t 1), none⟩, ⟨(some 9), .len (.t 8), none⟩, ⟨(some 10), .bin .neq (.t 7) (.t 9), none⟩] none)
 (.cond (.t 10) (.seq (.reg [⟨(some 4), .mv (.k (.bool false)), none⟩] none)
 .ret) .skip))
 (.seq (.seq (.reg [⟨(some 5), .mv (.k (.int .i64 0)), none⟩] none)
 (.block 0 (.loop (.seq (.seq (.reg [⟨(some 11), .mv (.t 5), none⟩, ⟨(some 12), .mv (.t 0), none⟩, ⟨(some 13), .len (.t 12), none⟩, ⟨(some 14), .bin .lss (.t 11) (.t 13), none⟩] none)
 (.cond (.t 14) .skip (.exit 0)))
 (.seq (.block 1 (.seq (.reg [⟨(some 17), .mv (.t 0), none⟩, ⟨(some 18), .mv (.t 5), none⟩, ⟨(some 19), .ixs 1 (.t 17) (.t 18), none⟩, ⟨(some 20), .ld none (.t 19), none⟩, ⟨(some 21), .mv (.t 1), none⟩, ⟨(some 22), .mv (.t 5), none⟩, ⟨(some 23), .ixs 1 (.t 21) (.t 22), none⟩, ⟨(some 24), .ld none (.t 23), none⟩, ⟨(some 25), .bin .neq (.t 20) (.t 24), none⟩] (some [(2, 6), (3, 6), (2, 7), (3, 7)]))
 (.cond (.t 25) (.seq (.reg [⟨(some 4), .mv (.k (.bool false)), none⟩] none)
 .ret) .skip)))
 (.reg [⟨(some 15), .mv (.t 5), none⟩, ⟨(some 16), .bin .add (.t 15) (.k (.int .i64 1)), none⟩, ⟨(some 5), .mv (.t 16), none⟩] none))))))
 (.seq (.reg [⟨(some 4), .mv (.k (.bool true)), none⟩] none)
 .ret))))⟩
/-- besom/bag.Add -/
def m24 : MFn := ⟨3, 23, [.tmp 6], (.seq (.reg [⟨(some 4), .box 68 (.t 1), none⟩, ⟨(some 5), .box 69 (.t 2), none⟩, ⟨(some 6), .mv (.k .nils), none⟩] none)
 (.seq (.seq (.reg [⟨(some 7), .ld none (.t 5), none⟩, ⟨(some 8), .bin .geq (.t 7) (.k (.int .i64 0)), none⟩] none)
 (.cond (.t 8) (.seq (.reg [⟨(some 9), .mv (.t 0), none⟩, ⟨(some 10), .call 74 (.k (.fn (.func 55) [] [])) [(.t 9)], none⟩, ⟨(some 11), .ld none (.t 4), none⟩, ⟨(some 12), .bslt 1 [(.t 11)], none⟩, ⟨(some 13), .ld none (.t 5), none⟩, ⟨(some 14), .mn (.t 13) (.k (.int .i64 1000)), none⟩, ⟨(some 15), .call 79 (.k (.fn (.func 56) [] [])) [(.t 12), (.t 14)], none⟩, ⟨(some 16), .app 80 1 8 (.t 10) (.t 15), none⟩, ⟨(some 17), .call 81 (.k (.fn (.func 48) [] [])) [(.t 16)], none⟩, ⟨(some 6), .mv (.t 17), none⟩] (some [(1, 2), (1, 3), (1, 4), (2, 4), (3, 4)]))
 .ret) .skip))
 (.seq (.reg [⟨(some 18), .mv (.t 0), none⟩, ⟨(some 19), .call 83 (.k (.fn (.func 55) [] [])) [(.t 18)], none⟩, ⟨(some 20), .mkf (.func 57) [] [(.t 4), (.t 5)], none⟩, ⟨(some 21), .call 85 (.k (.fn (.func 49) [] [])) [(.t 19), (.t 20)], none⟩, ⟨(some 22), .call 86 (.k (.fn (.func 48) [] [])) [(.t 21)], none⟩, ⟨(some 6), .mv (.t 22), none⟩] none)
 .ret)))⟩
/-- besom/besomref06.Add -/
def m25 : MFn := ⟨3, 61, [.tmp 6], (.seq (.reg [⟨(some 6), .mv (.k .nils), none⟩] none)
 (.seq (.reg [⟨(some 7), .mv (.k .nils), none⟩] none)
 (.seq (.reg [⟨(some 11), .mv (.t 2), none⟩, ⟨(some 12), .mn (.t 11) (.k (.int .i64 0)), none⟩, ⟨(some 13), .un .neg (.t 12), none⟩, ⟨(some 8), .mv (.t 13), none⟩] none)
 (.seq (.seq (.reg [⟨(some 14), .mv (.t 2), none⟩, ⟨(some 15), .mv (.t 0), none⟩, ⟨(some 16), .len (.t 15), none⟩, ⟨(some 17), .un .neg (.t 16), none⟩, ⟨(some 18), .bin .lss (.t 14) (.t 17), none⟩] none)
 (.cond (.t 18) (.reg [⟨(some 19), .mv (.t 0), none⟩, ⟨(some 20), .len (.t 19), none⟩, ⟨(some 8), .mv (.t 20), none⟩] none) .skip))
 (.seq (.seq (.reg [⟨(some 9), .mv (.k (.int .i64 0)), none⟩] none)
 (.block 0 (.loop (.seq (.seq (.reg [⟨(some 21), .mv (.t 9), none⟩, ⟨(some 22), .mv (.t 0), none⟩, ⟨(some 23), .len (.t 22), none⟩, ⟨(some 24), .bin .lss (.t 21) (.t 23), none⟩] none)
 (.cond (.t 24) .skip (.exit 0)))
 (.seq (.block 1 (.seq (.seq (.reg [⟨(some 27), .mv (.t 0), none⟩, ⟨(some 28), .mv (.t 9), none⟩, ⟨(some 29), .ixs 1 (.t 27) (.t 28), none⟩, ⟨(some 30), .ld none (.t 29), none⟩, ⟨(some 31), .mv (.t 1), none⟩, ⟨(some 32), .bin .eql (.t 30) (.t 31), none⟩, ⟨(some 33), .mv (.t 32), none⟩, ⟨(some 34), .mv (.t 8), (some (33, true))⟩, ⟨(some 35), .bin .gtr (.t 34) (.k (.int .i64 0)), (some (33, true))⟩, ⟨(some 36), .pick (.t 33) (.t 35) (.k (.bool false)), none⟩] none)
 (.cond (.t 36) (.seq (.reg [⟨(some 37), .mv (.t 8), none⟩, ⟨(some 38), .bin .sub (.t 37) (.k (.int .i64 1)), none⟩, ⟨(some 8), .mv (.t 38), none⟩] none)
 (.exit 1)) .skip))
 (.reg [⟨(some 39), .mv (.t 7), none⟩, ⟨(some 40), .mv (.t 0), none⟩, ⟨(some 41), .mv (.t 9), none⟩, ⟨(some 42), .ixs 1 (.t 40) (.t 41), none⟩, ⟨(some 43), .ld none (.t 42), none⟩, ⟨(some 44), .bslt 1 [(.t 43)], none⟩, ⟨(some 45), .app 109 1 8 (.t 39) (.t 44), none⟩, ⟨(some 7), .mv (.t 45), none⟩] none)))
 (.reg [⟨(some 25), .mv (.t 9), none⟩, ⟨(some 26), .bin .add (.t 25) (.k (.int .i64 1)), none⟩, ⟨(some 9), .mv (.t 26), none⟩] none))))))
 (.seq (.seq (.reg [⟨(some 10), .mv (.k (.int .i64 0)), none⟩] none)
 (.block 2 (.loop (.seq (.seq (.reg [⟨(some 46), .mv (.t 10), none⟩, ⟨(some 47), .mv (.t 2), none⟩, ⟨(some 48), .bin .lss (.t 46) (.t 47), none⟩, ⟨(some 49), .mv (.t 48), none⟩, ⟨(some 50), .mv (.t 10), (some (49, true))⟩, ⟨(some 51), .bin .lss (.t 50) (.k (.int .i64 1000)), (some (49, true))⟩, ⟨(some 52), .pick (.t 49) (.t 51) (.k (.bool false)), none⟩] none)
 (.cond (.t 52) .skip (.exit 2)))
 (.seq (.block 3 (.reg [⟨(some 55), .mv (.t 7), none⟩, ⟨(some 56), .mv (.t 1), none⟩, ⟨(some 57), .bslt 1 [(.t 56)], none⟩, ⟨(some 58), .app 122 1 8 (.t 55) (.t 57), none⟩, ⟨(some 7), .mv (.t 58), none⟩] none))
 (.reg [⟨(some 53), .mv (.t 10), none⟩, ⟨(some 54), .bin .add (.t 53) (.k (.int .i64 1)), none⟩, ⟨(some 10), .mv (.t 54), none⟩] none))))))
 (.seq (.reg [⟨(some 59), .mv (.t 7), none⟩, ⟨(some 60), .call 124 (.k (.fn (.func 27) [] [])) [(.t 59)], none⟩, ⟨(some 6), .mv (.t 60), none⟩] none)
 .ret)))))))⟩
/-- besom/bag.Norm -/
def m26 : MFn := ⟨1, 5, [.tmp 2], (.seq (.reg [⟨(some 2), .mv (.k .nils), none⟩] none)
 (.seq (.reg [⟨(some 3), .mv (.t 0), none⟩, ⟨(some 4), .call 68 (.k (.fn (.func 48) [] [])) [(.t 3)], none⟩, ⟨(some 2), .mv (.t 4), none⟩] none)
 .ret))⟩
/-- besom/besomref06.Norm -/
def m27 : MFn := ⟨1, 44, [.tmp 2], (.seq (.reg [⟨(some 2), .mv (.k .nils), none⟩] none)
 (.seq (.reg [⟨(some 3), .mv (.k .nils), none⟩] none)
 (.seq (.seq (.reg [⟨(some 4), .mv (.k (.int .i64 0)), none⟩] none)
 (.block 0 (.loop (.seq (.seq (.reg [⟨(some 6), .mv (.t 4), none⟩, ⟨(some 7), .mv (.t 0), none⟩, ⟨(some 8), .len (.t 7), none⟩, ⟨(some 9), .bin .lss (.t 6) (.t 8), none⟩] none)
 (.cond (.t 9) .skip (.exit 0)))
 (.seq (.block 1 (.seq (.reg [⟨(some 5), .mv (.k (.int .i64 0)), none⟩] none)
 (.seq (.block 2 (.loop (.seq (.seq (.reg [⟨(some 12), .mv (.t 5), none⟩, ⟨(some 13), .mv (.t 3), none⟩, ⟨(some 14), .len (.t 13), none⟩, ⟨(some 15), .bin .lss (.t 12) (.t 14), none⟩, ⟨(some 16), .mv (.t 15), none⟩, ⟨(some 17), .mv (.t 3), (some (16, true))⟩, ⟨(some 18), .mv (.t 5), (some (16, true))⟩, ⟨(some 19), .ixs 1 (.t 17) (.t 18), (some (16, true))⟩, ⟨(some 20), .ld none (.t 19), (some (16, true))⟩, ⟨(some 21), .mv (.t 0), (some (16, true))⟩, ⟨(some 22), .mv (.t 4), (some (16, true))⟩, ⟨(some 23), .ixs 1 (.t 21) (.t 22), (some (16, true))⟩, ⟨(some 24), .ld none (.t 23), (some (16, true))⟩, ⟨(some 25), .bin .leq (.t 20) (.t 24), (some (16, true))⟩, ⟨(some 26), .pick (.t 16) (.t 25) (.k (.bool false)), none⟩] (some [(7, 11), (8, 11), (7, 12), (8, 12)]))
 (.cond (.t 26) .skip (.exit 2)))
 (.block 3 (.reg [⟨(some 27), .mv (.t 5), none⟩, ⟨(some 28), .bin .add (.t 27) (.k (.int .i64 1)), none⟩, ⟨(some 5), .mv (.t 28), none⟩] none)))))
 (.reg [⟨(some 29), .mv (.t 3), none⟩, ⟨(some 30), .mv (.t 5), none⟩, ⟨(some 31), .sll 1 (.t 29) none (some (.t 30)), none⟩, ⟨(some 32), .app 96 1 8 (.k .nils) (.t 31), none⟩, ⟨(some 33), .mv (.t 0), none⟩, ⟨(some 34), .mv (.t 4), none⟩, ⟨(some 35), .ixs 1 (.t 33) (.t 34), none⟩, ⟨(some 36), .ld none (.t 35), none⟩, ⟨(some 37), .bslt 1 [(.t 36)], none⟩, ⟨(some 38), .app 102 1 8 (.t 32) (.t 37), none⟩, ⟨(some 39), .mv (.t 3), none⟩, ⟨(some 40), .mv (.t 5), none⟩, ⟨(some 41), .sll 1 (.t 39) (some (.t 40)) none, none⟩, ⟨(some 42), .app 106 1 8 (.t 38) (.t 41), none⟩, ⟨(some 3), .mv (.t 42), none⟩] (some [(2, 6), (3, 6), (2, 7), (3, 7), (2, 8), (3, 8), (2, 12), (3, 12), (6, 12), (7, 12), (8, 12), (9, 12)])))))
 (.reg [⟨(some 10), .mv (.t 4), none⟩, ⟨(some 11), .bin .add (.t 10) (.k (.int .i64 1)), none⟩, ⟨(some 4), .mv (.t 11), none⟩] none))))))
 (.seq (.reg [⟨(some 43), .mv (.t 3), none⟩, ⟨(some 2), .mv (.t 43), none⟩] none)
 .ret))))⟩
/-- besom/bag.Count -/
def m28 : MFn := ⟨2, 21, [.tmp 4], (.seq (.reg [⟨(some 4), .mv (.k (.int .i64 0)), none⟩] none)
 (.seq (.reg [⟨(some 5), .mv (.k (.int .i64 0)), none⟩] none)
 (.seq (.seq (.reg [⟨(some 8), .mv (.t 0), none⟩, ⟨(some 9), .len (.t 8), none⟩, ⟨(some 10), .mv (.k (.int .i64 0)), none⟩] none)
 (.block 0 (.loop (.seq (.reg [⟨(some 11), .bin .lss (.t 10) (.t 9), none⟩] none)
 (.seq (.cond (.t 11) .skip (.exit 0))
 (.seq (.block 1 (.seq (.reg [⟨(some 12), .ixs 1 (.t 8) (.t 10), none⟩, ⟨(some 13), .ld none (.t 12), none⟩, ⟨(some 7), .mv (.t 13), none⟩] none)
 (.seq (.reg [⟨(some 14), .mv (.t 7), none⟩, ⟨(some 15), .mv (.t 1), none⟩, ⟨(some 16), .bin .eql (.t 14) (.t 15), none⟩] none)
 (.cond (.t 16) (.reg [⟨(some 17), .mv (.t 5), none⟩, ⟨(some 18), .bin .add (.t 17) (.k (.int .i64 1)), none⟩, ⟨(some 5), .mv (.t 18), none⟩] none) .skip))))
 (.reg [⟨(some 19), .bin .add (.t 10) (.k (.int .i64 1)), none⟩, ⟨(some 10), .mv (.t 19), none⟩] none)))))))
 (.seq (.reg [⟨(some 20), .mv (.t 5), none⟩, ⟨(some 4), .mv (.t 20), none⟩] none)
 .ret))))⟩
/-- besom/besomref06.Count -/
def m29 : MFn := ⟨2, 22, [.tmp 4], (.seq (.reg [⟨(some 4), .mv (.k (.int .i64 0)), none⟩] none)
 (.seq (.reg [⟨(some 5), .mv (.k (.int .i64 0)), none⟩] none)
 (.seq (.seq (.reg [⟨(some 6), .mv (.k (.int .i64 0)), none⟩] none)
 (.block 0 (.loop (.seq (.seq (.reg [⟨(some 7), .mv (.t 6), none⟩, ⟨(some 8), .mv (.t 0), none⟩, ⟨(some 9), .len (.t 8), none⟩, ⟨(some 10), .bin .lss (.t 7) (.t 9), none⟩] none)
 (.cond (.t 10) .skip (.exit 0)))
 (.seq (.block 1 (.seq (.reg [⟨(some 13), .mv (.t 0), none⟩, ⟨(some 14), .mv (.t 6), none⟩, ⟨(some 15), .ixs 1 (.t 13) (.t 14), none⟩, ⟨(some 16), .ld none (.t 15), none⟩, ⟨(some 17), .mv (.t 1), none⟩, ⟨(some 18), .bin .eql (.t 16) (.t 17), none⟩] none)
 (.cond (.t 18) (.reg [⟨(some 19), .mv (.t 5), none⟩, ⟨(some 20), .bin .add (.t 19) (.k (.int .i64 1)), none⟩, ⟨(some 5), .mv (.t 20), none⟩] none) .skip)))
 (.reg [⟨(some 11), .mv (.t 6), none⟩, ⟨(some 12), .bin .add (.t 11) (.k (.int .i64 1)), none⟩, ⟨(some 6), .mv (.t 12), none⟩] none))))))
 (.seq (.reg [⟨(some 21), .mv (.t 5), none⟩, ⟨(some 4), .mv (.t 21), none⟩] none)
 .ret))))⟩
/-- besom/bag.Sum -/
def m30 : MFn := ⟨2, 10, [.tmp 4], (.seq (.reg [⟨(some 4), .mv (.k .nils), none⟩] none)
 (.seq (.reg [⟨(some 5), .mv (.t 0), none⟩, ⟨(some 6), .mv (.t 1), none⟩, ⟨(some 7), .bslt 1 [(.t 5), (.t 6)], none⟩, ⟨(some 8), .call 72 (.k (.fn (.func 58) [] [])) [(.t 7)], none⟩, ⟨(some 9), .call 73 (.k (.fn (.func 48) [] [])) [(.t 8)], none⟩, ⟨(some 4), .mv (.t 9), none⟩] none)
 .ret))⟩
/-- besom/besomref06.Sum -/
def m31 : MFn := ⟨2, 10, [.tmp 4], (.seq (.reg [⟨(some 4), .mv (.k .nils), none⟩] none)
 (.seq (.reg [⟨(some 5), .mv (.t 0), none⟩, ⟨(some 6), .app 70 1 8 (.k .nils) (.t 5), none⟩, ⟨(some 7), .mv (.t 1), none⟩, ⟨(some 8), .app 72 1 8 (.t 6) (.t 7), none⟩, ⟨(some 9), .call 73 (.k (.fn (.func 27) [] [])) [(.t 8)], none⟩, ⟨(some 4), .mv (.t 9), none⟩] none)
 .ret))⟩
/-- besom/besomref06.Same -/
def m32 : MFn := ⟨2, 32, [.tmp 4], (.seq (.reg [⟨(some 4), .mv (.k (.bool false)), none⟩] none)
 (.seq (.reg [⟨(some 8), .mv (.t 0), none⟩, ⟨(some 9), .call 73 (.k (.fn (.func 27) [] [])) [(.t 8)], none⟩, ⟨(some 5), .mv (.t 9), none⟩] none)
 (.seq (.reg [⟨(some 10), .mv (.t 1), none⟩, ⟨(some 11), .call 75 (.k (.fn (.func 27) [] [])) [(.t 10)], none⟩, ⟨(some 6), .mv (.t 11), none⟩] none)
 (.seq (.seq (.reg [⟨(some 12), .mv (.t 5), none⟩, ⟨(some 13), .len (.t 12), none⟩, ⟨(some 14), .mv (.t 6), none⟩, ⟨(some 15), .len (.t 14), none⟩, ⟨(some 16), .bin .neq (.t 13) (.t 15), none⟩] none)
 (.cond (.t 16) (.seq (.reg [⟨(some 4), .mv (.k (.bool false)), none⟩] none)
 .ret) .skip))
 (.seq (.seq (.reg [⟨(some 7), .mv (.k (.int .i64 0)), none⟩] none)
 (.block 0 (.loop (.seq (.seq (.reg [⟨(some 17), .mv (.t 7), none⟩, ⟨(some 18), .mv (.t 5), none⟩, ⟨(some 19), .len (.t 18), none⟩, ⟨(some 20), .bin .lss (.t 17) (.t 19), none⟩] none)
 (.cond (.t 20) .skip (.exit 0)))
 (.seq (.block 1 (.seq (.reg [⟨(some 23), .mv (.t 5), none⟩, ⟨(some 24), .mv (.t 7), none⟩, ⟨(some 25), .ixs 1 (.t 23) (.t 24), none⟩, ⟨(some 26), .ld none (.t 25), none⟩, ⟨(some 27), .mv (.t 6), none⟩, ⟨(some 28), .mv (.t 7), none⟩, ⟨(some 29), .ixs 1 (.t 27) (.t 28), none⟩, ⟨(some 30), .ld none (.t 29), none⟩, ⟨(some 31), .bin .neq (.t 26) (.t 30), none⟩] (some [(2, 6), (3, 6), (2, 7), (3, 7)]))
 (.cond (.t 31) (.seq (.reg [⟨(some 4), .mv (.k (.bool false)), none⟩] none)
 .ret) .skip)))
 (.reg [⟨(some 21), .mv (.t 7), none⟩, ⟨(some 22), .bin .add (.t 21) (.k (.int .i64 1)), none⟩, ⟨(some 7), .mv (.t 22), none⟩] none))))))
 (.seq (.reg [⟨(some 4), .mv (.k (.bool true)), none⟩] none)
 .ret))))))⟩
/-- besom/besomlaw07.examples -/
def m33 : MFn := ⟨0, 151, [.tmp 0], (.seq (.reg [⟨(some 0), .mv (.k (.bool false)), none⟩] none)
 (.seq (.reg [⟨(some 19), .call 83 (.k (.fn (.func 59) [] [])) [(.k (.int .i64 2))], none⟩, ⟨(some 1), .mv (.t 19), none⟩] none)
 (.seq (.reg [⟨(some 21), .mv (.t 1), none⟩, ⟨(some 22), .call 86 (.k (.fn (.func 60) [] [])) [(.k (.int .i64 3)), (.k (.int .i64 0)), (.k (.int .i64 2)), (.k (.int .i64 0))], none⟩, ⟨(some 23), .call 87 (.k (.fn (.func 36) [] [])) [(.t 21), (.t 22), (.k (.int .i64 9))], none⟩, ⟨(some 20), .mv (.t 23), none⟩, ⟨(some 24), .ext (.t 20) 0, none⟩, ⟨(some 25), .ext (.t 20) 1, none⟩, ⟨(some 26), .ext (.t 20) 2, none⟩, ⟨(some 3), .alloc 67 [(.int .i64 0), (.int .i64 0), (.int .i64 0), (.int .i64 0), (.int .u64 0), (.int .u64 0), (.int .i64 0), (.int .i64 0)], none⟩, ⟨(some 2), .mv (.t 24), none⟩, ⟨none, .st 8 (.t 3) (.t 25), none⟩, ⟨(some 4), .mv (.t 26), none⟩] none)
 (.seq (.reg [⟨(some 28), .mv (.t 1), none⟩, ⟨(some 29), .call 93 (.k (.fn (.func 60) [] [])) [(.k (.int .i64 1)), (.k (.int .i64 0)), (.k (.int .i64 2)), (.k (.int .i64 7))], none⟩, ⟨(some 30), .call 94 (.k (.fn (.func 36) [] [])) [(.t 28), (.t 29), (.k (.int .i64 9))], none⟩, ⟨(some 27), .mv (.t 30), none⟩, ⟨(some 31), .ext (.t 27) 0, none⟩, ⟨(some 32), .ext (.t 27) 1, none⟩, ⟨(some 33), .ext (.t 27) 2, none⟩, ⟨(some 5), .alloc 69 [(.int .i64 0), (.int .i64 0), (.int .i64 0), (.int .i64 0), (.int .u64 0), (.int .u64 0), (.int .i64 0), (.int .i64 0)], none⟩, ⟨(some 1), .mv (.t 31), none⟩, ⟨none, .st 8 (.t 5) (.t 32), none⟩, ⟨(some 6), .mv (.t 33), none⟩] none)
 (.seq (.reg [⟨(some 35), .mv (.t 1), none⟩, ⟨(some 36), .call 100 (.k (.fn (.func 60) [] [])) [(.k (.int .i64 1)), (.k (.int .i64 0)), (.k (.int .i64 2)), (.k (.int .i64 8))], none⟩, ⟨(some 37), .call 101 (.k (.fn (.func 36) [] [])) [(.t 35), (.t 36), (.k (.int .i64 9))], none⟩, ⟨(some 34), .mv (.t 37), none⟩, ⟨(some 38), .ext (.t 34) 0, none⟩, ⟨(some 39), .ext (.t 34) 1, none⟩, ⟨(some 40), .ext (.t 34) 2, none⟩, ⟨(some 7), .alloc 71 [(.int .i64 0), (.int .i64 0), (.int .i64 0), (.int .i64 0), (.int .u64 0), (.int .u64 0), (.int .i64 0), (.int .i64 0)], none⟩, ⟨(some 1), .mv (.t 38), none⟩, ⟨none, .st 8 (.t 7) (.t 39), none⟩, ⟨(some 8), .mv (.t 40), none⟩] none)
 (.seq (.reg [⟨(some 42), .mv (.t 1), none⟩, ⟨(some 43), .call 107 (.k (.fn (.func 60) [] [])) [(.k (.int .i64 1)), (.k (.int .i64 0)), (.k (.int .i64 2)), (.k (.int .i64 9))], none⟩, ⟨(some 44), .call 108 (.k (.fn (.func 36) [] [])) [(.t 42), (.t 43), (.k (.int .i64 9))], none⟩, ⟨(some 41), .mv (.t 44), none⟩, ⟨(some 45), .ext (.t 41) 0, none⟩, ⟨(some 46), .ext (.t 41) 1, none⟩, ⟨(some 47), .ext (.t 41) 2, none⟩, ⟨(some 9), .alloc 73 [(.int .i64 0), (.int .i64 0), (.int .i64 0), (.int .i64 0), (.int .u64 0), (.int .u64 0), (.int .i64 0), (.int .i64 0)], none⟩, ⟨(some 1), .mv (.t 45), none⟩, ⟨none, .st 8 (.t 9) (.t 46), none⟩, ⟨(some 10), .mv (.t 47), none⟩] none)
 (.seq (.reg [⟨(some 48), .mv (.t 1), none⟩, ⟨(some 49), .bld [(.int .i64 0), (.int .i64 0), (.int .i64 0), (.int .i64 0), (.int .u64 0), (.int .u64 0), (.int .i64 0), (.int .i64 0)] [], none⟩, ⟨(some 50), .call 114 (.k (.fn (.func 37) [] [])) [(.t 48), (.k (.int .i64 0)), (.k (.int .i64 2)), (.t 49)], none⟩, ⟨(some 11), .mv (.t 50), none⟩] none)
 (.seq (.reg [⟨(some 52), .mv (.t 1), none⟩, ⟨(some 53), .call 117 (.k (.fn (.func 60) [] [])) [(.k (.int .i64 3)), (.k (.int .i64 0)), (.k (.int .i64 2)), (.k (.int .i64 0))], none⟩, ⟨(some 54), .call 118 (.k (.fn (.func 36) [] [])) [(.t 52), (.t 53), (.k (.int .i64 9))], none⟩, ⟨(some 51), .mv (.t 54), none⟩, ⟨(some 55), .ext (.t 51) 0, none⟩, ⟨(some 56), .ext (.t 51) 1, none⟩, ⟨(some 57), .ext (.t 51) 2, none⟩, ⟨(some 13), .alloc 77 [(.int .i64 0), (.int .i64 0), (.int .i64 0), (.int .i64 0), (.int .u64 0), (.int .u64 0), (.int .i64 0), (.int .i64 0)], none⟩, ⟨(some 12), .mv (.t 55), none⟩, ⟨none, .st 8 (.t 13) (.t 56), none⟩, ⟨(some 14), .mv (.t 57), none⟩] none)
 (.seq (.reg [⟨(some 59), .mv (.t 12), none⟩, ⟨(some 60), .call 124 (.k (.fn (.func 60) [] [])) [(.k (.int .i64 2)), (.k (.int .i64 0)), (.k (.int .i64 2)), (.k (.int .i64 0))], none⟩, ⟨(some 61), .call 125 (.k (.fn (.func 36) [] [])) [(.t 59), (.t 60), (.k (.int .i64 9))], none⟩, ⟨(some 58), .mv (.t 61), none⟩, ⟨(some 62), .ext (.t 58) 0, none⟩, ⟨(some 63), .ext (.t 58) 1, none⟩, ⟨(some 64), .ext (.t 58) 2, none⟩, ⟨(some 15), .alloc 79 [(.int .i64 0), (.int .i64 0), (.int .i64 0), (.int .i64 0), (.int .u64 0), (.int .u64 0), (.int .i64 0), (.int .i64 0)], none⟩, ⟨(some 12), .mv (.t 62), none⟩, ⟨none, .st 8 (.t 15) (.t 63), none⟩, ⟨(some 16), .mv (.t 64), none⟩] none)
 (.seq (.reg [⟨(some 66), .mv (.t 12), none⟩, ⟨(some 67), .call 131 (.k (.fn (.func 60) [] [])) [(.k (.int .i64 2)), (.k (.int .i64 0)), (.k (.int .i64 2)), (.k (.int .i64 0))], none⟩, ⟨(some 68), .call 132 (.k (.fn (.func 36) [] [])) [(.t 66), (.t 67), (.k (.int .i64 9))], none⟩, ⟨(some 65), .mv (.t 68), none⟩, ⟨(some 69), .ext (.t 65) 0, none⟩, ⟨(some 70), .ext (.t 65) 1, none⟩, ⟨(some 71), .ext (.t 65) 2, none⟩, ⟨(some 17), .alloc 81 [(.int .i64 0), (.int .i64 0), (.int .i64 0), (.int .i64 0), (.int .u64 0), (.int .u64 0), (.int .i64 0), (.int .i64 0)], none⟩, ⟨(some 12), .mv (.t 69), none⟩, ⟨none, .st 8 (.t 17) (.t 70), none⟩, ⟨(some 18), .mv (.t 71), none⟩] none)
 (.seq (.seq (.reg [⟨(some 72), .mv (.t 1), none⟩, ⟨(some 73), .len (.t 72), none⟩, ⟨(some 74), .bin .neq (.t 73) (.k (.int .i64 4)), none⟩, ⟨(some 75), .mv (.t 74), none⟩, ⟨(some 76), .mv (.t 11), (some (75, false))⟩, ⟨(some 77), .len (.t 76), (some (75, false))⟩, ⟨(some 78), .bin .neq (.t 77) (.k (.int .i64 2)), (some (75, false))⟩, ⟨(some 79), .pick (.t 75) (.k (.bool true)) (.t 78), none⟩] none)
 (.cond (.t 79) (.seq (.reg [⟨(some 0), .mv (.k (.bool false)), none⟩] none)
 .ret) .skip))
 (.seq (.reg [⟨(some 80), .fa 7 (.t 3), none⟩, ⟨(some 81), .ld none (.t 80), none⟩, ⟨(some 82), .bin .eql (.t 81) (.k (.int .i64 2)), none⟩, ⟨(some 83), .mv (.t 82), none⟩, ⟨(some 84), .mv (.t 4), (some (83, true))⟩, ⟨(some 85), .bin .eql (.t 84) (.k (.int .i64 2)), (some (83, true))⟩, ⟨(some 86), .pick (.t 83) (.t 85) (.k (.bool false)), none⟩, ⟨(some 87), .mv (.t 86), none⟩, ⟨(some 88), .fa 7 (.t 5), (some (87, true))⟩, ⟨(some 89), .ld none (.t 88), (some (87, true))⟩, ⟨(some 90), .bin .eql (.t 89) (.k (.int .i64 1)), (some (87, true))⟩, ⟨(some 91), .pick (.t 87) (.t 90) (.k (.bool false)), none⟩, ⟨(some 92), .mv (.t 91), none⟩, ⟨(some 93), .fa 7 (.t 7), (some (92, true))⟩, ⟨(some 94), .ld none (.t 93), (some (92, true))⟩, ⟨(some 95), .bin .eql (.t 94) (.k (.int .i64 1)), (some (92, true))⟩, ⟨(some 96), .pick (.t 92) (.t 95) (.k (.bool false)), none⟩, ⟨(some 97), .mv (.t 96), none⟩, ⟨(some 98), .fa 7 (.t 9), (some (97, true))⟩, ⟨(some 99), .ld none (.t 98), (some (97, true))⟩, ⟨(some 100), .bin .eql (.t 99) (.k (.int .i64 3)), (some (97, true))⟩, ⟨(some 101), .pick (.t 97) (.t 100) (.k (.bool false)), none⟩, ⟨(some 102), .mv (.t 101), none⟩, ⟨(some 103), .mv (.t 11), (some (102, true))⟩, ⟨(some 104), .ixs 1 (.t 103) (.k (.int .i64 0)), (some (102, true))⟩, ⟨(some 105), .ld none (.t 104), (some (102, true))⟩, ⟨(some 106), .bin .eql (.t 105) (.k (.int .i64 7)), (some (102, true))⟩, ⟨(some 107), .pick (.t 102) (.t 106) (.k (.bool false)), none⟩, ⟨(some 108), .mv (.t 107), none⟩, ⟨(some 109), .mv (.t 11), (some (108, true))⟩, ⟨(some 110), .ixs 1 (.t 109) (.k (.int .i64 1)), (some (108, true))⟩, ⟨(some 111), .ld none (.t 110), (some (108, true))⟩, ⟨(some 112), .bin .eql (.t 111) (.k (.int .i64 8)), (some (108, true))⟩, ⟨(some 113), .pick (.t 108) (.t 112) (.k (.bool false)), none⟩, ⟨(some 114), .mv (.t 113), none⟩, ⟨(some 115), .fa 7 (.t 13), (some (114, true))⟩, ⟨(some 116), .ld none (.t 115), (some (114, true))⟩, ⟨(some 117), .bin .eql (.t 116) (.k (.int .i64 1)), (some (114, true))⟩, ⟨(some 118), .pick (.t 114) (.t 117) (.k (.bool false)), none⟩, ⟨(some 119), .mv (.t 118), none⟩, ⟨(some 120), .fa 6 (.t 13), (some (119, true))⟩, ⟨(some 121), .ld none (.t 120), (some (119, true))⟩, ⟨(some 122), .bin .eql (.t 121) (.k (.int .i64 7)), (some (119, true))⟩, ⟨(some 123), .pick (.t 119) (.t 122) (.k (.bool false)), none⟩, ⟨(some 124), .mv (.t 123), none⟩, ⟨(some 125), .fa 7 (.t 15), (some (124, true))⟩, ⟨(some 126), .ld none (.t 125), (some (124, true))⟩, ⟨(some 127), .bin .eql (.t 126) (.k (.int .i64 1)), (some (124, true))⟩, ⟨(some 128), .pick (.t 124) (.t 127) (.k (.bool false)), none⟩, ⟨(some 129), .mv (.t 128), none⟩, ⟨(some 130), .fa 6 (.t 15), (some (129, true))⟩, ⟨(some 131), .ld none (.t 130), (some (129, true))⟩, ⟨(some 132), .bin .eql (.t 131) (.k (.int .i64 8)), (some (129, true))⟩, ⟨(some 133), .pick (.t 129) (.t 132) (.k (.bool false)), none⟩, ⟨(some 134), .mv (.t 133), none⟩, ⟨(some 135), .fa 7 (.t 17), (some (134, true))⟩, ⟨(some 136), .ld none (.t 135), (some (134, true))⟩, ⟨(some 137), .bin .eql (.t 136) (.k (.int .i64 2)), (some (134, true))⟩, ⟨(some 138), .pick (.t 134) (.t 137) (.k (.bool false)), none⟩, ⟨(some 139), .mv (.t 138), none⟩, ⟨(some 140), .fa 6 (.t 17), (some (139, true))⟩, ⟨(some 141), .ld none (.t 140), (some (139, true))⟩, ⟨(some 142), .bin .eql (.t 141) (.k (.int .i64 0)), (some (139, true))⟩, ⟨(some 143), .pick (.t 139) (.t 142) (.k (.bool false)), none⟩, ⟨(some 144), .mv (.t 143), none⟩, ⟨(some 145), .mv (.t 12), (some (144, true))⟩, ⟨(some 146), .bld [(.int .i64 0), (.int .i64 0), (.int .i64 0), (.int .i64 0), (.int .u64 0), (.int .u64 0), (.int .i64 0), (.int .i64 0)] [], (some (144, true))⟩, ⟨(some 147), .call 211 (.k (.fn (.func 37) [] [])) [(.t 145), (.k (.int .i64 0)), (.k (.int .i64 2)), (.t 146)], (some (144, true))⟩, ⟨(some 148), .len (.t 147), (some (144, true))⟩, ⟨(some 149), .bin .eql (.t 148) (.k (.int .i64 0)), (some (144, true))⟩, ⟨(some 150), .pick (.t 144) (.t 149) (.k (.bool false)), none⟩, ⟨(some 0), .mv (.t 150), none⟩] none)
 .ret))))))))))))⟩
/-- besom/besomlaw07.start -/
def m34 : MFn := ⟨1, 23, [.cell 2 (some 14)], (.seq (.reg [⟨(some 2), .alloc 66 [.nils, (.int .i64 0), (.int .i64 0), (.int .i64 0), (.int .i64 0), (.int .i64 0), (.int .u64 0), (.int .u64 0), (.int .i64 0), (.int .i64 0), .nils, .nils, .nils, (.int .i64 0)], none⟩] none)
 (.seq (.reg [⟨(some 5), .mv (.t 0), none⟩, ⟨(some 6), .call 70 (.k (.fn (.func 59) [] [])) [(.t 5)], none⟩, ⟨(some 7), .mv (.t 0), none⟩, ⟨(some 8), .bld [.nils, (.int .i64 0), (.int .i64 0), (.int .i64 0), (.int .i64 0), (.int .i64 0), (.int .u64 0), (.int .u64 0), (.int .i64 0), (.int .i64 0), .nils, .nils, .nils, (.int .i64 0)] [(0, 1, (.t 6)), (1, 1, (.t 7)), (13, 1, (.k (.int .i64 1)))], none⟩, ⟨(some 3), .alloc 67 [.nils, (.int .i64 0), (.int .i64 0), (.int .i64 0), (.int .i64 0), (.int .i64 0), (.int .u64 0), (.int .u64 0), (.int .i64 0), (.int .i64 0), .nils, .nils, .nils, (.int .i64 0)], none⟩, ⟨none, .st 14 (.t 3) (.t 8), none⟩] none)
 (.seq (.reg [⟨(some 9), .bld [(.int .i64 0), (.int .i64 0), (.int .i64 0), (.int .i64 0), (.int .u64 0), (.int .u64 0), (.int .i64 0), (.int .i64 0)] [(7, 1, (.k (.int .i64 1)))], none⟩, ⟨(some 10), .fa 2 (.t 3), none⟩, ⟨none, .st 8 (.t 10) (.t 9), none⟩] none)
 (.seq (.seq (.reg [⟨(some 4), .mv (.k (.int .i64 0)), none⟩] none)
 (.block 0 (.loop (.seq (.seq (.reg [⟨(some 11), .mv (.t 4), none⟩, ⟨(some 12), .bin .lss (.t 11) (.k (.int .i64 3)), none⟩] none)
 (.cond (.t 12) .skip (.exit 0)))
 (.seq (.block 1 (.reg [⟨(some 15), .fa 10 (.t 3), none⟩, ⟨(some 16), .ld none (.t 15), none⟩, ⟨(some 17), .mv (.t 0), none⟩, ⟨(some 18), .call 82 (.k (.fn (.func 60) [] [])) [(.k (.int .i64 3)), (.k (.int .i64 0)), (.t 17), (.k (.int .i64 0))], none⟩, ⟨(some 19), .bslt 8 [(.t 18)], none⟩, ⟨(some 20), .app 84 8 64 (.t 16) (.t 19), none⟩, ⟨(some 21), .fa 10 (.t 3), none⟩, ⟨none, .st 1 (.t 21) (.t 20), none⟩] (some [(1, 3), (1, 4)])))
 (.reg [⟨(some 13), .mv (.t 4), none⟩, ⟨(some 14), .bin .add (.t 13) (.k (.int .i64 1)), none⟩, ⟨(some 4), .mv (.t 14), none⟩] none))))))
 (.seq (.reg [⟨(some 22), .ld (some 14) (.t 3), none⟩, ⟨none, .st 14 (.t 2) (.t 22), none⟩] none)
 .ret)))))⟩
/-- (*besom/besomlaw07.World).step -/
def m35 : MFn := ⟨2, 122, [], (.seq (.reg [⟨(some 6), .mv (.t 1), none⟩, ⟨(some 7), .bin .rem (.t 6) (.k (.int .u8 5)), none⟩, ⟨(some 8), .conv .i64 (.t 7), none⟩, ⟨(some 4), .mv (.t 8), none⟩] none)
 (.seq (.seq (.reg [⟨(some 9), .mv (.t 4), none⟩, ⟨(some 10), .bin .lss (.t 9) (.k (.int .i64 3)), none⟩] none)
 (.cond (.t 10) (.seq (.reg [⟨(some 11), .mv (.t 0), none⟩, ⟨(some 12), .mv (.t 4), none⟩, ⟨(some 13), .call 77 (.k (.fn (.func 61) [] [])) [(.t 11), (.t 12)], none⟩] none)
 .ret) .skip))
 (.seq (.seq (.reg [⟨(some 14), .mv (.t 0), none⟩, ⟨(some 15), .nilc (.t 14), none⟩, ⟨(some 16), .fa 2 (.t 15), none⟩, ⟨(some 17), .fa 7 (.t 16), none⟩, ⟨(some 18), .ld none (.t 17), none⟩, ⟨(some 19), .bin .neq (.t 18) (.k (.int .i64 0)), none⟩] none)
 (.cond (.t 19) (.seq (.reg [⟨(some 5), .mv (.k (.int .i64 1)), none⟩] none)
 (.seq (.seq (.reg [⟨(some 20), .mv (.t 1), none⟩, ⟨(some 21), .bin .quo (.t 20) (.k (.int .u8 5)), none⟩, ⟨(some 22), .bin .rem (.t 21) (.k (.int .u8 2)), none⟩, ⟨(some 23), .bin .eql (.t 22) (.k (.int .u8 1)), none⟩] none)
 (.cond (.t 23) (.reg [⟨(some 5), .mv (.k (.int .i64 2)), none⟩] none) .skip))
 (.seq (.reg [⟨(some 24), .mv (.t 0), none⟩, ⟨(some 25), .mv (.t 5), none⟩, ⟨(some 26), .mv (.t 0), none⟩, ⟨(some 27), .nilc (.t 26), none⟩, ⟨(some 28), .fa 1 (.t 27), none⟩, ⟨(some 29), .ld none (.t 28), none⟩, ⟨(some 30), .call 94 (.k (.fn (.func 60) [] [])) [(.t 25), (.k (.int .i64 0)), (.t 29), (.k (.int .i64 0))], none⟩, ⟨(some 31), .nilc (.t 24), none⟩, ⟨(some 32), .fa 2 (.t 31), none⟩, ⟨none, .st 8 (.t 32) (.t 30), none⟩] none)
 (.seq (.reg [⟨(some 33), .mv (.t 5), none⟩, ⟨(some 34), .bin .eql (.t 33) (.k (.int .i64 1)), none⟩] none)
 (.cond (.t 34) (.seq (.reg [⟨(some 35), .mv (.t 0), none⟩, ⟨(some 36), .mv (.t 0), none⟩, ⟨(some 37), .nilc (.t 36), none⟩, ⟨(some 38), .fa 13 (.t 37), none⟩, ⟨(some 39), .ld none (.t 38), none⟩, ⟨(some 40), .nilc (.t 35), none⟩, ⟨(some 41), .fa 2 (.t 40), none⟩, ⟨(some 42), .fa 6 (.t 41), none⟩, ⟨none, .st 1 (.t 42) (.t 39), none⟩] none)
 (.reg [⟨(some 43), .mv (.t 0), none⟩, ⟨(some 44), .nilc (.t 43), none⟩, ⟨(some 45), .fa 13 (.t 44), none⟩, ⟨(some 46), .ld none (.t 45), none⟩, ⟨(some 47), .bin .add (.t 46) (.k (.int .i64 1)), none⟩, ⟨(some 48), .nilc (.t 43), none⟩, ⟨(some 49), .fa 13 (.t 48), none⟩, ⟨none, .st 1 (.t 49) (.t 47), none⟩] none)) .skip))))) .skip))
 (.seq (.reg [⟨(some 51), .mv (.t 0), none⟩, ⟨(some 52), .mv (.t 0), none⟩, ⟨(some 53), .mv (.t 0), none⟩, ⟨(some 54), .nilc (.t 53), none⟩, ⟨(some 55), .fa 0 (.t 54), none⟩, ⟨(some 56), .ld none (.t 55), none⟩, ⟨(some 57), .mv (.t 0), none⟩, ⟨(some 58), .nilc (.t 57), none⟩, ⟨(some 59), .fa 2 (.t 58), none⟩, ⟨(some 60), .ld (some 8) (.t 59), none⟩, ⟨(some 61), .call 125 (.k (.fn (.func 62) [] [])) [(.t 56), (.t 60)], none⟩, ⟨(some 50), .mv (.t 61), none⟩, ⟨(some 62), .ext (.t 50) 0, none⟩, ⟨(some 63), .ext (.t 50) 1, none⟩, ⟨(some 64), .nilc (.t 51), none⟩, ⟨(some 65), .fa 0 (.t 64), none⟩, ⟨none, .st 1 (.t 65) (.t 62), none⟩, ⟨(some 66), .nilc (.t 52), none⟩, ⟨(some 67), .fa 2 (.t 66), none⟩, ⟨none, .st 8 (.t 67) (.t 63), none⟩] (some [(5, 9)]))
 (.seq (.seq (.reg [⟨(some 68), .mv (.t 0), none⟩, ⟨(some 69), .nilc (.t 68), none⟩, ⟨(some 70), .fa 2 (.t 69), none⟩, ⟨(some 71), .fa 7 (.t 70), none⟩, ⟨(some 72), .ld none (.t 71), none⟩, ⟨(some 73), .bin .eql (.t 72) (.k (.int .i64 1)), none⟩, ⟨(some 74), .mv (.t 73), none⟩, ⟨(some 75), .mv (.t 0), (some (74, true))⟩, ⟨(some 76), .nilc (.t 75), (some (74, true))⟩, ⟨(some 77), .fa 2 (.t 76), (some (74, true))⟩, ⟨(some 78), .fa 0 (.t 77), (some (74, true))⟩, ⟨(some 79), .ld none (.t 78), (some (74, true))⟩, ⟨(some 80), .bin .eql (.t 79) (.k (.int .i64 1)), (some (74, true))⟩, ⟨(some 81), .pick (.t 74) (.t 80) (.k (.bool false)), none⟩] none)
 (.cond (.t 81) (.reg [⟨(some 82), .mv (.t 0), none⟩, ⟨(some 83), .mv (.t 0), none⟩, ⟨(some 84), .nilc (.t 83), none⟩, ⟨(some 85), .fa 11 (.t 84), none⟩, ⟨(some 86), .ld none (.t 85), none⟩, ⟨(some 87), .mv (.t 0), none⟩, ⟨(some 88), .nilc (.t 87), none⟩, ⟨(some 89), .fa 2 (.t 88), none⟩, ⟨(some 90), .fa 6 (.t 89), none⟩, ⟨(some 91), .ld none (.t 90), none⟩, ⟨(some 92), .call 156 (.k (.fn (.func 24) [] [])) [(.t 86), (.t 91), (.k (.int .i64 1))], none⟩, ⟨(some 93), .nilc (.t 82), none⟩, ⟨(some 94), .fa 11 (.t 93), none⟩, ⟨none, .st 1 (.t 94) (.t 92), none⟩] (some [(4, 9)])) .skip))
 (.seq (.reg [⟨(some 95), .mv (.t 0), none⟩, ⟨(some 96), .nilc (.t 95), none⟩, ⟨(some 97), .fa 2 (.t 96), none⟩, ⟨(some 98), .fa 7 (.t 97), none⟩, ⟨(some 99), .ld none (.t 98), none⟩, ⟨(some 100), .bin .eql (.t 99) (.k (.int .i64 1)), none⟩, ⟨(some 101), .mv (.t 100), none⟩, ⟨(some 102), .mv (.t 0), (some (101, true))⟩, ⟨(some 103), .nilc (.t 102), (some (101, true))⟩, ⟨(some 104), .fa 2 (.t 103), (some (101, true))⟩, ⟨(some 105), .fa 0 (.t 104), (some (101, true))⟩, ⟨(some 106), .ld none (.t 105), (some (101, true))⟩, ⟨(some 107), .bin .eql (.t 106) (.k (.int .i64 2)), (some (101, true))⟩, ⟨(some 108), .pick (.t 101) (.t 107) (.k (.bool false)), none⟩] none)
 (.cond (.t 108) (.reg [⟨(some 109), .mv (.t 0), none⟩, ⟨(some 110), .mv (.t 0), none⟩, ⟨(some 111), .nilc (.t 110), none⟩, ⟨(some 112), .fa 12 (.t 111), none⟩, ⟨(some 113), .ld none (.t 112), none⟩, ⟨(some 114), .mv (.t 0), none⟩, ⟨(some 115), .nilc (.t 114), none⟩, ⟨(some 116), .fa 2 (.t 115), none⟩, ⟨(some 117), .fa 6 (.t 116), none⟩, ⟨(some 118), .ld none (.t 117), none⟩, ⟨(some 119), .call 183 (.k (.fn (.func 24) [] [])) [(.t 113), (.t 118), (.k (.int .i64 1))], none⟩, ⟨(some 120), .nilc (.t 109), none⟩, ⟨(some 121), .fa 12 (.t 120), none⟩, ⟨none, .st 1 (.t 121) (.t 119), none⟩] (some [(4, 9)])) .skip)))))))⟩
/-- besom/besomlaw07.run -/
def m36 : MFn := ⟨3, 29, [.tmp 6, .cell 7 (some 8), .tmp 8], (.seq (.reg [⟨(some 4), .box 68 (.t 1), none⟩, ⟨(some 6), .mv (.k .nils), none⟩, ⟨(some 7), .alloc 71 [(.int .i64 0), (.int .i64 0), (.int .i64 0), (.int .i64 0), (.int .u64 0), (.int .u64 0), (.int .i64 0), (.int .i64 0)], none⟩, ⟨(some 8), .mv (.k (.int .i64 0)), none⟩] none)
 (.seq (.reg [⟨(some 9), .mv (.k (.int .i64 0)), none⟩] none)
 (.seq (.block 0 (.loop (.seq (.seq (.reg [⟨(some 10), .mv (.t 9), none⟩, ⟨(some 11), .mv (.t 2), none⟩, ⟨(some 12), .bin .lss (.t 10) (.t 11), none⟩, ⟨(some 13), .mv (.t 12), none⟩, ⟨(some 14), .fa 7 (.t 4), (some (13, true))⟩, ⟨(some 15), .ld none (.t 14), (some (13, true))⟩, ⟨(some 16), .bin .eql (.t 15) (.k (.int .i64 0)), (some (13, true))⟩, ⟨(some 17), .pick (.t 13) (.t 16) (.k (.bool false)), none⟩] none)
 (.cond (.t 17) .skip (.exit 0)))
 (.block 1 (.seq (.reg [⟨(some 19), .mv (.t 0), none⟩, ⟨(some 20), .ld (some 8) (.t 4), none⟩, ⟨(some 21), .call 85 (.k (.fn (.func 62) [] [])) [(.t 19), (.t 20)], none⟩, ⟨(some 18), .mv (.t 21), none⟩, ⟨(some 22), .ext (.t 18) 0, none⟩, ⟨(some 23), .ext (.t 18) 1, none⟩, ⟨(some 0), .mv (.t 22), none⟩, ⟨none, .st 8 (.t 4) (.t 23), none⟩] none)
 (.reg [⟨(some 24), .mv (.t 9), none⟩, ⟨(some 25), .bin .add (.t 24) (.k (.int .i64 1)), none⟩, ⟨(some 9), .mv (.t 25), none⟩] none))))))
 (.seq (.reg [⟨(some 26), .mv (.t 0), none⟩, ⟨(some 27), .ld (some 8) (.t 4), none⟩, ⟨(some 28), .mv (.t 9), none⟩, ⟨(some 6), .mv (.t 26), none⟩, ⟨none, .st 8 (.t 7) (.t 27), none⟩, ⟨(some 8), .mv (.t 28), none⟩] (some []))
 .ret))))⟩
/-- besom/deque.Items -/
def m37 : MFn := ⟨4, 76, [.tmp 8], (.seq (.reg [⟨(some 7), .box 71 (.t 3), none⟩, ⟨(some 8), .mv (.k .nils), none⟩] none)
 (.seq (.reg [⟨(some 14), .mv (.t 1), none⟩, ⟨(some 15), .mv (.t 2), none⟩, ⟨(some 16), .bld [(.int .i64 0), (.int .i64 0), (.int .i64 0), (.int .i64 0), (.int .u64 0), (.int .u64 0), (.int .i64 0), (.int .i64 0)] [(2, 1, (.t 14)), (3, 1, (.t 15))], none⟩, ⟨(some 9), .alloc 73 [(.int .i64 0), (.int .i64 0), (.int .i64 0), (.int .i64 0), (.int .u64 0), (.int .u64 0), (.int .i64 0), (.int .i64 0)], none⟩, ⟨none, .st 8 (.t 9) (.t 16), none⟩] none)
 (.seq (.reg [⟨(some 17), .mv (.t 0), none⟩, ⟨(some 18), .call 82 (.k (.fn (.func 64) [] [])) [(.t 9)], none⟩, ⟨(some 19), .call 83 (.k (.fn (.func 63) [] [])) [(.t 17), (.t 18)], none⟩, ⟨(some 20), .mv (.t 0), none⟩, ⟨(some 21), .call 85 (.k (.fn (.func 65) [] [])) [(.t 9)], none⟩, ⟨(some 22), .call 86 (.k (.fn (.func 63) [] [])) [(.t 20), (.t 21)], none⟩, ⟨(some 10), .mv (.t 19), none⟩, ⟨(some 11), .mv (.t 22), none⟩] none)
 (.seq (.seq (.reg [⟨(some 23), .fa 0 (.t 7), none⟩, ⟨(some 24), .ld none (.t 23), none⟩, ⟨(some 25), .bin .eql (.t 24) (.k (.int .i64 2)), none⟩, ⟨(some 26), .mv (.t 25), none⟩, ⟨(some 27), .fa 7 (.t 7), (some (26, true))⟩, ⟨(some 28), .ld none (.t 27), (some (26, true))⟩, ⟨(some 29), .bin .eql (.t 28) (.k (.int .i64 0)), (some (26, true))⟩, ⟨(some 30), .pick (.t 26) (.t 29) (.k (.bool false)), none⟩] none)
 (.cond (.t 30) (.seq (.reg [⟨(some 31), .fa 1 (.t 7), none⟩, ⟨(some 32), .ld none (.t 31), none⟩] none)
 (.block 0 (.seq (.seq (.reg [⟨(some 34), .bin .eql (.t 32) (.k (.int .i64 2)), none⟩, ⟨(some 33), .mv (.t 34), none⟩] none)
 (.cond (.t 33) .skip (.seq (.reg [⟨(some 35), .bin .eql (.t 32) (.k (.int .i64 4)), none⟩, ⟨(some 33), .mv (.t 35), none⟩] none)
 (.cond (.t 33) .skip (.reg [⟨(some 36), .bin .eql (.t 32) (.k (.int .i64 5)), none⟩, ⟨(some 33), .mv (.t 36), none⟩] none)))))
 (.cond (.t 33) (.reg [⟨(some 37), .mv (.t 11), none⟩, ⟨(some 38), .bin .add (.t 37) (.k (.int .u64 1)), none⟩, ⟨(some 11), .mv (.t 38), none⟩] none) (.seq (.reg [⟨(some 40), .bin .eql (.t 32) (.k (.int .i64 3)), none⟩, ⟨(some 39), .mv (.t 40), none⟩] none)
 (.cond (.t 39) (.seq (.reg [⟨(some 41), .fa 5 (.t 7), none⟩, ⟨(some 42), .ld none (.t 41), none⟩, ⟨(some 43), .fa 4 (.t 7), none⟩, ⟨(some 44), .ld none (.t 43), none⟩, ⟨(some 45), .bin .sub (.t 44) (.k (.int .u64 1)), none⟩, ⟨(some 46), .bin .eql (.t 42) (.t 45), none⟩] none)
 (.cond (.t 46) (.reg [⟨(some 47), .mv (.t 11), none⟩, ⟨(some 48), .bin .add (.t 47) (.k (.int .u64 1)), none⟩, ⟨(some 11), .mv (.t 48), none⟩] none) .skip)) .skip)))))) .skip))
 (.seq (.seq (.reg [⟨(some 49), .mv (.t 11), none⟩, ⟨(some 50), .mv (.t 10), none⟩, ⟨(some 51), .call 115 (.k (.fn (.func 66) [] [])) [(.t 49), (.t 50)], none⟩, ⟨(some 52), .un .not (.t 51), none⟩, ⟨(some 53), .mv (.t 52), none⟩, ⟨(some 54), .mv (.t 11), (some (53, false))⟩, ⟨(some 55), .mv (.t 10), (some (53, false))⟩, ⟨(some 56), .bin .sub (.t 54) (.t 55), (some (53, false))⟩, ⟨(some 57), .call 121 (.k (.fn (.func 67) [] [])) [(.t 9)], (some (53, false))⟩, ⟨(some 58), .mn (.t 57) (.k (.int .u64 64)), (some (53, false))⟩, ⟨(some 59), .bin .gtr (.t 56) (.t 58), (some (53, false))⟩, ⟨(some 60), .pick (.t 53) (.k (.bool true)) (.t 59), none⟩] none)
 (.cond (.t 60) (.seq (.reg [⟨(some 8), .mv (.k .nils), none⟩] none)
 .ret) .skip))
 (.seq (.reg [⟨(some 12), .mv (.k .nils), none⟩] none)
 (.seq (.seq (.reg [⟨(some 61), .mv (.t 10), none⟩, ⟨(some 13), .mv (.t 61), none⟩] none)
 (.block 1 (.loop (.seq (.seq (.reg [⟨(some 62), .mv (.t 13), none⟩, ⟨(some 63), .mv (.t 11), none⟩, ⟨(some 64), .bin .neq (.t 62) (.t 63), none⟩] none)
 (.cond (.t 64) .skip (.exit 1)))
 (.seq (.block 2 (.reg [⟨(some 67), .mv (.t 12), none⟩, ⟨(some 68), .mv (.t 0), none⟩, ⟨(some 69), .mv (.t 13), none⟩, ⟨(some 70), .call 134 (.k (.fn (.func 68) [] [])) [(.t 9), (.t 69)], none⟩, ⟨(some 71), .call 135 (.k (.fn (.func 63) [] [])) [(.t 68), (.t 70)], none⟩, ⟨(some 72), .conv .i64 (.t 71), none⟩, ⟨(some 73), .bslt 1 [(.t 72)], none⟩, ⟨(some 74), .app 138 1 8 (.t 67) (.t 73), none⟩, ⟨(some 12), .mv (.t 74), none⟩] none))
 (.reg [⟨(some 65), .mv (.t 13), none⟩, ⟨(some 66), .bin .add (.t 65) (.k (.int .u64 1)), none⟩, ⟨(some 13), .mv (.t 66), none⟩] none))))))
 (.seq (.reg [⟨(some 75), .mv (.t 12), none⟩, ⟨(some 8), .mv (.t 75), none⟩] none)
 .ret))))))))⟩
/-- (*besom/besomlaw07.World).held -/
def m38 : MFn := ⟨1, 60, [.tmp 2], (.seq (.reg [⟨(some 2), .mv (.k .nils), none⟩] none)
 (.seq (.reg [⟨(some 7), .mv (.t 0), none⟩, ⟨(some 8), .nilc (.t 7), none⟩, ⟨(some 9), .fa 2 (.t 8), none⟩, ⟨(some 10), .ld (some 8) (.t 9), none⟩, ⟨(some 3), .alloc 67 [(.int .i64 0), (.int .i64 0), (.int .i64 0), (.int .i64 0), (.int .u64 0), (.int .u64 0), (.int .i64 0), (.int .i64 0)], none⟩, ⟨none, .st 8 (.t 3) (.t 10), none⟩] none)
 (.seq (.seq (.reg [⟨(some 11), .fa 0 (.t 3), none⟩, ⟨(some 12), .ld none (.t 11), none⟩, ⟨(some 13), .bin .neq (.t 12) (.k (.int .i64 2)), none⟩, ⟨(some 14), .mv (.t 13), none⟩, ⟨(some 15), .fa 7 (.t 3), (some (14, false))⟩, ⟨(some 16), .ld none (.t 15), (some (14, false))⟩, ⟨(some 17), .bin .neq (.t 16) (.k (.int .i64 0)), (some (14, false))⟩, ⟨(some 18), .pick (.t 14) (.k (.bool true)) (.t 17), none⟩] none)
 (.cond (.t 18) (.seq (.reg [⟨(some 2), .mv (.k .nils), none⟩] none)
 .ret) .skip))
 (.seq (.seq (.reg [⟨(some 19), .fa 1 (.t 3), none⟩, ⟨(some 20), .ld none (.t 19), none⟩, ⟨(some 21), .bin .eql (.t 20) (.k (.int .i64 6)), none⟩] none)
 (.cond (.t 21) (.seq (.reg [⟨(some 22), .fa 6 (.t 3), none⟩, ⟨(some 23), .ld none (.t 22), none⟩, ⟨(some 24), .bslt 1 [(.t 23)], none⟩, ⟨(some 2), .mv (.t 24), none⟩] none)
 .ret) .skip))
 (.seq (.seq (.reg [⟨(some 25), .fa 1 (.t 3), none⟩, ⟨(some 26), .ld none (.t 25), none⟩, ⟨(some 27), .bin .eql (.t 26) (.k (.int .i64 3)), none⟩, ⟨(some 28), .mv (.t 27), none⟩, ⟨(some 29), .fa 5 (.t 3), (some (28, true))⟩, ⟨(some 30), .ld none (.t 29), (some (28, true))⟩, ⟨(some 31), .fa 4 (.t 3), (some (28, true))⟩, ⟨(some 32), .ld none (.t 31), (some (28, true))⟩, ⟨(some 33), .bin .sub (.t 32) (.k (.int .u64 1)), (some (28, true))⟩, ⟨(some 34), .bin .neq (.t 30) (.t 33), (some (28, true))⟩, ⟨(some 35), .pick (.t 28) (.t 34) (.k (.bool false)), none⟩] none)
 (.cond (.t 35) (.seq (.reg [⟨(some 37), .mv (.t 0), none⟩, ⟨(some 38), .nilc (.t 37), none⟩, ⟨(some 39), .fa 0 (.t 38), none⟩, ⟨(some 40), .ld none (.t 39), none⟩, ⟨(some 41), .fa 4 (.t 3), none⟩, ⟨(some 42), .ld none (.t 41), none⟩, ⟨(some 43), .bin .sub (.t 42) (.k (.int .u64 1)), none⟩, ⟨(some 44), .mv (.t 0), none⟩, ⟨(some 45), .nilc (.t 44), none⟩, ⟨(some 46), .fa 1 (.t 45), none⟩, ⟨(some 47), .ld none (.t 46), none⟩, ⟨(some 48), .conv .u64 (.t 47), none⟩, ⟨(some 49), .bin .rem (.t 43) (.t 48), none⟩, ⟨(some 50), .conv .i64 (.t 49), none⟩, ⟨(some 51), .bin .add (.k (.int .i64 2)) (.t 50), none⟩, ⟨(some 52), .bld [(.int .i64 0), (.int .i64 0), (.int .u64 0), (.int .u64 0)] [(0, 1, (.k (.int .i64 1))), (1, 1, (.t 51))], none⟩, ⟨(some 53), .call 117 (.k (.fn (.func 69) [] [])) [(.t 40), (.t 52)], none⟩, ⟨(some 36), .mv (.t 53), none⟩, ⟨(some 54), .ext (.t 36) 0, none⟩, ⟨(some 55), .ext (.t 36) 1, none⟩, ⟨(some 56), .ext (.t 36) 2, none⟩, ⟨(some 4), .mv (.t 54), none⟩, ⟨(some 5), .mv (.t 55), none⟩, ⟨(some 6), .mv (.t 56), none⟩] (some [(3, 5), (3, 10), (5, 10)]))
 (.seq (.reg [⟨(some 57), .mv (.t 5), none⟩, ⟨(some 58), .conv .i64 (.t 57), none⟩, ⟨(some 59), .bslt 1 [(.t 58)], none⟩, ⟨(some 2), .mv (.t 59), none⟩] none)
 .ret)) .skip))
 (.seq (.reg [⟨(some 2), .mv (.k .nils), none⟩] none)
 .ret))))))⟩
/-- besom/chain.Lay -/
def m39 : MFn := ⟨4, 49, [.tmp 8], (.seq (.reg [⟨(some 8), .mv (.k .nils), none⟩] none)
 (.seq (.seq (.reg [⟨(some 12), .mv (.t 3), none⟩, ⟨(some 13), .len (.t 12), none⟩, ⟨(some 14), .mv (.k (.int .i64 0)), none⟩] none)
 (.block 0 (.loop (.seq (.reg [⟨(some 15), .bin .lss (.t 14) (.t 13), none⟩] none)
 (.seq (.cond (.t 15) .skip (.exit 0))
 (.seq (.block 1 (.seq (.reg [⟨(some 16), .mv (.t 14), none⟩, ⟨(some 9), .mv (.t 16), none⟩] none)
 (.seq (.reg [⟨(some 10), .mv (.k (.int .i64 0)), none⟩] none)
 (.seq (.seq (.reg [⟨(some 17), .mv (.t 9), none⟩, ⟨(some 18), .bin .add (.t 17) (.k (.int .i64 1)), none⟩, ⟨(some 19), .mv (.t 3), none⟩, ⟨(some 20), .len (.t 19), none⟩, ⟨(some 21), .bin .lss (.t 18) (.t 20), none⟩] none)
 (.cond (.t 21) (.reg [⟨(some 22), .mv (.t 3), none⟩, ⟨(some 23), .mv (.t 9), none⟩, ⟨(some 24), .bin .add (.t 23) (.k (.int .i64 1)), none⟩, ⟨(some 25), .ixs 1 (.t 22) (.t 24), none⟩, ⟨(some 26), .ld none (.t 25), none⟩, ⟨(some 10), .mv (.t 26), none⟩] none) .skip))
 (.reg [⟨(some 27), .mv (.t 0), none⟩, ⟨(some 28), .mv (.t 2), none⟩, ⟨(some 29), .mv (.t 3), none⟩, ⟨(some 30), .mv (.t 9), none⟩, ⟨(some 31), .ixs 1 (.t 29) (.t 30), none⟩, ⟨(some 32), .ld none (.t 31), none⟩, ⟨(some 33), .bin .add (.t 28) (.t 32), none⟩, ⟨(some 34), .mv (.t 10), none⟩, ⟨(some 35), .conv .u64 (.t 34), none⟩, ⟨(some 36), .call 100 (.k (.fn (.func 70) [] [])) [(.t 27), (.t 33), (.t 35)], none⟩, ⟨(some 0), .mv (.t 36), none⟩] none)))))
 (.reg [⟨(some 37), .bin .add (.t 14) (.k (.int .i64 1)), none⟩, ⟨(some 14), .mv (.t 37), none⟩] none)))))))
 (.seq (.reg [⟨(some 11), .mv (.k (.int .i64 0)), none⟩] none)
 (.seq (.seq (.reg [⟨(some 38), .mv (.t 3), none⟩, ⟨(some 39), .len (.t 38), none⟩, ⟨(some 40), .bin .gtr (.t 39) (.k (.int .i64 0)), none⟩] none)
 (.cond (.t 40) (.reg [⟨(some 41), .mv (.t 3), none⟩, ⟨(some 42), .ixs 1 (.t 41) (.k (.int .i64 0)), none⟩, ⟨(some 43), .ld none (.t 42), none⟩, ⟨(some 11), .mv (.t 43), none⟩] none) .skip))
 (.seq (.reg [⟨(some 44), .mv (.t 0), none⟩, ⟨(some 45), .mv (.t 1), none⟩, ⟨(some 46), .mv (.t 11), none⟩, ⟨(some 47), .call 111 (.k (.fn (.func 45) [] [])) [(.k (.int .u64 0)), (.t 46)], none⟩, ⟨(some 48), .call 112 (.k (.fn (.func 70) [] [])) [(.t 44), (.t 45), (.t 47)], none⟩, ⟨(some 8), .mv (.t 48), none⟩] none)
 .ret)))))⟩
/-- besom/besomlaw08.run -/
def m40 : MFn := ⟨3, 29, [.tmp 6, .cell 7 (some 8), .tmp 8], (.seq (.reg [⟨(some 4), .box 68 (.t 1), none⟩, ⟨(some 6), .mv (.k .nils), none⟩, ⟨(some 7), .alloc 71 [(.int .i64 0), (.int .i64 0), (.int .i64 0), (.int .i64 0), (.int .u64 0), (.int .i64 0), (.int .i64 0), (.int .i64 0)], none⟩, ⟨(some 8), .mv (.k (.int .i64 0)), none⟩] none)
 (.seq (.reg [⟨(some 9), .mv (.k (.int .i64 0)), none⟩] none)
 (.seq (.block 0 (.loop (.seq (.seq (.reg [⟨(some 10), .mv (.t 9), none⟩, ⟨(some 11), .mv (.t 2), none⟩, ⟨(some 12), .bin .lss (.t 10) (.t 11), none⟩, ⟨(some 13), .mv (.t 12), none⟩, ⟨(some 14), .fa 7 (.t 4), (some (13, true))⟩, ⟨(some 15), .ld none (.t 14), (some (13, true))⟩, ⟨(some 16), .bin .eql (.t 15) (.k (.int .i64 0)), (some (13, true))⟩, ⟨(some 17), .pick (.t 13) (.t 16) (.k (.bool false)), none⟩] none)
 (.cond (.t 17) .skip (.exit 0)))
 (.block 1 (.seq (.reg [⟨(some 19), .mv (.t 0), none⟩, ⟨(some 20), .ld (some 8) (.t 4), none⟩, ⟨(some 21), .call 85 (.k (.fn (.func 42) [] [])) [(.t 19), (.t 20)], none⟩, ⟨(some 18), .mv (.t 21), none⟩, ⟨(some 22), .ext (.t 18) 0, none⟩, ⟨(some 23), .ext (.t 18) 1, none⟩, ⟨(some 0), .mv (.t 22), none⟩, ⟨none, .st 8 (.t 4) (.t 23), none⟩] none)
 (.reg [⟨(some 24), .mv (.t 9), none⟩, ⟨(some 25), .bin .add (.t 24) (.k (.int .i64 1)), none⟩, ⟨(some 9), .mv (.t 25), none⟩] none))))))
 (.seq (.reg [⟨(some 26), .mv (.t 0), none⟩, ⟨(some 27), .ld (some 8) (.t 4), none⟩, ⟨(some 28), .mv (.t 9), none⟩, ⟨(some 6), .mv (.t 26), none⟩, ⟨none, .st 8 (.t 7) (.t 27), none⟩, ⟨(some 8), .mv (.t 28), none⟩] (some []))
 .ret))))⟩
/-- besom/chain.Start -/
def m41 : MFn := ⟨4, 14, [.cell 8 (some 8)], (.seq (.reg [⟨(some 8), .alloc 72 [(.int .i64 0), (.int .i64 0), (.int .i64 0), (.int .i64 0), (.int .u64 0), (.int .i64 0), (.int .i64 0), (.int .i64 0)], none⟩] none)
 (.seq (.reg [⟨(some 9), .mv (.t 0), none⟩, ⟨(some 10), .mv (.t 1), none⟩, ⟨(some 11), .mv (.t 2), none⟩, ⟨(some 12), .mv (.t 3), none⟩, ⟨(some 13), .bld [(.int .i64 0), (.int .i64 0), (.int .i64 0), (.int .i64 0), (.int .u64 0), (.int .i64 0), (.int .i64 0), (.int .i64 0)] [(0, 1, (.t 9)), (2, 1, (.t 10)), (3, 1, (.t 11)), (5, 1, (.t 12))], none⟩, ⟨none, .st 8 (.t 8) (.t 13), none⟩] none)
 .ret))⟩
/-- besom/chain.Step -/
def m42 : MFn := ⟨2, 53, [.tmp 4, .cell 5 (some 8)], (.seq (.reg [⟨(some 3), .box 67 (.t 1), none⟩, ⟨(some 4), .mv (.k .nils), none⟩, ⟨(some 5), .alloc 69 [(.int .i64 0), (.int .i64 0), (.int .i64 0), (.int .i64 0), (.int .u64 0), (.int .i64 0), (.int .i64 0), (.int .i64 0)], none⟩] none)
 (.seq (.reg [⟨(some 7), .mkf (.func 71) [(.t 3)] [], none⟩, ⟨(some 8), .mkf (.func 72) [(.t 3)] [], none⟩, ⟨(some 9), .mkf (.func 73) [(.t 3)] [], none⟩, ⟨(some 10), .bld [.nilfn, .nilfn, .nilfn] [(0, 1, (.t 7)), (1, 1, (.t 8)), (2, 1, (.t 9))], none⟩, ⟨(some 6), .alloc 70 [.nilfn, .nilfn, .nilfn], none⟩, ⟨none, .st 3 (.t 6) (.t 10), none⟩] none)
 (.seq (.seq (.reg [⟨(some 11), .fa 0 (.t 3), none⟩, ⟨(some 12), .ld none (.t 11), none⟩, ⟨(some 13), .bin .eql (.t 12) (.k (.int .i64 2)), none⟩] none)
 (.cond (.t 13) (.reg [⟨(some 14), .mkf (.func 74) [(.t 3)] [], none⟩, ⟨(some 15), .ixk 3 1 (.t 6) 1, none⟩, ⟨none, .st 1 (.t 15) (.t 14), none⟩] none) .skip))
 (.seq (.seq (.reg [⟨(some 16), .fa 7 (.t 3), none⟩, ⟨(some 17), .ld none (.t 16), none⟩, ⟨(some 18), .bin .neq (.t 17) (.k (.int .i64 0)), none⟩, ⟨(some 19), .mv (.t 18), none⟩, ⟨(some 20), .fa 0 (.t 3), (some (19, false))⟩, ⟨(some 21), .ld none (.t 20), (some (19, false))⟩, ⟨(some 22), .bin .neq (.t 21) (.k (.int .i64 1)), (some (19, false))⟩, ⟨(some 23), .mv (.t 22), (some (19, false))⟩, ⟨(some 24), .fa 0 (.t 3), (some (23, true))⟩, ⟨(some 25), .ld none (.t 24), (some (23, true))⟩, ⟨(some 26), .bin .neq (.t 25) (.k (.int .i64 2)), (some (23, true))⟩, ⟨(some 27), .pick (.t 23) (.t 26) (.k (.bool false)), (some (19, false))⟩, ⟨(some 28), .pick (.t 19) (.k (.bool true)) (.t 27), none⟩, ⟨(some 29), .mv (.t 28), none⟩, ⟨(some 30), .fa 1 (.t 3), (some (29, false))⟩, ⟨(some 31), .ld none (.t 30), (some (29, false))⟩, ⟨(some 32), .bin .lss (.t 31) (.k (.int .i64 0)), (some (29, false))⟩, ⟨(some 33), .pick (.t 29) (.k (.bool true)) (.t 32), none⟩, ⟨(some 34), .mv (.t 33), none⟩, ⟨(some 35), .fa 1 (.t 3), (some (34, false))⟩, ⟨(some 36), .ld none (.t 35), (some (34, false))⟩, ⟨(some 37), .bin .geq (.t 36) (.k (.int .i64 3)), (some (34, false))⟩, ⟨(some 38), .pick (.t 34) (.k (.bool true)) (.t 37), none⟩] none)
 (.cond (.t 38) (.seq (.reg [⟨(some 39), .mv (.t 0), none⟩, ⟨(some 40), .ld (some 8) (.t 3), none⟩, ⟨(some 4), .mv (.t 39), none⟩, ⟨none, .st 8 (.t 5) (.t 40), none⟩] (some []))
 .ret) .skip))
 (.seq (.reg [⟨(some 41), .fa 1 (.t 3), none⟩, ⟨(some 42), .ld none (.t 41), none⟩, ⟨(some 43), .ixa 3 1 (.t 6) (.t 42), none⟩, ⟨(some 44), .ld none (.t 43), none⟩, ⟨(some 45), .mv (.t 0), none⟩, ⟨(some 46), .call 110 (.t 44) [(.t 45)], none⟩, ⟨(some 0), .mv (.t 46), none⟩] none)
 (.seq (.reg [⟨(some 47), .fa 1 (.t 3), none⟩, ⟨(some 48), .ld none (.t 47), none⟩, ⟨(some 49), .bin .add (.t 48) (.k (.int .i64 1)), none⟩, ⟨(some 50), .fa 1 (.t 3), none⟩, ⟨none, .st 1 (.t 50) (.t 49), none⟩] none)
 (.seq (.reg [⟨(some 51), .mv (.t 0), none⟩, ⟨(some 52), .ld (some 8) (.t 3), none⟩, ⟨(some 4), .mv (.t 51), none⟩, ⟨none, .st 8 (.t 5) (.t 52), none⟩] (some []))
 .ret)))))))⟩
/-- besom/besomlaw08.ints -/
def m43 : MFn := ⟨2, 26, [.tmp 4], (.seq (.reg [⟨(some 4), .mv (.k (.bool false)), none⟩] none)
 (.seq (.seq (.reg [⟨(some 6), .mv (.t 0), none⟩, ⟨(some 7), .len (.t 6), none⟩, ⟨(some 8), .mv (.t 1), none⟩, ⟨(some 9), .len (.t 8), none⟩, ⟨(some 10), .bin .neq (.t 7) (.t 9), none⟩] none)
 (.cond (.t 10) (.seq (.reg [⟨(some 4), .mv (.k (.bool false)), none⟩] none)
 .ret) .skip))
 (.seq (.seq (.reg [⟨(some 5), .mv (.k (.int .i64 0)), none⟩] none)
 (.block 0 (.loop (.seq (.seq (.reg [⟨(some 11), .mv (.t 5), none⟩, ⟨(some 12), .mv (.t 0), none⟩, ⟨(some 13), .len (.t 12), none⟩, ⟨(some 14), .bin .lss (.t 11) (.t 13), none⟩] none)
 (.cond (.t 14) .skip (.exit 0)))
 (.seq (.block 1 (.seq (.reg [⟨(some 17), .mv (.t 0), none⟩, ⟨(some 18), .mv (.t 5), none⟩, ⟨(some 19), .ixs 1 (.t 17) (.t 18), none⟩, ⟨(some 20), .ld none (.t 19), none⟩, ⟨(some 21), .mv (.t 1), none⟩, ⟨(some 22), .mv (.t 5), none⟩, ⟨(some 23), .ixs 1 (.t 21) (.t 22), none⟩, ⟨(some 24), .ld none (.t 23), none⟩, ⟨(some 25), .bin .neq (.t 20) (.t 24), none⟩] (some [(2, 6), (3, 6), (2, 7), (3, 7)]))
 (.cond (.t 25) (.seq (.reg [⟨(some 4), .mv (.k (.bool false)), none⟩] none)
 .ret) .skip)))
 (.reg [⟨(some 15), .mv (.t 5), none⟩, ⟨(some 16), .bin .add (.t 15) (.k (.int .i64 1)), none⟩, ⟨(some 5), .mv (.t 16), none⟩] none))))))
 (.seq (.reg [⟨(some 4), .mv (.k (.bool true)), none⟩] none)
 .ret))))⟩
/-- besom/chain.List -/
def m44 : MFn := ⟨4, 35, [.tmp 8], (.seq (.reg [⟨(some 8), .mv (.k .nils), none⟩] none)
 (.seq (.reg [⟨(some 9), .mv (.k .nils), none⟩] none)
 (.seq (.seq (.reg [⟨(some 11), .mv (.t 0), none⟩, ⟨(some 12), .mv (.t 1), none⟩, ⟨(some 13), .call 77 (.k (.fn (.func 75) [] [])) [(.t 11), (.t 12)], none⟩, ⟨(some 14), .call 78 (.k (.fn (.func 46) [] [])) [(.t 13)], none⟩, ⟨(some 10), .mv (.t 14), none⟩] none)
 (.block 0 (.loop (.seq (.seq (.reg [⟨(some 15), .mv (.t 10), none⟩, ⟨(some 16), .bin .neq (.t 15) (.k (.int .i64 0)), none⟩, ⟨(some 17), .mv (.t 16), none⟩, ⟨(some 18), .mv (.t 9), (some (17, true))⟩, ⟨(some 19), .len (.t 18), (some (17, true))⟩, ⟨(some 20), .mv (.t 3), (some (17, true))⟩, ⟨(some 21), .mn (.t 20) (.k (.int .i64 1000)), (some (17, true))⟩, ⟨(some 22), .bin .lss (.t 19) (.t 21), (some (17, true))⟩, ⟨(some 23), .pick (.t 17) (.t 22) (.k (.bool false)), none⟩] none)
 (.cond (.t 23) .skip (.exit 0)))
 (.seq (.block 1 (.reg [⟨(some 30), .mv (.t 9), none⟩, ⟨(some 31), .mv (.t 10), none⟩, ⟨(some 32), .bslt 1 [(.t 31)], none⟩, ⟨(some 33), .app 97 1 8 (.t 30) (.t 32), none⟩, ⟨(some 9), .mv (.t 33), none⟩] none))
 (.reg [⟨(some 24), .mv (.t 0), none⟩, ⟨(some 25), .mv (.t 2), none⟩, ⟨(some 26), .mv (.t 10), none⟩, ⟨(some 27), .bin .add (.t 25) (.t 26), none⟩, ⟨(some 28), .call 92 (.k (.fn (.func 75) [] [])) [(.t 24), (.t 27)], none⟩, ⟨(some 29), .conv .i64 (.t 28), none⟩, ⟨(some 10), .mv (.t 29), none⟩] none))))))
 (.seq (.reg [⟨(some 34), .mv (.t 9), none⟩, ⟨(some 8), .mv (.t 34), none⟩] none)
 .ret))))⟩
/-- besom/chain.Pack -/
def m45 : MFn := ⟨2, 11, [.tmp 4], (.seq (.reg [⟨(some 4), .mv (.k (.int .u64 0)), none⟩] none)
 (.seq (.reg [⟨(some 5), .mv (.t 0), none⟩, ⟨(some 6), .bin .shl (.t 5) (.k (.int .u64 32)), none⟩, ⟨(some 7), .mv (.t 1), none⟩, ⟨(some 8), .conv .u64 (.t 7), none⟩, ⟨(some 9), .bin .and (.t 8) (.k (.int .u64 4294967295)), none⟩, ⟨(some 10), .bin .or (.t 6) (.t 9), none⟩, ⟨(some 4), .mv (.t 10), none⟩] none)
 .ret))⟩
/-- besom/chain.Node -/
def m46 : MFn := ⟨1, 6, [.tmp 2], (.seq (.reg [⟨(some 2), .mv (.k (.int .i64 0)), none⟩] none)
 (.seq (.reg [⟨(some 3), .mv (.t 0), none⟩, ⟨(some 4), .bin .and (.t 3) (.k (.int .u64 4294967295)), none⟩, ⟨(some 5), .conv .i64 (.t 4), none⟩, ⟨(some 2), .mv (.t 5), none⟩] none)
 .ret))⟩
/-- slices.Equal[besom/bag.Bag,int] -/
def m47 : MFn := ⟨2, 26, [.tmp 4], (.seq (.reg [⟨(some 4), .mv (.k (.bool false)), none⟩] none)
 (.seq (.seq (.reg [⟨(some 6), .mv (.t 0), none⟩, ⟨(some 7), .len (.t 6), none⟩, ⟨(some 8), .mv (.t 1), none⟩, ⟨(some 9), .len (.t 8), none⟩, ⟨(some 10), .bin .neq (.t 7) (.t 9), none⟩] none)
 (.cond (.t 10) (.seq (.reg [⟨(some 4), .mv (.k (.bool false)), none⟩] none)
 .ret) .skip))
 (.seq (.seq (.reg [⟨(some 11), .mv (.t 0), none⟩, ⟨(some 12), .len (.t 11), none⟩, ⟨(some 13), .mv (.k (.int .i64 0)), none⟩] none)
 (.block 0 (.loop (.seq (.reg [⟨(some 14), .bin .lss (.t 13) (.t 12), none⟩] none)
 (.seq (.cond (.t 14) .skip (.exit 0))
 (.seq (.block 1 (.seq (.reg [⟨(some 15), .mv (.t 13), none⟩, ⟨(some 5), .mv (.t 15), none⟩] none)
 (.seq (.reg [⟨(some 16), .mv (.t 0), none⟩, ⟨(some 17), .mv (.t 5), none⟩, ⟨(some 18), .ixs 1 (.t 16) (.t 17), none⟩, ⟨(some 19), .ld none (.t 18), none⟩, ⟨(some 20), .mv (.t 1), none⟩, ⟨(some 21), .mv (.t 5), none⟩, ⟨(some 22), .ixs 1 (.t 20) (.t 21), none⟩, ⟨(some 23), .ld none (.t 22), none⟩, ⟨(some 24), .bin .neq (.t 19) (.t 23), none⟩] (some [(2, 6), (3, 6), (2, 7), (3, 7)]))
 (.cond (.t 24) (.seq (.reg [⟨(some 4), .mv (.k (.bool false)), none⟩] none)
 .ret) .skip))))
 (.reg [⟨(some 25), .bin .add (.t 13) (.k (.int .i64 1)), none⟩, ⟨(some 13), .mv (.t 25), none⟩] none)))))))
 (.seq (.reg [⟨(some 4), .mv (.k (.bool true)), none⟩] none)
 .ret))))⟩
/-- besom/bag.sorted[int,besom/bag.Bag] -/
def m48 : MFn := ⟨1, 9, [.tmp 2], (.seq (.reg [⟨(some 2), .mv (.k .nils), none⟩] none)
 (.seq (.reg [⟨(some 4), .mv (.t 0), none⟩, ⟨(some 5), .call 69 (.k (.fn (.func 55) [] [])) [(.t 4)], none⟩, ⟨(some 3), .mv (.t 5), none⟩] none)
 (.seq (.reg [⟨(some 6), .mv (.t 3), none⟩, ⟨(some 7), .call 71 (.k (.fn (.func 76) [] [])) [(.t 6)], none⟩] none)
 (.seq (.reg [⟨(some 8), .mv (.t 3), none⟩, ⟨(some 2), .mv (.t 8), none⟩] none)
 .ret))))⟩
/-- slices.DeleteFunc[besom/bag.Bag,int] -/
def m49 : MFn := ⟨2, 42, [.tmp 4], (.seq (.reg [⟨(some 4), .mv (.k .nils), none⟩] none)
 (.seq (.reg [⟨(some 8), .mv (.t 0), none⟩, ⟨(some 9), .mv (.t 1), none⟩, ⟨(some 10), .call 74 (.k (.fn (.func 77) [] [])) [(.t 8), (.t 9)], none⟩, ⟨(some 5), .mv (.t 10), none⟩] none)
 (.seq (.seq (.reg [⟨(some 11), .mv (.t 5), none⟩, ⟨(some 12), .bin .eql (.t 11) (.k (.int .i64 (-1))), none⟩] none)
 (.cond (.t 12) (.seq (.reg [⟨(some 13), .mv (.t 0), none⟩, ⟨(some 4), .mv (.t 13), none⟩] none)
 .ret) .skip))
 (.seq (.seq (.reg [⟨(some 14), .mv (.t 5), none⟩, ⟨(some 15), .bin .add (.t 14) (.k (.int .i64 1)), none⟩, ⟨(some 6), .mv (.t 15), none⟩] none)
 (.block 0 (.loop (.seq (.seq (.reg [⟨(some 16), .mv (.t 6), none⟩, ⟨(some 17), .mv (.t 0), none⟩, ⟨(some 18), .len (.t 17), none⟩, ⟨(some 19), .bin .lss (.t 16) (.t 18), none⟩] none)
 (.cond (.t 19) .skip (.exit 0)))
 (.seq (.block 1 (.seq (.reg [⟨(some 22), .mv (.t 0), none⟩, ⟨(some 23), .mv (.t 6), none⟩, ⟨(some 24), .ixs 1 (.t 22) (.t 23), none⟩, ⟨(some 25), .ld none (.t 24), none⟩, ⟨(some 7), .mv (.t 25), none⟩] none)
 (.seq (.reg [⟨(some 26), .mv (.t 1), none⟩, ⟨(some 27), .mv (.t 7), none⟩, ⟨(some 28), .call 92 (.t 26) [(.t 27)], none⟩, ⟨(some 29), .un .not (.t 28), none⟩] none)
 (.cond (.t 29) (.seq (.reg [⟨(some 30), .mv (.t 0), none⟩, ⟨(some 31), .mv (.t 5), none⟩, ⟨(some 32), .mv (.t 7), none⟩, ⟨(some 33), .ixs 1 (.t 30) (.t 31), none⟩, ⟨none, .st 1 (.t 33) (.t 32), none⟩] none)
 (.reg [⟨(some 34), .mv (.t 5), none⟩, ⟨(some 35), .bin .add (.t 34) (.k (.int .i64 1)), none⟩, ⟨(some 5), .mv (.t 35), none⟩] none)) .skip))))
 (.reg [⟨(some 20), .mv (.t 6), none⟩, ⟨(some 21), .bin .add (.t 20) (.k (.int .i64 1)), none⟩, ⟨(some 6), .mv (.t 21), none⟩] none))))))
 (.seq (.reg [⟨(some 36), .mv (.t 0), none⟩, ⟨(some 37), .mv (.t 5), none⟩, ⟨(some 38), .sll 1 (.t 36) (some (.t 37)) none, none⟩, ⟨none, .clr 1 (.int .i64 0) (.t 38), none⟩] none)
 (.seq (.reg [⟨(some 39), .mv (.t 0), none⟩, ⟨(some 40), .mv (.t 5), none⟩, ⟨(some 41), .sll 1 (.t 39) none (some (.t 40)), none⟩, ⟨(some 4), .mv (.t 41), none⟩] none)
 .ret))))))⟩
/-- besom/bag.Less$1 -/
def m50 : MFn := ⟨2, 12, [.tmp 3], (.seq (.reg [⟨(some 3), .mv (.k (.bool false)), none⟩] none)
 (.seq (.seq (.reg [⟨(some 4), .ld none (.t 1), none⟩, ⟨(some 5), .mv (.t 0), none⟩, ⟨(some 6), .lkpi (.t 4) (.t 5), none⟩, ⟨(some 7), .bin .eql (.t 6) (.k (.int .i64 0)), none⟩] none)
 (.cond (.t 7) (.seq (.reg [⟨(some 3), .mv (.k (.bool false)), none⟩] none)
 .ret) .skip))
 (.seq (.reg [⟨(some 8), .ld none (.t 1), none⟩, ⟨(some 9), .mv (.t 0), none⟩, ⟨(some 10), .lkpi (.t 8) (.t 9), none⟩, ⟨(some 11), .bin .sub (.t 10) (.k (.int .i64 1)), none⟩, ⟨none, .updi (.t 8) (.t 9) (.t 11), none⟩] none)
 (.seq (.reg [⟨(some 3), .mv (.k (.bool true)), none⟩] none)
 .ret))))⟩
/-- besom/set.Of -/
def m51 : MFn := ⟨1, 17, [.tmp 2], (.seq (.reg [⟨(some 2), .mv (.k (.int .u64 0)), none⟩] none)
 (.seq (.reg [⟨(some 3), .mv (.k (.int .u64 0)), none⟩] none)
 (.seq (.seq (.reg [⟨(some 6), .mv (.t 0), none⟩, ⟨(some 7), .len (.t 6), none⟩, ⟨(some 8), .mv (.k (.int .i64 0)), none⟩] none)
 (.block 0 (.loop (.seq (.reg [⟨(some 9), .bin .lss (.t 8) (.t 7), none⟩] none)
 (.seq (.cond (.t 9) .skip (.exit 0))
 (.seq (.block 1 (.seq (.reg [⟨(some 10), .ixs 1 (.t 6) (.t 8), none⟩, ⟨(some 11), .ld none (.t 10), none⟩, ⟨(some 5), .mv (.t 11), none⟩] none)
 (.reg [⟨(some 12), .mv (.t 3), none⟩, ⟨(some 13), .mv (.t 5), none⟩, ⟨(some 14), .call 78 (.k (.fn (.func 78) [] [])) [(.t 12), (.t 13)], none⟩, ⟨(some 3), .mv (.t 14), none⟩] none)))
 (.reg [⟨(some 15), .bin .add (.t 8) (.k (.int .i64 1)), none⟩, ⟨(some 8), .mv (.t 15), none⟩] none)))))))
 (.seq (.reg [⟨(some 16), .mv (.t 3), none⟩, ⟨(some 2), .mv (.t 16), none⟩] none)
 .ret))))⟩
/-- besom/set.Count -/
def m52 : MFn := ⟨1, 5, [.tmp 2], (.seq (.reg [⟨(some 2), .mv (.k (.int .i64 0)), none⟩] none)
 (.seq (.reg [⟨(some 3), .mv (.t 0), none⟩, ⟨(some 4), .call 68 (.k (.fn (.func 79) [] [])) [(.t 3)], none⟩, ⟨(some 2), .mv (.t 4), none⟩] none)
 .ret))⟩
/-- besom/besomref02.Has -/
def m53 : MFn := ⟨2, 15, [.tmp 4], (.seq (.reg [⟨(some 4), .mv (.k (.bool false)), none⟩] none)
 (.seq (.reg [⟨(some 5), .mv (.t 1), none⟩, ⟨(some 6), .call 70 (.k (.fn (.func 80) [] [])) [(.t 5)], none⟩, ⟨(some 7), .mv (.t 6), none⟩, ⟨(some 8), .mv (.t 0), (some (7, true))⟩, ⟨(some 9), .mv (.t 1), (some (7, true))⟩, ⟨(some 10), .bin .sub (.t 9) (.k (.int .i64 1)), (some (7, true))⟩, ⟨(some 11), .bin .shr (.t 8) (.t 10), (some (7, true))⟩, ⟨(some 12), .bin .rem (.t 11) (.k (.int .u64 2)), (some (7, true))⟩, ⟨(some 13), .bin .eql (.t 12) (.k (.int .u64 1)), (some (7, true))⟩, ⟨(some 14), .pick (.t 7) (.t 13) (.k (.bool false)), none⟩, ⟨(some 4), .mv (.t 14), none⟩] none)
 .ret))⟩
/-- besom/besomref02.Add -/
def m54 : MFn := ⟨2, 14, [.tmp 4], (.seq (.reg [⟨(some 4), .mv (.k (.int .u64 0)), none⟩] none)
 (.seq (.seq (.reg [⟨(some 5), .mv (.t 1), none⟩, ⟨(some 6), .call 70 (.k (.fn (.func 80) [] [])) [(.t 5)], none⟩, ⟨(some 7), .un .not (.t 6), none⟩] none)
 (.cond (.t 7) (.seq (.reg [⟨(some 8), .mv (.t 0), none⟩, ⟨(some 4), .mv (.t 8), none⟩] none)
 .ret) .skip))
 (.seq (.reg [⟨(some 9), .mv (.t 0), none⟩, ⟨(some 10), .mv (.t 1), none⟩, ⟨(some 11), .bin .sub (.t 10) (.k (.int .i64 1)), none⟩, ⟨(some 12), .bin .shl (.k (.int .u64 1)) (.t 11), none⟩, ⟨(some 13), .bin .or (.t 9) (.t 12), none⟩, ⟨(some 4), .mv (.t 13), none⟩] none)
 .ret)))⟩
/-- slices.Clone[besom/bag.Bag,int] -/
def m55 : MFn := ⟨1, 8, [.tmp 2], (.seq (.reg [⟨(some 2), .mv (.k .nils), none⟩] none)
 (.seq (.seq (.reg [⟨(some 3), .mv (.t 0), none⟩, ⟨(some 4), .isn 0 false (.t 3), none⟩] none)
 (.cond (.t 4) (.seq (.reg [⟨(some 2), .mv (.k .nils), none⟩] none)
 .ret) .skip))
 (.seq (.reg [⟨(some 5), .bslt 1 [], none⟩, ⟨(some 6), .mv (.t 0), none⟩, ⟨(some 7), .app 71 1 8 (.t 5) (.t 6), none⟩, ⟨(some 2), .mv (.t 7), none⟩] none)
 .ret)))⟩
/-- slices.Repeat[besom/bag.Bag,int] -/
def m56 : MFn := ⟨2, 48, [.tmp 4], (.seq (.reg [⟨(some 4), .mv (.k .nils), none⟩] none)
 (.seq (.seq (.reg [⟨(some 9), .mv (.t 1), none⟩, ⟨(some 10), .bin .lss (.t 9) (.k (.int .i64 0)), none⟩] none)
 (.cond (.t 10) (.reg [⟨(some 11), .stop, none⟩, ⟨none, .stop, none⟩] none) .skip))
 (.seq (.reg [⟨(some 13), .mv (.t 0), none⟩, ⟨(some 14), .len (.t 13), none⟩, ⟨(some 15), .conv .u64 (.t 14), none⟩, ⟨(some 16), .mv (.t 1), none⟩, ⟨(some 17), .conv .u64 (.t 16), none⟩, ⟨(some 18), .call 82 (.k (.fn (.func 81) [] [])) [(.t 15), (.t 17)], none⟩, ⟨(some 12), .mv (.t 18), none⟩, ⟨(some 19), .ext (.t 12) 0, none⟩, ⟨(some 20), .ext (.t 12) 1, none⟩, ⟨(some 5), .mv (.t 19), none⟩, ⟨(some 6), .mv (.t 20), none⟩] none)
 (.seq (.seq (.reg [⟨(some 21), .mv (.t 5), none⟩, ⟨(some 22), .bin .gtr (.t 21) (.k (.int .u64 0)), none⟩, ⟨(some 23), .mv (.t 22), none⟩, ⟨(some 24), .mv (.t 6), (some (23, false))⟩, ⟨(some 25), .bin .gtr (.t 24) (.k (.int .u64 9223372036854775807)), (some (23, false))⟩, ⟨(some 26), .pick (.t 23) (.k (.bool true)) (.t 25), none⟩] none)
 (.cond (.t 26) (.reg [⟨(some 27), .stop, none⟩, ⟨none, .stop, none⟩] none) .skip))
 (.seq (.reg [⟨(some 28), .mv (.t 6), none⟩, ⟨(some 29), .conv .i64 (.t 28), none⟩, ⟨(some 30), .mks 94 1 8 (.int .i64 0) (.t 29), none⟩, ⟨(some 7), .mv (.t 30), none⟩] none)
 (.seq (.reg [⟨(some 31), .mv (.t 7), none⟩, ⟨(some 32), .mv (.t 0), none⟩, ⟨(some 33), .cpy 1 (.t 31) (.t 32), none⟩, ⟨(some 8), .mv (.t 33), none⟩] none)
 (.seq (.block 0 (.loop (.seq (.seq (.reg [⟨(some 34), .mv (.t 8), none⟩, ⟨(some 35), .mv (.t 7), none⟩, ⟨(some 36), .len (.t 35), none⟩, ⟨(some 37), .bin .lss (.t 34) (.t 36), none⟩] none)
 (.cond (.t 37) .skip (.exit 0)))
 (.block 1 (.reg [⟨(some 38), .mv (.t 8), none⟩, ⟨(some 39), .mv (.t 7), none⟩, ⟨(some 40), .mv (.t 8), none⟩, ⟨(some 41), .sll 1 (.t 39) (some (.t 40)) none, none⟩, ⟨(some 42), .mv (.t 7), none⟩, ⟨(some 43), .mv (.t 8), none⟩, ⟨(some 44), .sll 1 (.t 42) none (some (.t 43)), none⟩, ⟨(some 45), .cpy 1 (.t 41) (.t 44), none⟩, ⟨(some 46), .bin .add (.t 38) (.t 45), none⟩, ⟨(some 8), .mv (.t 46), none⟩] (some [(3, 6)]))))))
 (.seq (.reg [⟨(some 47), .mv (.t 7), none⟩, ⟨(some 4), .mv (.t 47), none⟩] none)
 .ret))))))))⟩
/-- besom/bag.Add$1 -/
def m57 : MFn := ⟨3, 14, [.tmp 4], (.seq (.reg [⟨(some 4), .mv (.k (.bool false)), none⟩] none)
 (.seq (.seq (.reg [⟨(some 5), .mv (.t 0), none⟩, ⟨(some 6), .ld none (.t 1), none⟩, ⟨(some 7), .bin .neq (.t 5) (.t 6), none⟩, ⟨(some 8), .mv (.t 7), none⟩, ⟨(some 9), .ld none (.t 2), (some (8, false))⟩, ⟨(some 10), .bin .geq (.t 9) (.k (.int .i64 0)), (some (8, false))⟩, ⟨(some 11), .pick (.t 8) (.k (.bool true)) (.t 10), none⟩] none)
 (.cond (.t 11) (.seq (.reg [⟨(some 4), .mv (.k (.bool false)), none⟩] none)
 .ret) .skip))
 (.seq (.reg [⟨(some 12), .ld none (.t 2), none⟩, ⟨(some 13), .bin .add (.t 12) (.k (.int .i64 1)), none⟩, ⟨none, .st 1 (.t 2) (.t 13), none⟩] none)
 (.seq (.reg [⟨(some 4), .mv (.k (.bool true)), none⟩] none)
 .ret))))⟩
/-- slices.Concat[besom/bag.Bag,int] -/
def m58 : MFn := ⟨1, 36, [.tmp 2], (.seq (.reg [⟨(some 2), .mv (.k .nils), none⟩] none)
 (.seq (.reg [⟨(some 3), .mv (.k (.int .i64 0)), none⟩] none)
 (.seq (.seq (.reg [⟨(some 9), .mv (.t 0), none⟩, ⟨(some 10), .len (.t 9), none⟩, ⟨(some 11), .mv (.k (.int .i64 0)), none⟩] none)
 (.block 0 (.loop (.seq (.reg [⟨(some 12), .bin .lss (.t 11) (.t 10), none⟩] none)
 (.seq (.cond (.t 12) .skip (.exit 0))
 (.seq (.block 1 (.seq (.reg [⟨(some 13), .ixs 1 (.t 9) (.t 11), none⟩, ⟨(some 14), .ld none (.t 13), none⟩, ⟨(some 5), .mv (.t 14), none⟩] none)
 (.seq (.reg [⟨(some 15), .mv (.t 3), none⟩, ⟨(some 16), .mv (.t 5), none⟩, ⟨(some 17), .len (.t 16), none⟩, ⟨(some 18), .bin .add (.t 15) (.t 17), none⟩, ⟨(some 3), .mv (.t 18), none⟩] none)
 (.seq (.reg [⟨(some 19), .mv (.t 3), none⟩, ⟨(some 20), .bin .lss (.t 19) (.k (.int .i64 0)), none⟩] none)
 (.cond (.t 20) (.reg [⟨(some 21), .stop, none⟩, ⟨none, .stop, none⟩] none) .skip)))))
 (.reg [⟨(some 22), .bin .add (.t 11) (.k (.int .i64 1)), none⟩, ⟨(some 11), .mv (.t 22), none⟩] none)))))))
 (.seq (.reg [⟨(some 23), .mv (.t 3), none⟩, ⟨(some 24), .call 88 (.k (.fn (.func 82) [] [])) [(.k .nils), (.t 23)], none⟩, ⟨(some 6), .mv (.t 24), none⟩] none)
 (.seq (.seq (.reg [⟨(some 25), .mv (.t 0), none⟩, ⟨(some 26), .len (.t 25), none⟩, ⟨(some 27), .mv (.k (.int .i64 0)), none⟩] none)
 (.block 2 (.loop (.seq (.reg [⟨(some 28), .bin .lss (.t 27) (.t 26), none⟩] none)
 (.seq (.cond (.t 28) .skip (.exit 2))
 (.seq (.block 3 (.seq (.reg [⟨(some 29), .ixs 1 (.t 25) (.t 27), none⟩, ⟨(some 30), .ld none (.t 29), none⟩, ⟨(some 8), .mv (.t 30), none⟩] none)
 (.reg [⟨(some 31), .mv (.t 6), none⟩, ⟨(some 32), .mv (.t 8), none⟩, ⟨(some 33), .app 97 1 8 (.t 31) (.t 32), none⟩, ⟨(some 6), .mv (.t 33), none⟩] none)))
 (.reg [⟨(some 34), .bin .add (.t 27) (.k (.int .i64 1)), none⟩, ⟨(some 27), .mv (.t 34), none⟩] none)))))))
 (.seq (.reg [⟨(some 35), .mv (.t 6), none⟩, ⟨(some 2), .mv (.t 35), none⟩] none)
 .ret))))))⟩
/-- besom/deque.Cells -/
def m59 : MFn := ⟨1, 14, [.tmp 2], (.seq (.reg [⟨(some 2), .mv (.k .nils), none⟩] none)
 (.seq (.reg [⟨(some 4), .mv (.t 0), none⟩, ⟨(some 5), .mx (.t 4) (.k (.int .i64 1)), none⟩, ⟨(some 6), .mn (.t 5) (.k (.int .i64 64)), none⟩, ⟨(some 7), .bin .add (.k (.int .i64 2)) (.t 6), none⟩, ⟨(some 8), .mks 72 1 8 (.int .u64 0) (.t 7), none⟩, ⟨(some 3), .mv (.t 8), none⟩] none)
 (.seq (.reg [⟨(some 9), .mv (.t 3), none⟩, ⟨(some 10), .mv (.t 3), none⟩, ⟨(some 11), .ixs 1 (.t 9) (.k (.int .i64 0)), none⟩, ⟨none, .st 1 (.t 11) (.k (.int .u64 1)), none⟩, ⟨(some 12), .ixs 1 (.t 10) (.k (.int .i64 1)), none⟩, ⟨none, .st 1 (.t 12) (.k (.int .u64 1)), none⟩] none)
 (.seq (.reg [⟨(some 13), .mv (.t 3), none⟩, ⟨(some 2), .mv (.t 13), none⟩] none)
 .ret))))⟩
/-- besom/deque.Start -/
def m60 : MFn := ⟨4, 14, [.cell 8 (some 8)], (.seq (.reg [⟨(some 8), .alloc 72 [(.int .i64 0), (.int .i64 0), (.int .i64 0), (.int .i64 0), (.int .u64 0), (.int .u64 0), (.int .i64 0), (.int .i64 0)], none⟩] none)
 (.seq (.reg [⟨(some 9), .mv (.t 0), none⟩, ⟨(some 10), .mv (.t 1), none⟩, ⟨(some 11), .mv (.t 2), none⟩, ⟨(some 12), .mv (.t 3), none⟩, ⟨(some 13), .bld [(.int .i64 0), (.int .i64 0), (.int .i64 0), (.int .i64 0), (.int .u64 0), (.int .u64 0), (.int .i64 0), (.int .i64 0)] [(0, 1, (.t 9)), (2, 1, (.t 10)), (3, 1, (.t 11)), (6, 1, (.t 12))], none⟩, ⟨none, .st 8 (.t 8) (.t 13), none⟩] none)
 .ret))⟩
/-- (*besom/besomlaw07.World).steal -/
def m61 : MFn := ⟨2, 73, [], (.seq (.reg [⟨(some 5), .mv (.t 0), none⟩, ⟨(some 6), .mv (.t 0), none⟩, ⟨(some 7), .nilc (.t 6), none⟩, ⟨(some 8), .fa 10 (.t 7), none⟩, ⟨(some 9), .ld none (.t 8), none⟩, ⟨(some 10), .mv (.t 1), none⟩, ⟨(some 11), .mv (.t 0), none⟩, ⟨(some 12), .nilc (.t 11), none⟩, ⟨(some 13), .fa 0 (.t 12), none⟩, ⟨(some 14), .ld none (.t 13), none⟩, ⟨(some 15), .mv (.t 0), none⟩, ⟨(some 16), .nilc (.t 15), none⟩, ⟨(some 17), .fa 10 (.t 16), none⟩, ⟨(some 18), .ld none (.t 17), none⟩, ⟨(some 19), .mv (.t 1), none⟩, ⟨(some 20), .ixs 8 (.t 18) (.t 19), none⟩, ⟨(some 21), .ld (some 8) (.t 20), none⟩, ⟨(some 22), .call 86 (.k (.fn (.func 62) [] [])) [(.t 14), (.t 21)], none⟩, ⟨(some 4), .mv (.t 22), none⟩, ⟨(some 23), .ext (.t 4) 0, none⟩, ⟨(some 24), .ext (.t 4) 1, none⟩, ⟨(some 25), .nilc (.t 5), none⟩, ⟨(some 26), .fa 0 (.t 25), none⟩, ⟨none, .st 1 (.t 26) (.t 23), none⟩, ⟨(some 27), .ixs 8 (.t 9) (.t 10), none⟩, ⟨none, .st 8 (.t 27) (.t 24), none⟩] (some [(4, 9), (4, 13), (9, 13), (4, 15), (9, 15), (4, 16), (9, 16), (4, 17)]))
 (.seq (.seq (.reg [⟨(some 28), .mv (.t 0), none⟩, ⟨(some 29), .nilc (.t 28), none⟩, ⟨(some 30), .fa 10 (.t 29), none⟩, ⟨(some 31), .ld none (.t 30), none⟩, ⟨(some 32), .mv (.t 1), none⟩, ⟨(some 33), .ixs 8 (.t 31) (.t 32), none⟩, ⟨(some 34), .fa 7 (.t 33), none⟩, ⟨(some 35), .ld none (.t 34), none⟩, ⟨(some 36), .bin .eql (.t 35) (.k (.int .i64 1)), none⟩] none)
 (.cond (.t 36) (.reg [⟨(some 37), .mv (.t 0), none⟩, ⟨(some 38), .mv (.t 0), none⟩, ⟨(some 39), .nilc (.t 38), none⟩, ⟨(some 40), .fa 12 (.t 39), none⟩, ⟨(some 41), .ld none (.t 40), none⟩, ⟨(some 42), .mv (.t 0), none⟩, ⟨(some 43), .nilc (.t 42), none⟩, ⟨(some 44), .fa 10 (.t 43), none⟩, ⟨(some 45), .ld none (.t 44), none⟩, ⟨(some 46), .mv (.t 1), none⟩, ⟨(some 47), .ixs 8 (.t 45) (.t 46), none⟩, ⟨(some 48), .fa 6 (.t 47), none⟩, ⟨(some 49), .ld none (.t 48), none⟩, ⟨(some 50), .call 114 (.k (.fn (.func 24) [] [])) [(.t 41), (.t 49), (.k (.int .i64 1))], none⟩, ⟨(some 51), .nilc (.t 37), none⟩, ⟨(some 52), .fa 12 (.t 51), none⟩, ⟨none, .st 1 (.t 52) (.t 50), none⟩] (some [(4, 8), (4, 10), (4, 12)])) .skip))
 (.seq (.reg [⟨(some 53), .mv (.t 0), none⟩, ⟨(some 54), .nilc (.t 53), none⟩, ⟨(some 55), .fa 10 (.t 54), none⟩, ⟨(some 56), .ld none (.t 55), none⟩, ⟨(some 57), .mv (.t 1), none⟩, ⟨(some 58), .ixs 8 (.t 56) (.t 57), none⟩, ⟨(some 59), .fa 7 (.t 58), none⟩, ⟨(some 60), .ld none (.t 59), none⟩, ⟨(some 61), .bin .neq (.t 60) (.k (.int .i64 0)), none⟩] none)
 (.cond (.t 61) (.reg [⟨(some 62), .mv (.t 0), none⟩, ⟨(some 63), .nilc (.t 62), none⟩, ⟨(some 64), .fa 10 (.t 63), none⟩, ⟨(some 65), .ld none (.t 64), none⟩, ⟨(some 66), .mv (.t 1), none⟩, ⟨(some 67), .mv (.t 0), none⟩, ⟨(some 68), .nilc (.t 67), none⟩, ⟨(some 69), .fa 1 (.t 68), none⟩, ⟨(some 70), .ld none (.t 69), none⟩, ⟨(some 71), .call 135 (.k (.fn (.func 60) [] [])) [(.k (.int .i64 3)), (.k (.int .i64 0)), (.t 70), (.k (.int .i64 0))], none⟩, ⟨(some 72), .ixs 8 (.t 65) (.t 66), none⟩, ⟨none, .st 8 (.t 72) (.t 71), none⟩] (some [(3, 8), (3, 9)])) .skip))))⟩
/-- besom/deque.Step -/
def m62 : MFn := ⟨2, 40, [.tmp 4, .cell 5 (some 8)], (.seq (.reg [⟨(some 3), .box 67 (.t 1), none⟩, ⟨(some 4), .mv (.k .nils), none⟩, ⟨(some 5), .alloc 69 [(.int .i64 0), (.int .i64 0), (.int .i64 0), (.int .i64 0), (.int .u64 0), (.int .u64 0), (.int .i64 0), (.int .i64 0)], none⟩] none)
 (.seq (.reg [⟨(some 7), .fa 0 (.t 3), none⟩, ⟨(some 8), .ld none (.t 7), none⟩, ⟨(some 9), .call 73 (.k (.fn (.func 83) [] [])) [(.t 8)], none⟩, ⟨(some 6), .mv (.t 9), none⟩] none)
 (.seq (.seq (.reg [⟨(some 10), .fa 7 (.t 3), none⟩, ⟨(some 11), .ld none (.t 10), none⟩, ⟨(some 12), .bin .neq (.t 11) (.k (.int .i64 0)), none⟩, ⟨(some 13), .mv (.t 12), none⟩, ⟨(some 14), .fa 1 (.t 3), (some (13, false))⟩, ⟨(some 15), .ld none (.t 14), (some (13, false))⟩, ⟨(some 16), .bin .lss (.t 15) (.k (.int .i64 0)), (some (13, false))⟩, ⟨(some 17), .pick (.t 13) (.k (.bool true)) (.t 16), none⟩, ⟨(some 18), .mv (.t 17), none⟩, ⟨(some 19), .fa 1 (.t 3), (some (18, false))⟩, ⟨(some 20), .ld none (.t 19), (some (18, false))⟩, ⟨(some 21), .mv (.t 6), (some (18, false))⟩, ⟨(some 22), .len (.t 21), (some (18, false))⟩, ⟨(some 23), .bin .geq (.t 20) (.t 22), (some (18, false))⟩, ⟨(some 24), .pick (.t 18) (.k (.bool true)) (.t 23), none⟩] none)
 (.cond (.t 24) (.seq (.reg [⟨(some 25), .mv (.t 0), none⟩, ⟨(some 26), .ld (some 8) (.t 3), none⟩, ⟨(some 4), .mv (.t 25), none⟩, ⟨none, .st 8 (.t 5) (.t 26), none⟩] (some []))
 .ret) .skip))
 (.seq (.reg [⟨(some 27), .mv (.t 6), none⟩, ⟨(some 28), .fa 1 (.t 3), none⟩, ⟨(some 29), .ld none (.t 28), none⟩, ⟨(some 30), .ixs 1 (.t 27) (.t 29), none⟩, ⟨(some 31), .ld none (.t 30), none⟩, ⟨(some 32), .mv (.t 0), none⟩, ⟨(some 33), .call 97 (.t 31) [(.t 3), (.t 32)], none⟩, ⟨(some 0), .mv (.t 33), none⟩] none)
 (.seq (.reg [⟨(some 34), .fa 1 (.t 3), none⟩, ⟨(some 35), .ld none (.t 34), none⟩, ⟨(some 36), .bin .add (.t 35) (.k (.int .i64 1)), none⟩, ⟨(some 37), .fa 1 (.t 3), none⟩, ⟨none, .st 1 (.t 37) (.t 36), none⟩] none)
 (.seq (.reg [⟨(some 38), .mv (.t 0), none⟩, ⟨(some 39), .ld (some 8) (.t 3), none⟩, ⟨(some 4), .mv (.t 38), none⟩, ⟨none, .st 8 (.t 5) (.t 39), none⟩] (some []))
 .ret))))))⟩
/-- besom/deque.load -/
def m63 : MFn := ⟨2, 17, [.tmp 4], (.seq (.reg [⟨(some 4), .mv (.k (.int .u64 0)), none⟩] none)
 (.seq (.reg [⟨(some 9), .mv (.t 0), none⟩, ⟨(some 10), .mv (.t 1), none⟩, ⟨(some 11), .bld [(.int .i64 0), (.int .i64 0), (.int .u64 0), (.int .u64 0)] [(0, 1, (.k (.int .i64 1))), (1, 1, (.t 10))], none⟩, ⟨(some 12), .call 76 (.k (.fn (.func 69) [] [])) [(.t 9), (.t 11)], none⟩, ⟨(some 8), .mv (.t 12), none⟩, ⟨(some 13), .ext (.t 8) 0, none⟩, ⟨(some 14), .ext (.t 8) 1, none⟩, ⟨(some 15), .ext (.t 8) 2, none⟩, ⟨(some 5), .mv (.t 13), none⟩, ⟨(some 6), .mv (.t 14), none⟩, ⟨(some 7), .mv (.t 15), none⟩] none)
 (.seq (.reg [⟨(some 16), .mv (.t 6), none⟩, ⟨(some 4), .mv (.t 16), none⟩] none)
 .ret)))⟩
/-- (*besom/deque.Machine).top -/
def m64 : MFn := ⟨1, 7, [.tmp 2], (.seq (.reg [⟨(some 2), .mv (.k (.int .i64 0)), none⟩] none)
 (.seq (.reg [⟨(some 3), .mv (.t 0), none⟩, ⟨(some 4), .nilc (.t 3), none⟩, ⟨(some 5), .fa 2 (.t 4), none⟩, ⟨(some 6), .ld none (.t 5), none⟩, ⟨(some 2), .mv (.t 6), none⟩] none)
 .ret))⟩
/-- (*besom/deque.Machine).bottom -/
def m65 : MFn := ⟨1, 8, [.tmp 2], (.seq (.reg [⟨(some 2), .mv (.k (.int .i64 0)), none⟩] none)
 (.seq (.reg [⟨(some 3), .mv (.t 0), none⟩, ⟨(some 4), .nilc (.t 3), none⟩, ⟨(some 5), .fa 2 (.t 4), none⟩, ⟨(some 6), .ld none (.t 5), none⟩, ⟨(some 7), .bin .add (.t 6) (.k (.int .i64 1)), none⟩, ⟨(some 2), .mv (.t 7), none⟩] none)
 .ret))⟩
/-- besom/deque.above -/
def m66 : MFn := ⟨2, 10, [.tmp 4], (.seq (.reg [⟨(some 4), .mv (.k (.bool false)), none⟩] none)
 (.seq (.reg [⟨(some 5), .mv (.t 0), none⟩, ⟨(some 6), .mv (.t 1), none⟩, ⟨(some 7), .bin .sub (.t 5) (.t 6), none⟩, ⟨(some 8), .conv .i64 (.t 7), none⟩, ⟨(some 9), .bin .gtr (.t 8) (.k (.int .i64 0)), none⟩, ⟨(some 4), .mv (.t 9), none⟩] none)
 .ret))⟩
/-- (*besom/deque.Machine).size -/
def m67 : MFn := ⟨1, 9, [.tmp 2], (.seq (.reg [⟨(some 2), .mv (.k (.int .u64 0)), none⟩] none)
 (.seq (.reg [⟨(some 3), .mv (.t 0), none⟩, ⟨(some 4), .nilc (.t 3), none⟩, ⟨(some 5), .fa 3 (.t 4), none⟩, ⟨(some 6), .ld none (.t 5), none⟩, ⟨(some 7), .mx (.t 6) (.k (.int .i64 1)), none⟩, ⟨(some 8), .conv .u64 (.t 7), none⟩, ⟨(some 2), .mv (.t 8), none⟩] none)
 .ret))⟩
/-- (*besom/deque.Machine).place -/
def m68 : MFn := ⟨2, 16, [.tmp 4], (.seq (.reg [⟨(some 4), .mv (.k (.int .i64 0)), none⟩] none)
 (.seq (.reg [⟨(some 5), .mv (.t 0), none⟩, ⟨(some 6), .nilc (.t 5), none⟩, ⟨(some 7), .fa 2 (.t 6), none⟩, ⟨(some 8), .ld none (.t 7), none⟩, ⟨(some 9), .bin .add (.t 8) (.k (.int .i64 2)), none⟩, ⟨(some 10), .mv (.t 1), none⟩, ⟨(some 11), .mv (.t 0), none⟩, ⟨(some 12), .call 76 (.k (.fn (.func 67) [] [])) [(.t 11)], none⟩, ⟨(some 13), .bin .rem (.t 10) (.t 12), none⟩, ⟨(some 14), .conv .i64 (.t 13), none⟩, ⟨(some 15), .bin .add (.t 9) (.t 14), none⟩, ⟨(some 4), .mv (.t 15), none⟩] (some [(3, 7)]))
 .ret))⟩
/-- besom/mem.Do -/
def m69 : MFn := ⟨2, 61, [.tmp 4, .tmp 5, .tmp 6], (.seq (.reg [⟨(some 3), .box 67 (.t 1), none⟩, ⟨(some 4), .mv (.k .nils), none⟩, ⟨(some 5), .mv (.k (.int .u64 0)), none⟩, ⟨(some 6), .mv (.k (.bool false)), none⟩] none)
 (.seq (.reg [⟨(some 11), .mkm 75, none⟩, ⟨none, .ins (.t 11) (.k (.int .i64 1)) (.k (.fn (.func 84) [] [])), none⟩, ⟨(some 12), .mkf (.func 85) [] [(.t 3)], none⟩, ⟨none, .ins (.t 11) (.k (.int .i64 2)) (.t 12), none⟩, ⟨(some 13), .mkf (.func 86) [] [(.t 3)], none⟩, ⟨none, .ins (.t 11) (.k (.int .i64 3)) (.t 13), none⟩, ⟨(some 14), .mkf (.func 87) [] [(.t 3)], none⟩, ⟨none, .ins (.t 11) (.k (.int .i64 4)) (.t 14), none⟩, ⟨(some 15), .mv (.t 11), none⟩, ⟨(some 16), .fa 0 (.t 3), none⟩, ⟨(some 17), .ld none (.t 16), none⟩, ⟨(some 18), .lkp .nilfn false (.t 15) (.t 17), none⟩, ⟨(some 7), .mv (.t 18), none⟩] none)
 (.seq (.seq (.reg [⟨(some 19), .fa 1 (.t 3), none⟩, ⟨(some 20), .ld none (.t 19), none⟩, ⟨(some 21), .bin .lss (.t 20) (.k (.int .i64 0)), none⟩, ⟨(some 22), .mv (.t 21), none⟩, ⟨(some 23), .fa 1 (.t 3), (some (22, false))⟩, ⟨(some 24), .ld none (.t 23), (some (22, false))⟩, ⟨(some 25), .mv (.t 0), (some (22, false))⟩, ⟨(some 26), .len (.t 25), (some (22, false))⟩, ⟨(some 27), .bin .geq (.t 24) (.t 26), (some (22, false))⟩, ⟨(some 28), .pick (.t 22) (.k (.bool true)) (.t 27), none⟩, ⟨(some 29), .mv (.t 28), none⟩, ⟨(some 30), .mv (.t 7), (some (29, false))⟩, ⟨(some 31), .isn 1 false (.t 30), (some (29, false))⟩, ⟨(some 32), .pick (.t 29) (.k (.bool true)) (.t 31), none⟩] none)
 (.cond (.t 32) (.seq (.reg [⟨(some 33), .mv (.t 0), none⟩, ⟨(some 4), .mv (.t 33), none⟩, ⟨(some 5), .mv (.k (.int .u64 0)), none⟩, ⟨(some 6), .mv (.k (.bool false)), none⟩] none)
 .ret) .skip))
 (.seq (.reg [⟨(some 34), .mv (.t 0), none⟩, ⟨(some 35), .fa 1 (.t 3), none⟩, ⟨(some 36), .ld none (.t 35), none⟩, ⟨(some 37), .ixs 1 (.t 34) (.t 36), none⟩, ⟨(some 38), .ld none (.t 37), none⟩, ⟨(some 8), .mv (.t 38), none⟩] none)
 (.seq (.reg [⟨(some 40), .mv (.t 7), none⟩, ⟨(some 41), .mv (.t 8), none⟩, ⟨(some 42), .call 106 (.t 40) [(.t 41)], none⟩, ⟨(some 39), .mv (.t 42), none⟩, ⟨(some 43), .ext (.t 39) 0, none⟩, ⟨(some 44), .ext (.t 39) 1, none⟩, ⟨(some 9), .mv (.t 43), none⟩, ⟨(some 10), .mv (.t 44), none⟩] none)
 (.seq (.seq (.reg [⟨(some 45), .mv (.t 10), none⟩, ⟨(some 46), .mv (.t 45), none⟩, ⟨(some 47), .mv (.t 8), (some (46, true))⟩, ⟨(some 48), .mv (.t 9), (some (46, true))⟩, ⟨(some 49), .bin .neq (.t 47) (.t 48), (some (46, true))⟩, ⟨(some 50), .pick (.t 46) (.t 49) (.k (.bool false)), none⟩] none)
 (.cond (.t 50) (.seq (.reg [⟨(some 51), .mv (.t 0), none⟩, ⟨(some 52), .call 116 (.k (.fn (.func 88) [] [])) [(.t 51)], none⟩, ⟨(some 0), .mv (.t 52), none⟩] none)
 (.reg [⟨(some 53), .mv (.t 0), none⟩, ⟨(some 54), .fa 1 (.t 3), none⟩, ⟨(some 55), .ld none (.t 54), none⟩, ⟨(some 56), .mv (.t 9), none⟩, ⟨(some 57), .ixs 1 (.t 53) (.t 55), none⟩, ⟨none, .st 1 (.t 57) (.t 56), none⟩] none)) .skip))
 (.seq (.reg [⟨(some 58), .mv (.t 0), none⟩, ⟨(some 59), .mv (.t 8), none⟩, ⟨(some 60), .mv (.t 10), none⟩, ⟨(some 4), .mv (.t 58), none⟩, ⟨(some 5), .mv (.t 59), none⟩, ⟨(some 6), .mv (.t 60), none⟩] none)
 .ret)))))))⟩
/-- besom/chain.store -/
def m70 : MFn := ⟨3, 17, [.tmp 6], (.seq (.reg [⟨(some 6), .mv (.k .nils), none⟩] none)
 (.seq (.reg [⟨(some 8), .mv (.t 0), none⟩, ⟨(some 9), .mv (.t 1), none⟩, ⟨(some 10), .mv (.t 2), none⟩, ⟨(some 11), .bld [(.int .i64 0), (.int .i64 0), (.int .u64 0), (.int .u64 0)] [(0, 1, (.k (.int .i64 2))), (1, 1, (.t 9)), (2, 1, (.t 10))], none⟩, ⟨(some 12), .call 76 (.k (.fn (.func 69) [] [])) [(.t 8), (.t 11)], none⟩, ⟨(some 7), .mv (.t 12), none⟩, ⟨(some 13), .ext (.t 7) 0, none⟩, ⟨(some 14), .ext (.t 7) 1, none⟩, ⟨(some 15), .ext (.t 7) 2, none⟩, ⟨(some 0), .mv (.t 13), none⟩] none)
 (.seq (.reg [⟨(some 16), .mv (.t 0), none⟩, ⟨(some 6), .mv (.t 16), none⟩] none)
 .ret)))⟩
/-- (*besom/chain.Machine).see -/
def m71 : MFn := ⟨2, 31, [.tmp 4], (.seq (.reg [⟨(some 4), .mv (.k .nils), none⟩] none)
 (.seq (.reg [⟨(some 5), .mv (.t 0), none⟩, ⟨(some 6), .mv (.t 1), none⟩, ⟨(some 7), .mv (.t 0), none⟩, ⟨(some 8), .nilc (.t 7), none⟩, ⟨(some 9), .fa 2 (.t 8), none⟩, ⟨(some 10), .ld none (.t 9), none⟩, ⟨(some 11), .call 75 (.k (.fn (.func 75) [] [])) [(.t 6), (.t 10)], none⟩, ⟨(some 12), .nilc (.t 5), none⟩, ⟨(some 13), .fa 4 (.t 12), none⟩, ⟨none, .st 1 (.t 13) (.t 11), none⟩] none)
 (.seq (.seq (.reg [⟨(some 14), .mv (.t 0), none⟩, ⟨(some 15), .nilc (.t 14), none⟩, ⟨(some 16), .fa 0 (.t 15), none⟩, ⟨(some 17), .ld none (.t 16), none⟩, ⟨(some 18), .bin .eql (.t 17) (.k (.int .i64 2)), none⟩, ⟨(some 19), .mv (.t 18), none⟩, ⟨(some 20), .mv (.t 0), (some (19, true))⟩, ⟨(some 21), .nilc (.t 20), (some (19, true))⟩, ⟨(some 22), .fa 4 (.t 21), (some (19, true))⟩, ⟨(some 23), .ld none (.t 22), (some (19, true))⟩, ⟨(some 24), .call 88 (.k (.fn (.func 46) [] [])) [(.t 23)], (some (19, true))⟩, ⟨(some 25), .bin .eql (.t 24) (.k (.int .i64 0)), (some (19, true))⟩, ⟨(some 26), .pick (.t 19) (.t 25) (.k (.bool false)), none⟩] none)
 (.cond (.t 26) (.reg [⟨(some 27), .mv (.t 0), none⟩, ⟨(some 28), .nilc (.t 27), none⟩, ⟨(some 29), .fa 7 (.t 28), none⟩, ⟨none, .st 1 (.t 29) (.k (.int .i64 2)), none⟩] none) .skip))
 (.seq (.reg [⟨(some 30), .mv (.t 1), none⟩, ⟨(some 4), .mv (.t 30), none⟩] none)
 .ret))))⟩
/-- (*besom/chain.Machine).link -/
def m72 : MFn := ⟨2, 22, [.tmp 4], (.seq (.reg [⟨(some 4), .mv (.k .nils), none⟩] none)
 (.seq (.reg [⟨(some 5), .mv (.t 1), none⟩, ⟨(some 6), .mv (.t 0), none⟩, ⟨(some 7), .nilc (.t 6), none⟩, ⟨(some 8), .fa 3 (.t 7), none⟩, ⟨(some 9), .ld none (.t 8), none⟩, ⟨(some 10), .mv (.t 0), none⟩, ⟨(some 11), .nilc (.t 10), none⟩, ⟨(some 12), .fa 5 (.t 11), none⟩, ⟨(some 13), .ld none (.t 12), none⟩, ⟨(some 14), .bin .add (.t 9) (.t 13), none⟩, ⟨(some 15), .mv (.t 0), none⟩, ⟨(some 16), .nilc (.t 15), none⟩, ⟨(some 17), .fa 4 (.t 16), none⟩, ⟨(some 18), .ld none (.t 17), none⟩, ⟨(some 19), .call 83 (.k (.fn (.func 46) [] [])) [(.t 18)], none⟩, ⟨(some 20), .conv .u64 (.t 19), none⟩, ⟨(some 21), .call 85 (.k (.fn (.func 70) [] [])) [(.t 5), (.t 14), (.t 20)], none⟩, ⟨(some 4), .mv (.t 21), none⟩] (some [(4, 8), (4, 13), (8, 13), (4, 14), (8, 14)]))
 .ret))⟩
/-- (*besom/chain.Machine).swap -/
def m73 : MFn := ⟨2, 69, [.tmp 4], (.seq (.reg [⟨(some 4), .mv (.k .nils), none⟩] none)
 (.seq (.reg [⟨(some 8), .mv (.t 0), none⟩, ⟨(some 9), .nilc (.t 8), none⟩, ⟨(some 10), .fa 5 (.t 9), none⟩, ⟨(some 11), .ld none (.t 10), none⟩, ⟨(some 5), .mv (.t 11), none⟩] none)
 (.seq (.seq (.reg [⟨(some 12), .mv (.t 0), none⟩, ⟨(some 13), .nilc (.t 12), none⟩, ⟨(some 14), .fa 0 (.t 13), none⟩, ⟨(some 15), .ld none (.t 14), none⟩, ⟨(some 16), .bin .eql (.t 15) (.k (.int .i64 2)), none⟩] none)
 (.cond (.t 16) (.reg [⟨(some 17), .mv (.t 0), none⟩, ⟨(some 18), .nilc (.t 17), none⟩, ⟨(some 19), .fa 6 (.t 18), none⟩, ⟨(some 20), .ld none (.t 19), none⟩, ⟨(some 5), .mv (.t 20), none⟩] none) .skip))
 (.seq (.reg [⟨(some 22), .mv (.t 1), none⟩, ⟨(some 23), .mv (.t 0), none⟩, ⟨(some 24), .nilc (.t 23), none⟩, ⟨(some 25), .fa 2 (.t 24), none⟩, ⟨(some 26), .ld none (.t 25), none⟩, ⟨(some 27), .mv (.t 0), none⟩, ⟨(some 28), .nilc (.t 27), none⟩, ⟨(some 29), .fa 4 (.t 28), none⟩, ⟨(some 30), .ld none (.t 29), none⟩, ⟨(some 31), .mv (.t 0), none⟩, ⟨(some 32), .nilc (.t 31), none⟩, ⟨(some 33), .fa 4 (.t 32), none⟩, ⟨(some 34), .ld none (.t 33), none⟩, ⟨(some 35), .bin .shr (.t 34) (.k (.int .u64 32)), none⟩, ⟨(some 36), .bin .add (.t 35) (.k (.int .u64 1)), none⟩, ⟨(some 37), .mv (.t 5), none⟩, ⟨(some 38), .call 102 (.k (.fn (.func 45) [] [])) [(.t 36), (.t 37)], none⟩, ⟨(some 39), .bld [(.int .i64 0), (.int .i64 0), (.int .u64 0), (.int .u64 0)] [(0, 1, (.k (.int .i64 3))), (1, 1, (.t 26)), (2, 1, (.t 30)), (3, 1, (.t 38))], none⟩, ⟨(some 40), .call 104 (.k (.fn (.func 69) [] [])) [(.t 22), (.t 39)], none⟩, ⟨(some 21), .mv (.t 40), none⟩, ⟨(some 41), .ext (.t 21) 0, none⟩, ⟨(some 42), .ext (.t 21) 1, none⟩, ⟨(some 43), .ext (.t 21) 2, none⟩, ⟨(some 1), .mv (.t 41), none⟩, ⟨(some 6), .mv (.t 42), none⟩, ⟨(some 7), .mv (.t 43), none⟩] (some [(4, 8), (4, 12), (8, 12), (4, 16), (8, 16)]))
 (.seq (.block 0 (.seq (.reg [⟨(some 45), .mv (.t 7), none⟩, ⟨(some 46), .un .not (.t 45), none⟩, ⟨(some 44), .mv (.t 46), none⟩] none)
 (.cond (.t 44) (.seq (.reg [⟨(some 47), .mv (.t 0), none⟩, ⟨(some 48), .nilc (.t 47), none⟩, ⟨(some 49), .fa 1 (.t 48), none⟩, ⟨none, .st 1 (.t 49) (.k (.int .i64 (-1))), none⟩] none)
 (.seq (.reg [⟨(some 50), .mv (.t 1), none⟩, ⟨(some 4), .mv (.t 50), none⟩] none)
 .ret)) (.seq (.reg [⟨(some 52), .mv (.t 0), none⟩, ⟨(some 53), .nilc (.t 52), none⟩, ⟨(some 54), .fa 0 (.t 53), none⟩, ⟨(some 55), .ld none (.t 54), none⟩, ⟨(some 56), .bin .eql (.t 55) (.k (.int .i64 2)), none⟩, ⟨(some 51), .mv (.t 56), none⟩] none)
 (.cond (.t 51) (.reg [⟨(some 57), .mv (.t 0), none⟩, ⟨(some 58), .mv (.t 0), none⟩, ⟨(some 59), .nilc (.t 58), none⟩, ⟨(some 60), .fa 4 (.t 59), none⟩, ⟨(some 61), .ld none (.t 60), none⟩, ⟨(some 62), .call 126 (.k (.fn (.func 46) [] [])) [(.t 61)], none⟩, ⟨(some 63), .nilc (.t 57), none⟩, ⟨(some 64), .fa 5 (.t 63), none⟩, ⟨none, .st 1 (.t 64) (.t 62), none⟩] none) .skip)))))
 (.seq (.reg [⟨(some 65), .mv (.t 0), none⟩, ⟨(some 66), .nilc (.t 65), none⟩, ⟨(some 67), .fa 7 (.t 66), none⟩, ⟨none, .st 1 (.t 67) (.k (.int .i64 1)), none⟩] none)
 (.seq (.reg [⟨(some 68), .mv (.t 1), none⟩, ⟨(some 4), .mv (.t 68), none⟩] none)
 .ret)))))))⟩
/-- (*besom/chain.Machine).behind -/
def m74 : MFn := ⟨2, 22, [.tmp 4], (.seq (.reg [⟨(some 4), .mv (.k .nils), none⟩] none)
 (.seq (.reg [⟨(some 5), .mv (.t 0), none⟩, ⟨(some 6), .mv (.t 1), none⟩, ⟨(some 7), .mv (.t 0), none⟩, ⟨(some 8), .nilc (.t 7), none⟩, ⟨(some 9), .fa 3 (.t 8), none⟩, ⟨(some 10), .ld none (.t 9), none⟩, ⟨(some 11), .mv (.t 0), none⟩, ⟨(some 12), .nilc (.t 11), none⟩, ⟨(some 13), .fa 4 (.t 12), none⟩, ⟨(some 14), .ld none (.t 13), none⟩, ⟨(some 15), .call 79 (.k (.fn (.func 46) [] [])) [(.t 14)], none⟩, ⟨(some 16), .bin .add (.t 10) (.t 15), none⟩, ⟨(some 17), .call 81 (.k (.fn (.func 75) [] [])) [(.t 6), (.t 16)], none⟩, ⟨(some 18), .conv .i64 (.t 17), none⟩, ⟨(some 19), .nilc (.t 5), none⟩, ⟨(some 20), .fa 6 (.t 19), none⟩, ⟨none, .st 1 (.t 20) (.t 18), none⟩] (some [(5, 9), (5, 10)]))
 (.seq (.reg [⟨(some 21), .mv (.t 1), none⟩, ⟨(some 4), .mv (.t 21), none⟩] none)
 .ret)))⟩
/-- besom/chain.load -/
def m75 : MFn := ⟨2, 17, [.tmp 4], (.seq (.reg [⟨(some 4), .mv (.k (.int .u64 0)), none⟩] none)
 (.seq (.reg [⟨(some 9), .mv (.t 0), none⟩, ⟨(some 10), .mv (.t 1), none⟩, ⟨(some 11), .bld [(.int .i64 0), (.int .i64 0), (.int .u64 0), (.int .u64 0)] [(0, 1, (.k (.int .i64 1))), (1, 1, (.t 10))], none⟩, ⟨(some 12), .call 76 (.k (.fn (.func 69) [] [])) [(.t 9), (.t 11)], none⟩, ⟨(some 8), .mv (.t 12), none⟩, ⟨(some 13), .ext (.t 8) 0, none⟩, ⟨(some 14), .ext (.t 8) 1, none⟩, ⟨(some 15), .ext (.t 8) 2, none⟩, ⟨(some 5), .mv (.t 13), none⟩, ⟨(some 6), .mv (.t 14), none⟩, ⟨(some 7), .mv (.t 15), none⟩] none)
 (.seq (.reg [⟨(some 16), .mv (.t 6), none⟩, ⟨(some 4), .mv (.t 16), none⟩] none)
 .ret)))⟩
/-- slices.Sort[besom/bag.Bag,int] -/
def m76 : MFn := ⟨1, 11, [], (.seq (.reg [⟨(some 3), .mv (.t 0), none⟩, ⟨(some 4), .len (.t 3), none⟩, ⟨(some 2), .mv (.t 4), none⟩] none)
 (.reg [⟨(some 5), .mv (.t 0), none⟩, ⟨(some 6), .mv (.t 2), none⟩, ⟨(some 7), .mv (.t 2), none⟩, ⟨(some 8), .conv .u64 (.t 7), none⟩, ⟨(some 9), .call 73 (.k (.fn (.func 90) [] [])) [(.t 8)], none⟩, ⟨(some 10), .call 74 (.k (.fn (.func 89) [] [])) [(.t 5), (.k (.int .i64 0)), (.t 6), (.t 9)], none⟩] none))⟩
/-- slices.IndexFunc[besom/bag.Bag,int] -/
def m77 : MFn := ⟨2, 19, [.tmp 4], (.seq (.reg [⟨(some 4), .mv (.k (.int .i64 0)), none⟩] none)
 (.seq (.seq (.reg [⟨(some 6), .mv (.t 0), none⟩, ⟨(some 7), .len (.t 6), none⟩, ⟨(some 8), .mv (.k (.int .i64 0)), none⟩] none)
 (.block 0 (.loop (.seq (.reg [⟨(some 9), .bin .lss (.t 8) (.t 7), none⟩] none)
 (.seq (.cond (.t 9) .skip (.exit 0))
 (.seq (.block 1 (.seq (.reg [⟨(some 10), .mv (.t 8), none⟩, ⟨(some 5), .mv (.t 10), none⟩] none)
 (.seq (.reg [⟨(some 11), .mv (.t 1), none⟩, ⟨(some 12), .mv (.t 0), none⟩, ⟨(some 13), .mv (.t 5), none⟩, ⟨(some 14), .ixs 1 (.t 12) (.t 13), none⟩, ⟨(some 15), .ld none (.t 14), none⟩, ⟨(some 16), .call 80 (.t 11) [(.t 15)], none⟩] none)
 (.cond (.t 16) (.seq (.reg [⟨(some 17), .mv (.t 5), none⟩, ⟨(some 4), .mv (.t 17), none⟩] none)
 .ret) .skip))))
 (.reg [⟨(some 18), .bin .add (.t 8) (.k (.int .i64 1)), none⟩, ⟨(some 8), .mv (.t 18), none⟩] none)))))))
 (.seq (.reg [⟨(some 4), .mv (.k (.int .i64 (-1))), none⟩] none)
 .ret)))⟩
/-- besom/set.Add -/
def m78 : MFn := ⟨2, 9, [.tmp 4], (.seq (.reg [⟨(some 4), .mv (.k (.int .u64 0)), none⟩] none)
 (.seq (.reg [⟨(some 5), .mv (.t 0), none⟩, ⟨(some 6), .mv (.t 1), none⟩, ⟨(some 7), .call 71 (.k (.fn (.func 91) [] [])) [(.t 6)], none⟩, ⟨(some 8), .bin .or (.t 5) (.t 7), none⟩, ⟨(some 4), .mv (.t 8), none⟩] none)
 .ret))⟩
/-- math/bits.OnesCount64 -/
def m79 : MFn := ⟨1, 35, [.tmp 2], (.seq (.reg [⟨(some 2), .mv (.k (.int .i64 0)), none⟩] none)
 (.seq (.reg [⟨(some 3), .mv (.t 0), none⟩, ⟨(some 4), .bin .shr (.t 3) (.k (.int .u64 1)), none⟩, ⟨(some 5), .bin .and (.t 4) (.k (.int .u64 6148914691236517205)), none⟩, ⟨(some 6), .mv (.t 0), none⟩, ⟨(some 7), .bin .and (.t 6) (.k (.int .u64 6148914691236517205)), none⟩, ⟨(some 8), .bin .add (.t 5) (.t 7), none⟩, ⟨(some 0), .mv (.t 8), none⟩] none)
 (.seq (.reg [⟨(some 9), .mv (.t 0), none⟩, ⟨(some 10), .bin .shr (.t 9) (.k (.int .u64 2)), none⟩, ⟨(some 11), .bin .and (.t 10) (.k (.int .u64 3689348814741910323)), none⟩, ⟨(some 12), .mv (.t 0), none⟩, ⟨(some 13), .bin .and (.t 12) (.k (.int .u64 3689348814741910323)), none⟩, ⟨(some 14), .bin .add (.t 11) (.t 13), none⟩, ⟨(some 0), .mv (.t 14), none⟩] none)
 (.seq (.reg [⟨(some 15), .mv (.t 0), none⟩, ⟨(some 16), .bin .shr (.t 15) (.k (.int .u64 4)), none⟩, ⟨(some 17), .mv (.t 0), none⟩, ⟨(some 18), .bin .add (.t 16) (.t 17), none⟩, ⟨(some 19), .bin .and (.t 18) (.k (.int .u64 1085102592571150095)), none⟩, ⟨(some 0), .mv (.t 19), none⟩] none)
 (.seq (.reg [⟨(some 20), .mv (.t 0), none⟩, ⟨(some 21), .mv (.t 0), none⟩, ⟨(some 22), .bin .shr (.t 21) (.k (.int .u64 8)), none⟩, ⟨(some 23), .bin .add (.t 20) (.t 22), none⟩, ⟨(some 0), .mv (.t 23), none⟩] none)
 (.seq (.reg [⟨(some 24), .mv (.t 0), none⟩, ⟨(some 25), .mv (.t 0), none⟩, ⟨(some 26), .bin .shr (.t 25) (.k (.int .u64 16)), none⟩, ⟨(some 27), .bin .add (.t 24) (.t 26), none⟩, ⟨(some 0), .mv (.t 27), none⟩] none)
 (.seq (.reg [⟨(some 28), .mv (.t 0), none⟩, ⟨(some 29), .mv (.t 0), none⟩, ⟨(some 30), .bin .shr (.t 29) (.k (.int .u64 32)), none⟩, ⟨(some 31), .bin .add (.t 28) (.t 30), none⟩, ⟨(some 0), .mv (.t 31), none⟩] none)
 (.seq (.reg [⟨(some 32), .mv (.t 0), none⟩, ⟨(some 33), .conv .i64 (.t 32), none⟩, ⟨(some 34), .bin .and (.t 33) (.k (.int .i64 127)), none⟩, ⟨(some 2), .mv (.t 34), none⟩] none)
 .ret))))))))⟩
/-- besom/besomref02.object -/
def m80 : MFn := ⟨1, 9, [.tmp 2], (.seq (.reg [⟨(some 2), .mv (.k (.bool false)), none⟩] none)
 (.seq (.reg [⟨(some 3), .mv (.t 0), none⟩, ⟨(some 4), .bin .geq (.t 3) (.k (.int .i64 1)), none⟩, ⟨(some 5), .mv (.t 4), none⟩, ⟨(some 6), .mv (.t 0), (some (5, true))⟩, ⟨(some 7), .bin .leq (.t 6) (.k (.int .i64 64)), (some (5, true))⟩, ⟨(some 8), .pick (.t 5) (.t 7) (.k (.bool false)), none⟩, ⟨(some 2), .mv (.t 8), none⟩] none)
 .ret))⟩
/-- math/bits.Mul -/
def m81 : MFn := ⟨2, 30, [.tmp 4, .tmp 5], (.seq (.reg [⟨(some 4), .mv (.k (.int .u64 0)), none⟩, ⟨(some 5), .mv (.k (.int .u64 0)), none⟩] none)
 (.seq (.cond (.k (.bool false)) (.seq (.reg [⟨(some 11), .mv (.t 0), none⟩, ⟨(some 12), .conv .u32 (.t 11), none⟩, ⟨(some 13), .mv (.t 1), none⟩, ⟨(some 14), .conv .u32 (.t 13), none⟩, ⟨(some 15), .call 79 (.k (.fn (.func 92) [] [])) [(.t 12), (.t 14)], none⟩, ⟨(some 10), .mv (.t 15), none⟩, ⟨(some 16), .ext (.t 10) 0, none⟩, ⟨(some 17), .ext (.t 10) 1, none⟩, ⟨(some 6), .mv (.t 16), none⟩, ⟨(some 7), .mv (.t 17), none⟩] none)
 (.seq (.reg [⟨(some 18), .mv (.t 6), none⟩, ⟨(some 19), .conv .u64 (.t 18), none⟩, ⟨(some 20), .mv (.t 7), none⟩, ⟨(some 21), .conv .u64 (.t 20), none⟩, ⟨(some 4), .mv (.t 19), none⟩, ⟨(some 5), .mv (.t 21), none⟩] none)
 .ret)) .skip)
 (.seq (.reg [⟨(some 23), .mv (.t 0), none⟩, ⟨(some 24), .mv (.t 1), none⟩, ⟨(some 25), .call 89 (.k (.fn (.func 93) [] [])) [(.t 23), (.t 24)], none⟩, ⟨(some 22), .mv (.t 25), none⟩, ⟨(some 26), .ext (.t 22) 0, none⟩, ⟨(some 27), .ext (.t 22) 1, none⟩, ⟨(some 8), .mv (.t 26), none⟩, ⟨(some 9), .mv (.t 27), none⟩] none)
 (.seq (.reg [⟨(some 28), .mv (.t 8), none⟩, ⟨(some 29), .mv (.t 9), none⟩, ⟨(some 4), .mv (.t 28), none⟩, ⟨(some 5), .mv (.t 29), none⟩] none)
 .ret))))⟩
/-- slices.Grow[besom/bag.Bag,int] -/
def m82 : MFn := ⟨2, 27, [.tmp 4], (.seq (.reg [⟨(some 4), .mv (.k .nils), none⟩] none)
 (.seq (.seq (.reg [⟨(some 5), .mv (.t 1), none⟩, ⟨(some 6), .bin .lss (.t 5) (.k (.int .i64 0)), none⟩] none)
 (.cond (.t 6) (.reg [⟨(some 7), .stop, none⟩, ⟨none, .stop, none⟩] none) .skip))
 (.seq (.seq (.reg [⟨(some 8), .mv (.t 1), none⟩, ⟨(some 9), .mv (.t 0), none⟩, ⟨(some 10), .capn (.t 9), none⟩, ⟨(some 11), .mv (.t 0), none⟩, ⟨(some 12), .len (.t 11), none⟩, ⟨(some 13), .bin .sub (.t 10) (.t 12), none⟩, ⟨(some 14), .bin .sub (.t 8) (.t 13), none⟩, ⟨(some 1), .mv (.t 14), none⟩] none)
 (.seq (.reg [⟨(some 15), .mv (.t 1), none⟩, ⟨(some 16), .bin .gtr (.t 15) (.k (.int .i64 0)), none⟩] none)
 (.cond (.t 16) (.reg [⟨(some 17), .mv (.t 0), none⟩, ⟨(some 18), .mv (.t 0), none⟩, ⟨(some 19), .capn (.t 18), none⟩, ⟨(some 20), .sll 1 (.t 17) none (some (.t 19)), none⟩, ⟨(some 21), .mv (.t 1), none⟩, ⟨(some 22), .appz 86 1 8 (.int .i64 0) (.t 20) (.t 21), none⟩, ⟨(some 23), .mv (.t 0), none⟩, ⟨(some 24), .len (.t 23), none⟩, ⟨(some 25), .sll 1 (.t 22) none (some (.t 24)), none⟩, ⟨(some 0), .mv (.t 25), none⟩] none) .skip)))
 (.seq (.reg [⟨(some 26), .mv (.t 0), none⟩, ⟨(some 4), .mv (.t 26), none⟩] none)
 .ret))))⟩
/-- besom/deque.steps -/
def m83 : MFn := ⟨1, 13, [.tmp 2], (.seq (.reg [⟨(some 2), .mv (.k .nils), none⟩] none)
 (.seq (.seq (.reg [⟨(some 3), .mv (.t 0), none⟩] none)
 (.block 0 (.seq (.reg [⟨(some 5), .bin .eql (.t 3) (.k (.int .i64 1)), none⟩, ⟨(some 4), .mv (.t 5), none⟩] none)
 (.cond (.t 4) (.seq (.reg [⟨(some 6), .bslt 1 [(.k (.fn (.func 94) [] [])), (.k (.fn (.func 95) [] [])), (.k (.fn (.func 96) [] [])), (.k (.fn (.func 97) [] []))], none⟩, ⟨(some 2), .mv (.t 6), none⟩] none)
 .ret) (.seq (.reg [⟨(some 8), .bin .eql (.t 3) (.k (.int .i64 2)), none⟩, ⟨(some 7), .mv (.t 8), none⟩] none)
 (.cond (.t 7) (.seq (.reg [⟨(some 9), .bslt 1 [(.k (.fn (.func 94) [] [])), (.k (.fn (.func 98) [] [])), (.k (.fn (.func 99) [] [])), (.k (.fn (.func 100) [] [])), (.k (.fn (.func 101) [] [])), (.k (.fn (.func 102) [] [])), (.k (.fn (.func 103) [] []))], none⟩, ⟨(some 2), .mv (.t 9), none⟩] none)
 .ret) (.seq (.reg [⟨(some 11), .bin .eql (.t 3) (.k (.int .i64 3)), none⟩, ⟨(some 10), .mv (.t 11), none⟩] none)
 (.cond (.t 10) (.seq (.reg [⟨(some 12), .bslt 1 [(.k (.fn (.func 104) [] [])), (.k (.fn (.func 105) [] [])), (.k (.fn (.func 106) [] [])), (.k (.fn (.func 107) [] []))], none⟩, ⟨(some 2), .mv (.t 12), none⟩] none)
 .ret) .skip))))))))
 (.seq (.reg [⟨(some 2), .mv (.k .nils), none⟩] none)
 .ret)))⟩
/-- besom/mem.Do$1 -/
def m84 : MFn := ⟨1, 5, [.tmp 2, .tmp 3], (.seq (.reg [⟨(some 2), .mv (.k (.int .u64 0)), none⟩, ⟨(some 3), .mv (.k (.bool false)), none⟩] none)
 (.seq (.reg [⟨(some 4), .mv (.t 0), none⟩, ⟨(some 2), .mv (.t 4), none⟩, ⟨(some 3), .mv (.k (.bool true)), none⟩] none)
 .ret))⟩
/-- besom/mem.Do$2 -/
def m85 : MFn := ⟨2, 7, [.tmp 3, .tmp 4], (.seq (.reg [⟨(some 3), .mv (.k (.int .u64 0)), none⟩, ⟨(some 4), .mv (.k (.bool false)), none⟩] none)
 (.seq (.reg [⟨(some 5), .fa 2 (.t 1), none⟩, ⟨(some 6), .ld none (.t 5), none⟩, ⟨(some 3), .mv (.t 6), none⟩, ⟨(some 4), .mv (.k (.bool true)), none⟩] none)
 .ret))⟩
/-- besom/mem.Do$3 -/
def m86 : MFn := ⟨2, 11, [.tmp 3, .tmp 4], (.seq (.reg [⟨(some 3), .mv (.k (.int .u64 0)), none⟩, ⟨(some 4), .mv (.k (.bool false)), none⟩] none)
 (.seq (.reg [⟨(some 5), .fa 3 (.t 1), none⟩, ⟨(some 6), .ld none (.t 5), none⟩, ⟨(some 7), .mv (.t 0), none⟩, ⟨(some 8), .fa 2 (.t 1), none⟩, ⟨(some 9), .ld none (.t 8), none⟩, ⟨(some 10), .bin .eql (.t 7) (.t 9), none⟩, ⟨(some 3), .mv (.t 6), none⟩, ⟨(some 4), .mv (.t 10), none⟩] (some [(1, 4)]))
 .ret))⟩
/-- besom/mem.Do$4 -/
def m87 : MFn := ⟨2, 9, [.tmp 3, .tmp 4], (.seq (.reg [⟨(some 3), .mv (.k (.int .u64 0)), none⟩, ⟨(some 4), .mv (.k (.bool false)), none⟩] none)
 (.seq (.reg [⟨(some 5), .mv (.t 0), none⟩, ⟨(some 6), .fa 2 (.t 1), none⟩, ⟨(some 7), .ld none (.t 6), none⟩, ⟨(some 8), .bin .add (.t 5) (.t 7), none⟩, ⟨(some 3), .mv (.t 8), none⟩, ⟨(some 4), .mv (.k (.bool true)), none⟩] none)
 .ret))⟩
/-- slices.Clone[besom/mem.Mem,uint64] -/
def m88 : MFn := ⟨1, 8, [.tmp 2], (.seq (.reg [⟨(some 2), .mv (.k .nils), none⟩] none)
 (.seq (.seq (.reg [⟨(some 3), .mv (.t 0), none⟩, ⟨(some 4), .isn 0 false (.t 3), none⟩] none)
 (.cond (.t 4) (.seq (.reg [⟨(some 2), .mv (.k .nils), none⟩] none)
 .ret) .skip))
 (.seq (.reg [⟨(some 5), .bslt 1 [], none⟩, ⟨(some 6), .mv (.t 0), none⟩, ⟨(some 7), .app 71 1 8 (.t 5) (.t 6), none⟩, ⟨(some 2), .mv (.t 7), none⟩] none)
 .ret)))⟩
/-- slices.pdqsortOrdered[int] -/
def m89 : MFn := ⟨4, 134, [], (.seq (.reg [⟨(some 8), .mv (.k (.bool true)), none⟩] none)
 (.seq (.reg [⟨(some 9), .mv (.k (.bool true)), none⟩] none)
 (.block 0 (.loop (.block 1 (.seq (.reg [⟨(some 19), .mv (.t 2), none⟩, ⟨(some 20), .mv (.t 1), none⟩, ⟨(some 21), .bin .sub (.t 19) (.t 20), none⟩, ⟨(some 10), .mv (.t 21), none⟩] none)
 (.seq (.seq (.reg [⟨(some 22), .mv (.t 10), none⟩, ⟨(some 23), .bin .leq (.t 22) (.k (.int .i64 12)), none⟩] none)
 (.cond (.t 23) (.seq (.reg [⟨(some 24), .mv (.t 0), none⟩, ⟨(some 25), .mv (.t 1), none⟩, ⟨(some 26), .mv (.t 2), none⟩, ⟨(some 27), .call 91 (.k (.fn (.func 108) [] [])) [(.t 24), (.t 25), (.t 26)], none⟩] none)
 .ret) .skip))
 (.seq (.seq (.reg [⟨(some 28), .mv (.t 3), none⟩, ⟨(some 29), .bin .eql (.t 28) (.k (.int .i64 0)), none⟩] none)
 (.cond (.t 29) (.seq (.reg [⟨(some 30), .mv (.t 0), none⟩, ⟨(some 31), .mv (.t 1), none⟩, ⟨(some 32), .mv (.t 2), none⟩, ⟨(some 33), .call 97 (.k (.fn (.func 109) [] [])) [(.t 30), (.t 31), (.t 32)], none⟩] none)
 .ret) .skip))
 (.seq (.seq (.reg [⟨(some 34), .mv (.t 8), none⟩, ⟨(some 35), .un .not (.t 34), none⟩] none)
 (.cond (.t 35) (.seq (.reg [⟨(some 36), .mv (.t 0), none⟩, ⟨(some 37), .mv (.t 1), none⟩, ⟨(some 38), .mv (.t 2), none⟩, ⟨(some 39), .call 103 (.k (.fn (.func 110) [] [])) [(.t 36), (.t 37), (.t 38)], none⟩] none)
 (.reg [⟨(some 40), .mv (.t 3), none⟩, ⟨(some 41), .bin .sub (.t 40) (.k (.int .i64 1)), none⟩, ⟨(some 3), .mv (.t 41), none⟩] none)) .skip))
 (.seq (.reg [⟨(some 43), .mv (.t 0), none⟩, ⟨(some 44), .mv (.t 1), none⟩, ⟨(some 45), .mv (.t 2), none⟩, ⟨(some 46), .call 110 (.k (.fn (.func 111) [] [])) [(.t 43), (.t 44), (.t 45)], none⟩, ⟨(some 42), .mv (.t 46), none⟩, ⟨(some 47), .ext (.t 42) 0, none⟩, ⟨(some 48), .ext (.t 42) 1, none⟩, ⟨(some 11), .mv (.t 47), none⟩, ⟨(some 12), .mv (.t 48), none⟩] none)
 (.seq (.seq (.reg [⟨(some 49), .mv (.t 12), none⟩, ⟨(some 50), .bin .eql (.t 49) (.k (.int .i64 2)), none⟩] none)
 (.cond (.t 50) (.seq (.reg [⟨(some 51), .mv (.t 0), none⟩, ⟨(some 52), .mv (.t 1), none⟩, ⟨(some 53), .mv (.t 2), none⟩, ⟨(some 54), .call 118 (.k (.fn (.func 112) [] [])) [(.t 51), (.t 52), (.t 53)], none⟩] none)
 (.seq (.reg [⟨(some 55), .mv (.t 2), none⟩, ⟨(some 56), .bin .sub (.t 55) (.k (.int .i64 1)), none⟩, ⟨(some 57), .mv (.t 11), none⟩, ⟨(some 58), .mv (.t 1), none⟩, ⟨(some 59), .bin .sub (.t 57) (.t 58), none⟩, ⟨(some 60), .bin .sub (.t 56) (.t 59), none⟩, ⟨(some 11), .mv (.t 60), none⟩] none)
 (.reg [⟨(some 12), .mv (.k (.int .i64 1)), none⟩] none))) .skip))
 (.seq (.seq (.reg [⟨(some 61), .mv (.t 8), none⟩, ⟨(some 62), .mv (.t 61), none⟩, ⟨(some 63), .mv (.t 9), (some (62, true))⟩, ⟨(some 64), .pick (.t 62) (.t 63) (.k (.bool false)), none⟩, ⟨(some 65), .mv (.t 64), none⟩, ⟨(some 66), .mv (.t 12), (some (65, true))⟩, ⟨(some 67), .bin .eql (.t 66) (.k (.int .i64 1)), (some (65, true))⟩, ⟨(some 68), .pick (.t 65) (.t 67) (.k (.bool false)), none⟩] none)
 (.cond (.t 68) (.seq (.reg [⟨(some 69), .mv (.t 0), none⟩, ⟨(some 70), .mv (.t 1), none⟩, ⟨(some 71), .mv (.t 2), none⟩, ⟨(some 72), .call 136 (.k (.fn (.func 113) [] [])) [(.t 69), (.t 70), (.t 71)], none⟩] none)
 (.cond (.t 72) .ret .skip)) .skip))
 (.seq (.seq (.reg [⟨(some 73), .mv (.t 1), none⟩, ⟨(some 74), .bin .gtr (.t 73) (.k (.int .i64 0)), none⟩, ⟨(some 75), .mv (.t 74), none⟩, ⟨(some 76), .mv (.t 0), (some (75, true))⟩, ⟨(some 77), .mv (.t 1), (some (75, true))⟩, ⟨(some 78), .bin .sub (.t 77) (.k (.int .i64 1)), (some (75, true))⟩, ⟨(some 79), .ixs 1 (.t 76) (.t 78), (some (75, true))⟩, ⟨(some 80), .ld none (.t 79), (some (75, true))⟩, ⟨(some 81), .mv (.t 0), (some (75, true))⟩, ⟨(some 82), .mv (.t 11), (some (75, true))⟩, ⟨(some 83), .ixs 1 (.t 81) (.t 82), (some (75, true))⟩, ⟨(some 84), .ld none (.t 83), (some (75, true))⟩, ⟨(some 85), .call 149 (.k (.fn (.func 114) [] [])) [(.t 80), (.t 84)], (some (75, true))⟩, ⟨(some 86), .un .not (.t 85), (some (75, true))⟩, ⟨(some 87), .pick (.t 75) (.t 86) (.k (.bool false)), none⟩] (some [(6, 10), (7, 10), (6, 11), (7, 11)]))
 (.cond (.t 87) (.seq (.reg [⟨(some 88), .mv (.t 0), none⟩, ⟨(some 89), .mv (.t 1), none⟩, ⟨(some 90), .mv (.t 2), none⟩, ⟨(some 91), .mv (.t 11), none⟩, ⟨(some 92), .call 156 (.k (.fn (.func 115) [] [])) [(.t 88), (.t 89), (.t 90), (.t 91)], none⟩, ⟨(some 13), .mv (.t 92), none⟩] none)
 (.seq (.reg [⟨(some 93), .mv (.t 13), none⟩, ⟨(some 1), .mv (.t 93), none⟩] none)
 (.exit 1))) .skip))
 (.seq (.reg [⟨(some 95), .mv (.t 0), none⟩, ⟨(some 96), .mv (.t 1), none⟩, ⟨(some 97), .mv (.t 2), none⟩, ⟨(some 98), .mv (.t 11), none⟩, ⟨(some 99), .call 163 (.k (.fn (.func 116) [] [])) [(.t 95), (.t 96), (.t 97), (.t 98)], none⟩, ⟨(some 94), .mv (.t 99), none⟩, ⟨(some 100), .ext (.t 94) 0, none⟩, ⟨(some 101), .ext (.t 94) 1, none⟩, ⟨(some 14), .mv (.t 100), none⟩, ⟨(some 15), .mv (.t 101), none⟩] none)
 (.seq (.reg [⟨(some 102), .mv (.t 15), none⟩, ⟨(some 9), .mv (.t 102), none⟩] none)
 (.seq (.reg [⟨(some 103), .mv (.t 14), none⟩, ⟨(some 104), .mv (.t 1), none⟩, ⟨(some 105), .bin .sub (.t 103) (.t 104), none⟩, ⟨(some 106), .mv (.t 2), none⟩, ⟨(some 107), .mv (.t 14), none⟩, ⟨(some 108), .bin .sub (.t 106) (.t 107), none⟩, ⟨(some 16), .mv (.t 105), none⟩, ⟨(some 17), .mv (.t 108), none⟩] none)
 (.seq (.reg [⟨(some 109), .mv (.t 10), none⟩, ⟨(some 110), .bin .quo (.t 109) (.k (.int .i64 8)), none⟩, ⟨(some 18), .mv (.t 110), none⟩] none)
 (.seq (.reg [⟨(some 111), .mv (.t 16), none⟩, ⟨(some 112), .mv (.t 17), none⟩, ⟨(some 113), .bin .lss (.t 111) (.t 112), none⟩] none)
 (.cond (.t 113) (.seq (.reg [⟨(some 114), .mv (.t 16), none⟩, ⟨(some 115), .mv (.t 18), none⟩, ⟨(some 116), .bin .geq (.t 114) (.t 115), none⟩, ⟨(some 8), .mv (.t 116), none⟩] none)
 (.seq (.reg [⟨(some 117), .mv (.t 0), none⟩, ⟨(some 118), .mv (.t 1), none⟩, ⟨(some 119), .mv (.t 14), none⟩, ⟨(some 120), .mv (.t 3), none⟩, ⟨(some 121), .call 185 (.k (.fn (.func 89) [] [])) [(.t 117), (.t 118), (.t 119), (.t 120)], none⟩] none)
 (.reg [⟨(some 122), .mv (.t 14), none⟩, ⟨(some 123), .bin .add (.t 122) (.k (.int .i64 1)), none⟩, ⟨(some 1), .mv (.t 123), none⟩] none))) (.seq (.reg [⟨(some 124), .mv (.t 17), none⟩, ⟨(some 125), .mv (.t 18), none⟩, ⟨(some 126), .bin .geq (.t 124) (.t 125), none⟩, ⟨(some 8), .mv (.t 126), none⟩] none)
 (.seq (.reg [⟨(some 127), .mv (.t 0), none⟩, ⟨(some 128), .mv (.t 14), none⟩, ⟨(some 129), .bin .add (.t 128) (.k (.int .i64 1)), none⟩, ⟨(some 130), .mv (.t 2), none⟩, ⟨(some 131), .mv (.t 3), none⟩, ⟨(some 132), .call 196 (.k (.fn (.func 89) [] [])) [(.t 127), (.t 129), (.t 130), (.t 131)], none⟩] none)
 (.reg [⟨(some 133), .mv (.t 14), none⟩, ⟨(some 2), .mv (.t 133), none⟩] none))))))))))))))))))))))⟩
/-- math/bits.Len -/
def m90 : MFn := ⟨1, 8, [.tmp 2], (.seq (.reg [⟨(some 2), .mv (.k (.int .i64 0)), none⟩] none)
 (.seq (.cond (.k (.bool false)) (.seq (.reg [⟨(some 3), .mv (.t 0), none⟩, ⟨(some 4), .conv .u32 (.t 3), none⟩, ⟨(some 5), .call 69 (.k (.fn (.func 117) [] [])) [(.t 4)], none⟩, ⟨(some 2), .mv (.t 5), none⟩] none)
 .ret) .skip)
 (.seq (.reg [⟨(some 6), .mv (.t 0), none⟩, ⟨(some 7), .call 71 (.k (.fn (.func 118) [] [])) [(.t 6)], none⟩, ⟨(some 2), .mv (.t 7), none⟩] none)
 .ret)))⟩
/-- besom/set.bit -/
def m91 : MFn := ⟨1, 12, [.tmp 2], (.seq (.reg [⟨(some 2), .mv (.k (.int .u64 0)), none⟩] none)
 (.seq (.seq (.reg [⟨(some 3), .mv (.t 0), none⟩, ⟨(some 4), .bin .lss (.t 3) (.k (.int .i64 1)), none⟩, ⟨(some 5), .mv (.t 4), none⟩, ⟨(some 6), .mv (.t 0), (some (5, false))⟩, ⟨(some 7), .bin .gtr (.t 6) (.k (.int .i64 64)), (some (5, false))⟩, ⟨(some 8), .pick (.t 5) (.k (.bool true)) (.t 7), none⟩] none)
 (.cond (.t 8) (.seq (.reg [⟨(some 2), .mv (.k (.int .u64 0)), none⟩] none)
 .ret) .skip))
 (.seq (.reg [⟨(some 9), .mv (.t 0), none⟩, ⟨(some 10), .bin .sub (.t 9) (.k (.int .i64 1)), none⟩, ⟨(some 11), .bin .shl (.k (.int .u64 1)) (.t 10), none⟩, ⟨(some 2), .mv (.t 11), none⟩] none)
 .ret)))⟩
/-- math/bits.Mul32 -/
def m92 : MFn := ⟨2, 17, [.tmp 4, .tmp 5], (.seq (.reg [⟨(some 4), .mv (.k (.int .u32 0)), none⟩, ⟨(some 5), .mv (.k (.int .u32 0)), none⟩] none)
 (.seq (.reg [⟨(some 7), .mv (.t 0), none⟩, ⟨(some 8), .conv .u64 (.t 7), none⟩, ⟨(some 9), .mv (.t 1), none⟩, ⟨(some 10), .conv .u64 (.t 9), none⟩, ⟨(some 11), .bin .mul (.t 8) (.t 10), none⟩, ⟨(some 6), .mv (.t 11), none⟩] none)
 (.seq (.reg [⟨(some 12), .mv (.t 6), none⟩, ⟨(some 13), .bin .shr (.t 12) (.k (.int .u64 32)), none⟩, ⟨(some 14), .conv .u32 (.t 13), none⟩, ⟨(some 15), .mv (.t 6), none⟩, ⟨(some 16), .conv .u32 (.t 15), none⟩, ⟨(some 4), .mv (.t 14), none⟩, ⟨(some 5), .mv (.t 16), none⟩] none)
 .ret)))⟩
/-- math/bits.Mul64 -/
def m93 : MFn := ⟨2, 51, [.tmp 4, .tmp 5], (.seq (.reg [⟨(some 4), .mv (.k (.int .u64 0)), none⟩, ⟨(some 5), .mv (.k (.int .u64 0)), none⟩] none)
 (.seq (.reg [⟨(some 14), .mv (.t 0), none⟩, ⟨(some 15), .bin .and (.t 14) (.k (.int .u64 4294967295)), none⟩, ⟨(some 6), .mv (.t 15), none⟩] none)
 (.seq (.reg [⟨(some 16), .mv (.t 0), none⟩, ⟨(some 17), .bin .shr (.t 16) (.k (.int .u64 32)), none⟩, ⟨(some 7), .mv (.t 17), none⟩] none)
 (.seq (.reg [⟨(some 18), .mv (.t 1), none⟩, ⟨(some 19), .bin .and (.t 18) (.k (.int .u64 4294967295)), none⟩, ⟨(some 8), .mv (.t 19), none⟩] none)
 (.seq (.reg [⟨(some 20), .mv (.t 1), none⟩, ⟨(some 21), .bin .shr (.t 20) (.k (.int .u64 32)), none⟩, ⟨(some 9), .mv (.t 21), none⟩] none)
 (.seq (.reg [⟨(some 22), .mv (.t 6), none⟩, ⟨(some 23), .mv (.t 8), none⟩, ⟨(some 24), .bin .mul (.t 22) (.t 23), none⟩, ⟨(some 10), .mv (.t 24), none⟩] none)
 (.seq (.reg [⟨(some 25), .mv (.t 7), none⟩, ⟨(some 26), .mv (.t 8), none⟩, ⟨(some 27), .bin .mul (.t 25) (.t 26), none⟩, ⟨(some 28), .mv (.t 10), none⟩, ⟨(some 29), .bin .shr (.t 28) (.k (.int .u64 32)), none⟩, ⟨(some 30), .bin .add (.t 27) (.t 29), none⟩, ⟨(some 11), .mv (.t 30), none⟩] none)
 (.seq (.reg [⟨(some 31), .mv (.t 11), none⟩, ⟨(some 32), .bin .and (.t 31) (.k (.int .u64 4294967295)), none⟩, ⟨(some 12), .mv (.t 32), none⟩] none)
 (.seq (.reg [⟨(some 33), .mv (.t 11), none⟩, ⟨(some 34), .bin .shr (.t 33) (.k (.int .u64 32)), none⟩, ⟨(some 13), .mv (.t 34), none⟩] none)
 (.seq (.reg [⟨(some 35), .mv (.t 12), none⟩, ⟨(some 36), .mv (.t 6), none⟩, ⟨(some 37), .mv (.t 9), none⟩, ⟨(some 38), .bin .mul (.t 36) (.t 37), none⟩, ⟨(some 39), .bin .add (.t 35) (.t 38), none⟩, ⟨(some 12), .mv (.t 39), none⟩] none)
 (.seq (.reg [⟨(some 40), .mv (.t 7), none⟩, ⟨(some 41), .mv (.t 9), none⟩, ⟨(some 42), .bin .mul (.t 40) (.t 41), none⟩, ⟨(some 43), .mv (.t 13), none⟩, ⟨(some 44), .bin .add (.t 42) (.t 43), none⟩, ⟨(some 45), .mv (.t 12), none⟩, ⟨(some 46), .bin .shr (.t 45) (.k (.int .u64 32)), none⟩, ⟨(some 47), .bin .add (.t 44) (.t 46), none⟩, ⟨(some 4), .mv (.t 47), none⟩] none)
 (.seq (.reg [⟨(some 48), .mv (.t 0), none⟩, ⟨(some 49), .mv (.t 1), none⟩, ⟨(some 50), .bin .mul (.t 48) (.t 49), none⟩, ⟨(some 5), .mv (.t 50), none⟩] none)
 .ret))))))))))))⟩
/-- (*besom/deque.Machine).seeBottom -/
def m94 : MFn := ⟨2, 13, [.tmp 4], (.seq (.reg [⟨(some 4), .mv (.k .nils), none⟩] none)
 (.seq (.reg [⟨(some 5), .mv (.t 0), none⟩, ⟨(some 6), .mv (.t 1), none⟩, ⟨(some 7), .mv (.t 0), none⟩, ⟨(some 8), .call 72 (.k (.fn (.func 65) [] [])) [(.t 7)], none⟩, ⟨(some 9), .call 73 (.k (.fn (.func 63) [] [])) [(.t 6), (.t 8)], none⟩, ⟨(some 10), .nilc (.t 5), none⟩, ⟨(some 11), .fa 4 (.t 10), none⟩, ⟨none, .st 1 (.t 11) (.t 9), none⟩] none)
 (.seq (.reg [⟨(some 12), .mv (.t 1), none⟩, ⟨(some 4), .mv (.t 12), none⟩] none)
 .ret)))⟩
/-- (*besom/deque.Machine).room -/
def m95 : MFn := ⟨2, 27, [.tmp 4], (.seq (.reg [⟨(some 4), .mv (.k .nils), none⟩] none)
 (.seq (.seq (.reg [⟨(some 5), .mv (.t 0), none⟩, ⟨(some 6), .mv (.t 1), none⟩, ⟨(some 7), .mv (.t 0), none⟩, ⟨(some 8), .call 72 (.k (.fn (.func 64) [] [])) [(.t 7)], none⟩, ⟨(some 9), .call 73 (.k (.fn (.func 63) [] [])) [(.t 6), (.t 8)], none⟩, ⟨(some 10), .nilc (.t 5), none⟩, ⟨(some 11), .fa 5 (.t 10), none⟩, ⟨none, .st 1 (.t 11) (.t 9), none⟩] none)
 (.seq (.reg [⟨(some 12), .mv (.t 0), none⟩, ⟨(some 13), .nilc (.t 12), none⟩, ⟨(some 14), .fa 4 (.t 13), none⟩, ⟨(some 15), .ld none (.t 14), none⟩, ⟨(some 16), .mv (.t 0), none⟩, ⟨(some 17), .nilc (.t 16), none⟩, ⟨(some 18), .fa 5 (.t 17), none⟩, ⟨(some 19), .ld none (.t 18), none⟩, ⟨(some 20), .bin .sub (.t 15) (.t 19), none⟩, ⟨(some 21), .mv (.t 0), none⟩, ⟨(some 22), .call 86 (.k (.fn (.func 67) [] [])) [(.t 21)], none⟩, ⟨(some 23), .bin .geq (.t 20) (.t 22), none⟩] (some [(3, 7), (3, 10), (7, 10)]))
 (.cond (.t 23) (.reg [⟨(some 24), .mv (.t 0), none⟩, ⟨(some 25), .call 89 (.k (.fn (.func 119) [] [])) [(.t 24), (.k (.int .i64 3))], none⟩] none) .skip)))
 (.seq (.reg [⟨(some 26), .mv (.t 1), none⟩, ⟨(some 4), .mv (.t 26), none⟩] none)
 .ret)))⟩
/-- (*besom/deque.Machine).put -/
def m96 : MFn := ⟨2, 18, [.tmp 4], (.seq (.reg [⟨(some 4), .mv (.k .nils), none⟩] none)
 (.seq (.reg [⟨(some 5), .mv (.t 1), none⟩, ⟨(some 6), .mv (.t 0), none⟩, ⟨(some 7), .mv (.t 0), none⟩, ⟨(some 8), .nilc (.t 7), none⟩, ⟨(some 9), .fa 4 (.t 8), none⟩, ⟨(some 10), .ld none (.t 9), none⟩, ⟨(some 11), .call 75 (.k (.fn (.func 68) [] [])) [(.t 6), (.t 10)], none⟩, ⟨(some 12), .mv (.t 0), none⟩, ⟨(some 13), .nilc (.t 12), none⟩, ⟨(some 14), .fa 6 (.t 13), none⟩, ⟨(some 15), .ld none (.t 14), none⟩, ⟨(some 16), .conv .u64 (.t 15), none⟩, ⟨(some 17), .call 81 (.k (.fn (.func 120) [] [])) [(.t 5), (.t 11), (.t 16)], none⟩, ⟨(some 4), .mv (.t 17), none⟩] (some [(5, 10), (6, 10)]))
 .ret))⟩
/-- (*besom/deque.Machine).publish -/
def m97 : MFn := ⟨2, 16, [.tmp 4], (.seq (.reg [⟨(some 4), .mv (.k .nils), none⟩] none)
 (.seq (.reg [⟨(some 5), .mv (.t 0), none⟩, ⟨(some 6), .call 70 (.k (.fn (.func 119) [] [])) [(.t 5), (.k (.int .i64 1))], none⟩] none)
 (.seq (.reg [⟨(some 7), .mv (.t 1), none⟩, ⟨(some 8), .mv (.t 0), none⟩, ⟨(some 9), .call 73 (.k (.fn (.func 65) [] [])) [(.t 8)], none⟩, ⟨(some 10), .mv (.t 0), none⟩, ⟨(some 11), .nilc (.t 10), none⟩, ⟨(some 12), .fa 4 (.t 11), none⟩, ⟨(some 13), .ld none (.t 12), none⟩, ⟨(some 14), .bin .add (.t 13) (.k (.int .u64 1)), none⟩, ⟨(some 15), .call 79 (.k (.fn (.func 120) [] [])) [(.t 7), (.t 9), (.t 14)], none⟩, ⟨(some 4), .mv (.t 15), none⟩] (some [(2, 6)]))
 .ret)))⟩
/-- (*besom/deque.Machine).claim -/
def m98 : MFn := ⟨2, 14, [.tmp 4], (.seq (.reg [⟨(some 4), .mv (.k .nils), none⟩] none)
 (.seq (.reg [⟨(some 5), .mv (.t 1), none⟩, ⟨(some 6), .mv (.t 0), none⟩, ⟨(some 7), .call 71 (.k (.fn (.func 65) [] [])) [(.t 6)], none⟩, ⟨(some 8), .mv (.t 0), none⟩, ⟨(some 9), .nilc (.t 8), none⟩, ⟨(some 10), .fa 4 (.t 9), none⟩, ⟨(some 11), .ld none (.t 10), none⟩, ⟨(some 12), .bin .sub (.t 11) (.k (.int .u64 1)), none⟩, ⟨(some 13), .call 77 (.k (.fn (.func 120) [] [])) [(.t 5), (.t 7), (.t 12)], none⟩, ⟨(some 4), .mv (.t 13), none⟩] (some [(2, 6)]))
 .ret))⟩
/-- (*besom/deque.Machine).seeTop -/
def m99 : MFn := ⟨2, 26, [.tmp 4], (.seq (.reg [⟨(some 4), .mv (.k .nils), none⟩] none)
 (.seq (.seq (.reg [⟨(some 5), .mv (.t 0), none⟩, ⟨(some 6), .mv (.t 1), none⟩, ⟨(some 7), .mv (.t 0), none⟩, ⟨(some 8), .call 72 (.k (.fn (.func 64) [] [])) [(.t 7)], none⟩, ⟨(some 9), .call 73 (.k (.fn (.func 63) [] [])) [(.t 6), (.t 8)], none⟩, ⟨(some 10), .nilc (.t 5), none⟩, ⟨(some 11), .fa 5 (.t 10), none⟩, ⟨none, .st 1 (.t 11) (.t 9), none⟩] none)
 (.seq (.reg [⟨(some 12), .mv (.t 0), none⟩, ⟨(some 13), .nilc (.t 12), none⟩, ⟨(some 14), .fa 5 (.t 13), none⟩, ⟨(some 15), .ld none (.t 14), none⟩, ⟨(some 16), .mv (.t 0), none⟩, ⟨(some 17), .nilc (.t 16), none⟩, ⟨(some 18), .fa 4 (.t 17), none⟩, ⟨(some 19), .ld none (.t 18), none⟩, ⟨(some 20), .bin .sub (.t 19) (.k (.int .u64 1)), none⟩, ⟨(some 21), .call 85 (.k (.fn (.func 66) [] [])) [(.t 15), (.t 20)], none⟩] (some [(3, 7)]))
 (.cond (.t 21) (.reg [⟨(some 22), .mv (.t 0), none⟩, ⟨(some 23), .nilc (.t 22), none⟩, ⟨(some 24), .fa 1 (.t 23), none⟩, ⟨none, .st 1 (.t 24) (.k (.int .i64 4)), none⟩] none) .skip)))
 (.seq (.reg [⟨(some 25), .mv (.t 1), none⟩, ⟨(some 4), .mv (.t 25), none⟩] none)
 .ret)))⟩
/-- (*besom/deque.Machine).get -/
def m100 : MFn := ⟨2, 31, [.tmp 4], (.seq (.reg [⟨(some 4), .mv (.k .nils), none⟩] none)
 (.seq (.reg [⟨(some 5), .mv (.t 0), none⟩, ⟨(some 6), .mv (.t 1), none⟩, ⟨(some 7), .mv (.t 0), none⟩, ⟨(some 8), .mv (.t 0), none⟩, ⟨(some 9), .nilc (.t 8), none⟩, ⟨(some 10), .fa 4 (.t 9), none⟩, ⟨(some 11), .ld none (.t 10), none⟩, ⟨(some 12), .bin .sub (.t 11) (.k (.int .u64 1)), none⟩, ⟨(some 13), .call 77 (.k (.fn (.func 68) [] [])) [(.t 7), (.t 12)], none⟩, ⟨(some 14), .call 78 (.k (.fn (.func 63) [] [])) [(.t 6), (.t 13)], none⟩, ⟨(some 15), .conv .i64 (.t 14), none⟩, ⟨(some 16), .nilc (.t 5), none⟩, ⟨(some 17), .fa 6 (.t 16), none⟩, ⟨none, .st 1 (.t 17) (.t 15), none⟩] none)
 (.seq (.seq (.reg [⟨(some 18), .mv (.t 0), none⟩, ⟨(some 19), .nilc (.t 18), none⟩, ⟨(some 20), .fa 5 (.t 19), none⟩, ⟨(some 21), .ld none (.t 20), none⟩, ⟨(some 22), .mv (.t 0), none⟩, ⟨(some 23), .nilc (.t 22), none⟩, ⟨(some 24), .fa 4 (.t 23), none⟩, ⟨(some 25), .ld none (.t 24), none⟩, ⟨(some 26), .bin .sub (.t 25) (.k (.int .u64 1)), none⟩, ⟨(some 27), .bin .neq (.t 21) (.t 26), none⟩] (some [(3, 7)]))
 (.cond (.t 27) (.reg [⟨(some 28), .mv (.t 0), none⟩, ⟨(some 29), .call 93 (.k (.fn (.func 119) [] [])) [(.t 28), (.k (.int .i64 1))], none⟩] none) .skip))
 (.seq (.reg [⟨(some 30), .mv (.t 1), none⟩, ⟨(some 4), .mv (.t 30), none⟩] none)
 .ret))))⟩
/-- (*besom/deque.Machine).race -/
def m101 : MFn := ⟨2, 17, [.tmp 4], (.seq (.reg [⟨(some 4), .mv (.k .nils), none⟩] none)
 (.seq (.reg [⟨(some 7), .mv (.t 0), none⟩, ⟨(some 8), .mv (.t 1), none⟩, ⟨(some 9), .call 73 (.k (.fn (.func 121) [] [])) [(.t 7), (.t 8)], none⟩, ⟨(some 6), .mv (.t 9), none⟩, ⟨(some 10), .ext (.t 6) 0, none⟩, ⟨(some 11), .ext (.t 6) 1, none⟩, ⟨(some 1), .mv (.t 10), none⟩, ⟨(some 5), .mv (.t 11), none⟩] none)
 (.seq (.seq (.reg [⟨(some 12), .mv (.t 5), none⟩] none)
 (.cond (.t 12) (.reg [⟨(some 13), .mv (.t 0), none⟩, ⟨(some 14), .nilc (.t 13), none⟩, ⟨(some 15), .fa 1 (.t 14), none⟩, ⟨none, .st 1 (.t 15) (.k (.int .i64 5)), none⟩] none) .skip))
 (.seq (.reg [⟨(some 16), .mv (.t 1), none⟩, ⟨(some 4), .mv (.t 16), none⟩] none)
 .ret))))⟩
/-- (*besom/deque.Machine).fail -/
def m102 : MFn := ⟨2, 15, [.tmp 4], (.seq (.reg [⟨(some 4), .mv (.k .nils), none⟩] none)
 (.seq (.reg [⟨(some 5), .mv (.t 0), none⟩, ⟨(some 6), .call 70 (.k (.fn (.func 119) [] [])) [(.t 5), (.k (.int .i64 2))], none⟩] none)
 (.seq (.reg [⟨(some 7), .mv (.t 1), none⟩, ⟨(some 8), .mv (.t 0), none⟩, ⟨(some 9), .call 73 (.k (.fn (.func 65) [] [])) [(.t 8)], none⟩, ⟨(some 10), .mv (.t 0), none⟩, ⟨(some 11), .nilc (.t 10), none⟩, ⟨(some 12), .fa 4 (.t 11), none⟩, ⟨(some 13), .ld none (.t 12), none⟩, ⟨(some 14), .call 78 (.k (.fn (.func 120) [] [])) [(.t 7), (.t 9), (.t 13)], none⟩, ⟨(some 4), .mv (.t 14), none⟩] (some [(2, 6)]))
 .ret)))⟩
/-- (*besom/deque.Machine).won -/
def m103 : MFn := ⟨2, 15, [.tmp 4], (.seq (.reg [⟨(some 4), .mv (.k .nils), none⟩] none)
 (.seq (.reg [⟨(some 5), .mv (.t 0), none⟩, ⟨(some 6), .call 70 (.k (.fn (.func 119) [] [])) [(.t 5), (.k (.int .i64 1))], none⟩] none)
 (.seq (.reg [⟨(some 7), .mv (.t 1), none⟩, ⟨(some 8), .mv (.t 0), none⟩, ⟨(some 9), .call 73 (.k (.fn (.func 65) [] [])) [(.t 8)], none⟩, ⟨(some 10), .mv (.t 0), none⟩, ⟨(some 11), .nilc (.t 10), none⟩, ⟨(some 12), .fa 4 (.t 11), none⟩, ⟨(some 13), .ld none (.t 12), none⟩, ⟨(some 14), .call 78 (.k (.fn (.func 120) [] [])) [(.t 7), (.t 9), (.t 13)], none⟩, ⟨(some 4), .mv (.t 14), none⟩] (some [(2, 6)]))
 .ret)))⟩
/-- (*besom/deque.Machine).aim -/
def m104 : MFn := ⟨2, 13, [.tmp 4], (.seq (.reg [⟨(some 4), .mv (.k .nils), none⟩] none)
 (.seq (.reg [⟨(some 5), .mv (.t 0), none⟩, ⟨(some 6), .mv (.t 1), none⟩, ⟨(some 7), .mv (.t 0), none⟩, ⟨(some 8), .call 72 (.k (.fn (.func 64) [] [])) [(.t 7)], none⟩, ⟨(some 9), .call 73 (.k (.fn (.func 63) [] [])) [(.t 6), (.t 8)], none⟩, ⟨(some 10), .nilc (.t 5), none⟩, ⟨(some 11), .fa 5 (.t 10), none⟩, ⟨none, .st 1 (.t 11) (.t 9), none⟩] none)
 (.seq (.reg [⟨(some 12), .mv (.t 1), none⟩, ⟨(some 4), .mv (.t 12), none⟩] none)
 .ret)))⟩
/-- (*besom/deque.Machine).any -/
def m105 : MFn := ⟨2, 26, [.tmp 4], (.seq (.reg [⟨(some 4), .mv (.k .nils), none⟩] none)
 (.seq (.seq (.reg [⟨(some 5), .mv (.t 0), none⟩, ⟨(some 6), .mv (.t 1), none⟩, ⟨(some 7), .mv (.t 0), none⟩, ⟨(some 8), .call 72 (.k (.fn (.func 65) [] [])) [(.t 7)], none⟩, ⟨(some 9), .call 73 (.k (.fn (.func 63) [] [])) [(.t 6), (.t 8)], none⟩, ⟨(some 10), .nilc (.t 5), none⟩, ⟨(some 11), .fa 4 (.t 10), none⟩, ⟨none, .st 1 (.t 11) (.t 9), none⟩] none)
 (.seq (.reg [⟨(some 12), .mv (.t 0), none⟩, ⟨(some 13), .nilc (.t 12), none⟩, ⟨(some 14), .fa 4 (.t 13), none⟩, ⟨(some 15), .ld none (.t 14), none⟩, ⟨(some 16), .mv (.t 0), none⟩, ⟨(some 17), .nilc (.t 16), none⟩, ⟨(some 18), .fa 5 (.t 17), none⟩, ⟨(some 19), .ld none (.t 18), none⟩, ⟨(some 20), .call 84 (.k (.fn (.func 66) [] [])) [(.t 15), (.t 19)], none⟩, ⟨(some 21), .un .not (.t 20), none⟩] (some [(3, 7)]))
 (.cond (.t 21) (.reg [⟨(some 22), .mv (.t 0), none⟩, ⟨(some 23), .nilc (.t 22), none⟩, ⟨(some 24), .fa 7 (.t 23), none⟩, ⟨none, .st 1 (.t 24) (.k (.int .i64 2)), none⟩] none) .skip)))
 (.seq (.reg [⟨(some 25), .mv (.t 1), none⟩, ⟨(some 4), .mv (.t 25), none⟩] none)
 .ret)))⟩
/-- (*besom/deque.Machine).peek -/
def m106 : MFn := ⟨2, 18, [.tmp 4], (.seq (.reg [⟨(some 4), .mv (.k .nils), none⟩] none)
 (.seq (.reg [⟨(some 5), .mv (.t 0), none⟩, ⟨(some 6), .mv (.t 1), none⟩, ⟨(some 7), .mv (.t 0), none⟩, ⟨(some 8), .mv (.t 0), none⟩, ⟨(some 9), .nilc (.t 8), none⟩, ⟨(some 10), .fa 5 (.t 9), none⟩, ⟨(some 11), .ld none (.t 10), none⟩, ⟨(some 12), .call 76 (.k (.fn (.func 68) [] [])) [(.t 7), (.t 11)], none⟩, ⟨(some 13), .call 77 (.k (.fn (.func 63) [] [])) [(.t 6), (.t 12)], none⟩, ⟨(some 14), .conv .i64 (.t 13), none⟩, ⟨(some 15), .nilc (.t 5), none⟩, ⟨(some 16), .fa 6 (.t 15), none⟩, ⟨none, .st 1 (.t 16) (.t 14), none⟩] none)
 (.seq (.reg [⟨(some 17), .mv (.t 1), none⟩, ⟨(some 4), .mv (.t 17), none⟩] none)
 .ret)))⟩
/-- (*besom/deque.Machine).snatch -/
def m107 : MFn := ⟨2, 18, [.tmp 4], (.seq (.reg [⟨(some 4), .mv (.k .nils), none⟩] none)
 (.seq (.reg [⟨(some 7), .mv (.t 0), none⟩, ⟨(some 8), .mv (.t 1), none⟩, ⟨(some 9), .call 73 (.k (.fn (.func 121) [] [])) [(.t 7), (.t 8)], none⟩, ⟨(some 6), .mv (.t 9), none⟩, ⟨(some 10), .ext (.t 6) 0, none⟩, ⟨(some 11), .ext (.t 6) 1, none⟩, ⟨(some 1), .mv (.t 10), none⟩, ⟨(some 5), .mv (.t 11), none⟩] none)
 (.seq (.seq (.reg [⟨(some 12), .mv (.t 5), none⟩] none)
 (.cond (.t 12) (.reg [⟨(some 13), .mv (.t 0), none⟩, ⟨(some 14), .call 78 (.k (.fn (.func 119) [] [])) [(.t 13), (.k (.int .i64 1))], none⟩] none) (.reg [⟨(some 15), .mv (.t 0), none⟩, ⟨(some 16), .call 80 (.k (.fn (.func 119) [] [])) [(.t 15), (.k (.int .i64 4))], none⟩] none)))
 (.seq (.reg [⟨(some 17), .mv (.t 1), none⟩, ⟨(some 4), .mv (.t 17), none⟩] none)
 .ret))))⟩
/-- slices.insertionSortOrdered[int] -/
def m108 : MFn := ⟨3, 49, [], (.seq (.reg [⟨(some 8), .mv (.t 1), none⟩, ⟨(some 9), .bin .add (.t 8) (.k (.int .i64 1)), none⟩, ⟨(some 6), .mv (.t 9), none⟩] none)
 (.block 0 (.loop (.seq (.seq (.reg [⟨(some 10), .mv (.t 6), none⟩, ⟨(some 11), .mv (.t 2), none⟩, ⟨(some 12), .bin .lss (.t 10) (.t 11), none⟩] none)
 (.cond (.t 12) .skip (.exit 0)))
 (.seq (.block 1 (.seq (.reg [⟨(some 15), .mv (.t 6), none⟩, ⟨(some 7), .mv (.t 15), none⟩] none)
 (.block 2 (.loop (.seq (.seq (.reg [⟨(some 16), .mv (.t 7), none⟩, ⟨(some 17), .mv (.t 1), none⟩, ⟨(some 18), .bin .gtr (.t 16) (.t 17), none⟩, ⟨(some 19), .mv (.t 18), none⟩, ⟨(some 20), .mv (.t 0), (some (19, true))⟩, ⟨(some 21), .mv (.t 7), (some (19, true))⟩, ⟨(some 22), .ixs 1 (.t 20) (.t 21), (some (19, true))⟩, ⟨(some 23), .ld none (.t 22), (some (19, true))⟩, ⟨(some 24), .mv (.t 0), (some (19, true))⟩, ⟨(some 25), .mv (.t 7), (some (19, true))⟩, ⟨(some 26), .bin .sub (.t 25) (.k (.int .i64 1)), (some (19, true))⟩, ⟨(some 27), .ixs 1 (.t 24) (.t 26), (some (19, true))⟩, ⟨(some 28), .ld none (.t 27), (some (19, true))⟩, ⟨(some 29), .call 93 (.k (.fn (.func 114) [] [])) [(.t 23), (.t 28)], (some (19, true))⟩, ⟨(some 30), .pick (.t 19) (.t 29) (.k (.bool false)), none⟩] (some [(6, 11), (7, 11), (6, 12), (7, 12)]))
 (.cond (.t 30) .skip (.exit 2)))
 (.seq (.block 3 (.reg [⟨(some 33), .mv (.t 0), none⟩, ⟨(some 34), .mv (.t 7), none⟩, ⟨(some 35), .mv (.t 0), none⟩, ⟨(some 36), .mv (.t 7), none⟩, ⟨(some 37), .bin .sub (.t 36) (.k (.int .i64 1)), none⟩, ⟨(some 38), .mv (.t 0), none⟩, ⟨(some 39), .mv (.t 7), none⟩, ⟨(some 40), .bin .sub (.t 39) (.k (.int .i64 1)), none⟩, ⟨(some 41), .ixs 1 (.t 38) (.t 40), none⟩, ⟨(some 42), .ld none (.t 41), none⟩, ⟨(some 43), .mv (.t 0), none⟩, ⟨(some 44), .mv (.t 7), none⟩, ⟨(some 45), .ixs 1 (.t 43) (.t 44), none⟩, ⟨(some 46), .ld none (.t 45), none⟩, ⟨(some 47), .ixs 1 (.t 33) (.t 34), none⟩, ⟨none, .st 1 (.t 47) (.t 42), none⟩, ⟨(some 48), .ixs 1 (.t 35) (.t 37), none⟩, ⟨none, .st 1 (.t 48) (.t 46), none⟩] (some [(8, 12), (9, 12), (8, 13), (9, 13)])))
 (.reg [⟨(some 31), .mv (.t 7), none⟩, ⟨(some 32), .bin .sub (.t 31) (.k (.int .i64 1)), none⟩, ⟨(some 7), .mv (.t 32), none⟩] none)))))))
 (.reg [⟨(some 13), .mv (.t 6), none⟩, ⟨(some 14), .bin .add (.t 13) (.k (.int .i64 1)), none⟩, ⟨(some 6), .mv (.t 14), none⟩] none))))))⟩
/-- slices.heapSortOrdered[int] -/
def m109 : MFn := ⟨3, 56, [], (.seq (.reg [⟨(some 11), .mv (.t 1), none⟩, ⟨(some 6), .mv (.t 11), none⟩] none)
 (.seq (.reg [⟨(some 7), .mv (.k (.int .i64 0)), none⟩] none)
 (.seq (.reg [⟨(some 12), .mv (.t 2), none⟩, ⟨(some 13), .mv (.t 1), none⟩, ⟨(some 14), .bin .sub (.t 12) (.t 13), none⟩, ⟨(some 8), .mv (.t 14), none⟩] none)
 (.seq (.seq (.reg [⟨(some 15), .mv (.t 8), none⟩, ⟨(some 16), .bin .sub (.t 15) (.k (.int .i64 1)), none⟩, ⟨(some 17), .bin .quo (.t 16) (.k (.int .i64 2)), none⟩, ⟨(some 9), .mv (.t 17), none⟩] none)
 (.block 0 (.loop (.seq (.seq (.reg [⟨(some 18), .mv (.t 9), none⟩, ⟨(some 19), .bin .geq (.t 18) (.k (.int .i64 0)), none⟩] none)
 (.cond (.t 19) .skip (.exit 0)))
 (.seq (.block 1 (.reg [⟨(some 22), .mv (.t 0), none⟩, ⟨(some 23), .mv (.t 9), none⟩, ⟨(some 24), .mv (.t 8), none⟩, ⟨(some 25), .mv (.t 6), none⟩, ⟨(some 26), .call 90 (.k (.fn (.func 122) [] [])) [(.t 22), (.t 23), (.t 24), (.t 25)], none⟩] none))
 (.reg [⟨(some 20), .mv (.t 9), none⟩, ⟨(some 21), .bin .sub (.t 20) (.k (.int .i64 1)), none⟩, ⟨(some 9), .mv (.t 21), none⟩] none))))))
 (.seq (.reg [⟨(some 27), .mv (.t 8), none⟩, ⟨(some 28), .bin .sub (.t 27) (.k (.int .i64 1)), none⟩, ⟨(some 10), .mv (.t 28), none⟩] none)
 (.block 2 (.loop (.seq (.seq (.reg [⟨(some 29), .mv (.t 10), none⟩, ⟨(some 30), .bin .geq (.t 29) (.k (.int .i64 0)), none⟩] none)
 (.cond (.t 30) .skip (.exit 2)))
 (.seq (.block 3 (.seq (.reg [⟨(some 33), .mv (.t 0), none⟩, ⟨(some 34), .mv (.t 6), none⟩, ⟨(some 35), .mv (.t 0), none⟩, ⟨(some 36), .mv (.t 6), none⟩, ⟨(some 37), .mv (.t 10), none⟩, ⟨(some 38), .bin .add (.t 36) (.t 37), none⟩, ⟨(some 39), .mv (.t 0), none⟩, ⟨(some 40), .mv (.t 6), none⟩, ⟨(some 41), .mv (.t 10), none⟩, ⟨(some 42), .bin .add (.t 40) (.t 41), none⟩, ⟨(some 43), .ixs 1 (.t 39) (.t 42), none⟩, ⟨(some 44), .ld none (.t 43), none⟩, ⟨(some 45), .mv (.t 0), none⟩, ⟨(some 46), .mv (.t 6), none⟩, ⟨(some 47), .ixs 1 (.t 45) (.t 46), none⟩, ⟨(some 48), .ld none (.t 47), none⟩, ⟨(some 49), .ixs 1 (.t 33) (.t 34), none⟩, ⟨none, .st 1 (.t 49) (.t 44), none⟩, ⟨(some 50), .ixs 1 (.t 35) (.t 38), none⟩, ⟨none, .st 1 (.t 50) (.t 48), none⟩] (some [(10, 14), (11, 14), (10, 15), (11, 15)]))
 (.reg [⟨(some 51), .mv (.t 0), none⟩, ⟨(some 52), .mv (.t 7), none⟩, ⟨(some 53), .mv (.t 10), none⟩, ⟨(some 54), .mv (.t 6), none⟩, ⟨(some 55), .call 119 (.k (.fn (.func 122) [] [])) [(.t 51), (.t 52), (.t 53), (.t 54)], none⟩] none)))
 (.reg [⟨(some 31), .mv (.t 10), none⟩, ⟨(some 32), .bin .sub (.t 31) (.k (.int .i64 1)), none⟩, ⟨(some 10), .mv (.t 32), none⟩] none))))))))))⟩
/-- slices.breakPatternsOrdered[int] -/
def m110 : MFn := ⟨3, 65, [], (.seq (.reg [⟨(some 11), .mv (.t 2), none⟩, ⟨(some 12), .mv (.t 1), none⟩, ⟨(some 13), .bin .sub (.t 11) (.t 12), none⟩, ⟨(some 6), .mv (.t 13), none⟩] none)
 (.seq (.reg [⟨(some 14), .mv (.t 6), none⟩, ⟨(some 15), .bin .geq (.t 14) (.k (.int .i64 8)), none⟩] none)
 (.cond (.t 15) (.seq (.reg [⟨(some 16), .mv (.t 6), none⟩, ⟨(some 17), .conv .u64 (.t 16), none⟩, ⟨(some 7), .alloc 71 [(.int .u64 0)], none⟩, ⟨none, .st 1 (.t 7) (.t 17), none⟩] none)
 (.seq (.reg [⟨(some 18), .mv (.t 6), none⟩, ⟨(some 19), .call 83 (.k (.fn (.func 123) [] [])) [(.t 18)], none⟩, ⟨(some 8), .mv (.t 19), none⟩] none)
 (.seq (.reg [⟨(some 20), .mv (.t 1), none⟩, ⟨(some 21), .mv (.t 6), none⟩, ⟨(some 22), .bin .quo (.t 21) (.k (.int .i64 4)), none⟩, ⟨(some 23), .bin .mul (.t 22) (.k (.int .i64 2)), none⟩, ⟨(some 24), .bin .add (.t 20) (.t 23), none⟩, ⟨(some 25), .bin .sub (.t 24) (.k (.int .i64 1)), none⟩, ⟨(some 9), .mv (.t 25), none⟩] none)
 (.block 0 (.loop (.seq (.seq (.reg [⟨(some 26), .mv (.t 9), none⟩, ⟨(some 27), .mv (.t 1), none⟩, ⟨(some 28), .mv (.t 6), none⟩, ⟨(some 29), .bin .quo (.t 28) (.k (.int .i64 4)), none⟩, ⟨(some 30), .bin .mul (.t 29) (.k (.int .i64 2)), none⟩, ⟨(some 31), .bin .add (.t 27) (.t 30), none⟩, ⟨(some 32), .bin .add (.t 31) (.k (.int .i64 1)), none⟩, ⟨(some 33), .bin .leq (.t 26) (.t 32), none⟩] none)
 (.cond (.t 33) .skip (.exit 0)))
 (.seq (.block 1 (.seq (.reg [⟨(some 36), .call 100 (.k (.fn (.func 124) [] [])) [(.t 7)], none⟩, ⟨(some 37), .mv (.t 8), none⟩, ⟨(some 38), .bin .sub (.t 37) (.k (.int .u64 1)), none⟩, ⟨(some 39), .bin .and (.t 36) (.t 38), none⟩, ⟨(some 40), .conv .i64 (.t 39), none⟩, ⟨(some 10), .mv (.t 40), none⟩] none)
 (.seq (.seq (.reg [⟨(some 41), .mv (.t 10), none⟩, ⟨(some 42), .mv (.t 6), none⟩, ⟨(some 43), .bin .geq (.t 41) (.t 42), none⟩] none)
 (.cond (.t 43) (.reg [⟨(some 44), .mv (.t 10), none⟩, ⟨(some 45), .mv (.t 6), none⟩, ⟨(some 46), .bin .sub (.t 44) (.t 45), none⟩, ⟨(some 10), .mv (.t 46), none⟩] none) .skip))
 (.reg [⟨(some 47), .mv (.t 0), none⟩, ⟨(some 48), .mv (.t 9), none⟩, ⟨(some 49), .mv (.t 0), none⟩, ⟨(some 50), .mv (.t 1), none⟩, ⟨(some 51), .mv (.t 10), none⟩, ⟨(some 52), .bin .add (.t 50) (.t 51), none⟩, ⟨(some 53), .mv (.t 0), none⟩, ⟨(some 54), .mv (.t 1), none⟩, ⟨(some 55), .mv (.t 10), none⟩, ⟨(some 56), .bin .add (.t 54) (.t 55), none⟩, ⟨(some 57), .ixs 1 (.t 53) (.t 56), none⟩, ⟨(some 58), .ld none (.t 57), none⟩, ⟨(some 59), .mv (.t 0), none⟩, ⟨(some 60), .mv (.t 9), none⟩, ⟨(some 61), .ixs 1 (.t 59) (.t 60), none⟩, ⟨(some 62), .ld none (.t 61), none⟩, ⟨(some 63), .ixs 1 (.t 47) (.t 48), none⟩, ⟨none, .st 1 (.t 63) (.t 58), none⟩, ⟨(some 64), .ixs 1 (.t 49) (.t 52), none⟩, ⟨none, .st 1 (.t 64) (.t 62), none⟩] (some [(10, 14), (11, 14), (10, 15), (11, 15)])))))
 (.reg [⟨(some 34), .mv (.t 9), none⟩, ⟨(some 35), .bin .add (.t 34) (.k (.int .i64 1)), none⟩, ⟨(some 9), .mv (.t 35), none⟩] none)))))))) .skip)))⟩
/-- slices.choosePivotOrdered[int] -/
def m111 : MFn := ⟨3, 57, [.tmp 6, .tmp 7], (.seq (.reg [⟨(some 6), .mv (.k (.int .i64 0)), none⟩, ⟨(some 7), .mv (.k (.int .i64 0)), none⟩] none)
 (.seq (.reg [⟨(some 13), .mv (.t 2), none⟩, ⟨(some 14), .mv (.t 1), none⟩, ⟨(some 15), .bin .sub (.t 13) (.t 14), none⟩, ⟨(some 8), .mv (.t 15), none⟩] none)
 (.seq (.reg [⟨(some 9), .alloc 73 [(.int .i64 0)], none⟩] none)
 (.seq (.reg [⟨(some 16), .mv (.t 1), none⟩, ⟨(some 17), .mv (.t 8), none⟩, ⟨(some 18), .bin .quo (.t 17) (.k (.int .i64 4)), none⟩, ⟨(some 19), .bin .mul (.t 18) (.k (.int .i64 1)), none⟩, ⟨(some 20), .bin .add (.t 16) (.t 19), none⟩, ⟨(some 10), .mv (.t 20), none⟩] none)
 (.seq (.reg [⟨(some 21), .mv (.t 1), none⟩, ⟨(some 22), .mv (.t 8), none⟩, ⟨(some 23), .bin .quo (.t 22) (.k (.int .i64 4)), none⟩, ⟨(some 24), .bin .mul (.t 23) (.k (.int .i64 2)), none⟩, ⟨(some 25), .bin .add (.t 21) (.t 24), none⟩, ⟨(some 11), .mv (.t 25), none⟩] none)
 (.seq (.reg [⟨(some 26), .mv (.t 1), none⟩, ⟨(some 27), .mv (.t 8), none⟩, ⟨(some 28), .bin .quo (.t 27) (.k (.int .i64 4)), none⟩, ⟨(some 29), .bin .mul (.t 28) (.k (.int .i64 3)), none⟩, ⟨(some 30), .bin .add (.t 26) (.t 29), none⟩, ⟨(some 12), .mv (.t 30), none⟩] none)
 (.seq (.seq (.reg [⟨(some 31), .mv (.t 8), none⟩, ⟨(some 32), .bin .geq (.t 31) (.k (.int .i64 8)), none⟩] none)
 (.cond (.t 32) (.seq (.seq (.reg [⟨(some 33), .mv (.t 8), none⟩, ⟨(some 34), .bin .geq (.t 33) (.k (.int .i64 50)), none⟩] none)
 (.cond (.t 34) (.seq (.reg [⟨(some 35), .mv (.t 0), none⟩, ⟨(some 36), .mv (.t 10), none⟩, ⟨(some 37), .call 101 (.k (.fn (.func 125) [] [])) [(.t 35), (.t 36), (.t 9)], none⟩, ⟨(some 10), .mv (.t 37), none⟩] none)
 (.seq (.reg [⟨(some 38), .mv (.t 0), none⟩, ⟨(some 39), .mv (.t 11), none⟩, ⟨(some 40), .call 104 (.k (.fn (.func 125) [] [])) [(.t 38), (.t 39), (.t 9)], none⟩, ⟨(some 11), .mv (.t 40), none⟩] none)
 (.reg [⟨(some 41), .mv (.t 0), none⟩, ⟨(some 42), .mv (.t 12), none⟩, ⟨(some 43), .call 107 (.k (.fn (.func 125) [] [])) [(.t 41), (.t 42), (.t 9)], none⟩, ⟨(some 12), .mv (.t 43), none⟩] none))) .skip))
 (.reg [⟨(some 44), .mv (.t 0), none⟩, ⟨(some 45), .mv (.t 10), none⟩, ⟨(some 46), .mv (.t 11), none⟩, ⟨(some 47), .mv (.t 12), none⟩, ⟨(some 48), .call 112 (.k (.fn (.func 126) [] [])) [(.t 44), (.t 45), (.t 46), (.t 47), (.t 9)], none⟩, ⟨(some 11), .mv (.t 48), none⟩] none)) .skip))
 (.seq (.reg [⟨(some 49), .ld none (.t 9), none⟩] none)
 (.block 0 (.seq (.reg [⟨(some 52), .bin .eql (.t 49) (.k (.int .i64 0)), none⟩, ⟨(some 51), .mv (.t 52), none⟩] none)
 (.cond (.t 51) (.seq (.reg [⟨(some 53), .mv (.t 11), none⟩, ⟨(some 6), .mv (.t 53), none⟩, ⟨(some 7), .mv (.k (.int .i64 1)), none⟩] none)
 .ret) (.seq (.reg [⟨(some 55), .bin .eql (.t 49) (.k (.int .i64 12)), none⟩, ⟨(some 54), .mv (.t 55), none⟩] none)
 (.cond (.t 54) (.seq (.reg [⟨(some 56), .mv (.t 11), none⟩, ⟨(some 6), .mv (.t 56), none⟩, ⟨(some 7), .mv (.k (.int .i64 2)), none⟩] none)
 .ret) (.seq (.reg [⟨(some 50), .mv (.t 11), none⟩, ⟨(some 6), .mv (.t 50), none⟩, ⟨(some 7), .mv (.k (.int .i64 0)), none⟩] none)
 .ret))))))))))))))⟩
/-- slices.reverseRangeOrdered[int] -/
def m112 : MFn := ⟨3, 32, [], (.seq (.reg [⟨(some 8), .mv (.t 1), none⟩, ⟨(some 6), .mv (.t 8), none⟩] none)
 (.seq (.reg [⟨(some 9), .mv (.t 2), none⟩, ⟨(some 10), .bin .sub (.t 9) (.k (.int .i64 1)), none⟩, ⟨(some 7), .mv (.t 10), none⟩] none)
 (.block 0 (.loop (.seq (.seq (.reg [⟨(some 11), .mv (.t 6), none⟩, ⟨(some 12), .mv (.t 7), none⟩, ⟨(some 13), .bin .lss (.t 11) (.t 12), none⟩] none)
 (.cond (.t 13) .skip (.exit 0)))
 (.block 1 (.seq (.reg [⟨(some 14), .mv (.t 0), none⟩, ⟨(some 15), .mv (.t 6), none⟩, ⟨(some 16), .mv (.t 0), none⟩, ⟨(some 17), .mv (.t 7), none⟩, ⟨(some 18), .mv (.t 0), none⟩, ⟨(some 19), .mv (.t 7), none⟩, ⟨(some 20), .ixs 1 (.t 18) (.t 19), none⟩, ⟨(some 21), .ld none (.t 20), none⟩, ⟨(some 22), .mv (.t 0), none⟩, ⟨(some 23), .mv (.t 6), none⟩, ⟨(some 24), .ixs 1 (.t 22) (.t 23), none⟩, ⟨(some 25), .ld none (.t 24), none⟩, ⟨(some 26), .ixs 1 (.t 14) (.t 15), none⟩, ⟨none, .st 1 (.t 26) (.t 21), none⟩, ⟨(some 27), .ixs 1 (.t 16) (.t 17), none⟩, ⟨none, .st 1 (.t 27) (.t 25), none⟩] (some [(6, 10), (7, 10), (6, 11), (7, 11)]))
 (.seq (.reg [⟨(some 28), .mv (.t 6), none⟩, ⟨(some 29), .bin .add (.t 28) (.k (.int .i64 1)), none⟩, ⟨(some 6), .mv (.t 29), none⟩] none)
 (.reg [⟨(some 30), .mv (.t 7), none⟩, ⟨(some 31), .bin .sub (.t 30) (.k (.int .i64 1)), none⟩, ⟨(some 7), .mv (.t 31), none⟩] none)))))))))⟩
/-- slices.partialInsertionSortOrdered[int] -/
def m113 : MFn := ⟨3, 133, [.tmp 6], (.seq (.reg [⟨(some 6), .mv (.k (.bool false)), none⟩] none)
 (.seq (.reg [⟨(some 11), .mv (.t 1), none⟩, ⟨(some 12), .bin .add (.t 11) (.k (.int .i64 1)), none⟩, ⟨(some 7), .mv (.t 12), none⟩] none)
 (.seq (.seq (.reg [⟨(some 8), .mv (.k (.int .i64 0)), none⟩] none)
 (.block 0 (.loop (.seq (.seq (.reg [⟨(some 13), .mv (.t 8), none⟩, ⟨(some 14), .bin .lss (.t 13) (.k (.int .i64 5)), none⟩] none)
 (.cond (.t 14) .skip (.exit 0)))
 (.seq (.block 1 (.seq (.block 2 (.loop (.seq (.seq (.reg [⟨(some 17), .mv (.t 7), none⟩, ⟨(some 18), .mv (.t 2), none⟩, ⟨(some 19), .bin .lss (.t 17) (.t 18), none⟩, ⟨(some 20), .mv (.t 19), none⟩, ⟨(some 21), .mv (.t 0), (some (20, true))⟩, ⟨(some 22), .mv (.t 7), (some (20, true))⟩, ⟨(some 23), .ixs 1 (.t 21) (.t 22), (some (20, true))⟩, ⟨(some 24), .ld none (.t 23), (some (20, true))⟩, ⟨(some 25), .mv (.t 0), (some (20, true))⟩, ⟨(some 26), .mv (.t 7), (some (20, true))⟩, ⟨(some 27), .bin .sub (.t 26) (.k (.int .i64 1)), (some (20, true))⟩, ⟨(some 28), .ixs 1 (.t 25) (.t 27), (some (20, true))⟩, ⟨(some 29), .ld none (.t 28), (some (20, true))⟩, ⟨(some 30), .call 94 (.k (.fn (.func 114) [] [])) [(.t 24), (.t 29)], (some (20, true))⟩, ⟨(some 31), .un .not (.t 30), (some (20, true))⟩, ⟨(some 32), .pick (.t 20) (.t 31) (.k (.bool false)), none⟩] (some [(6, 11), (7, 11), (6, 12), (7, 12)]))
 (.cond (.t 32) .skip (.exit 2)))
 (.block 3 (.reg [⟨(some 33), .mv (.t 7), none⟩, ⟨(some 34), .bin .add (.t 33) (.k (.int .i64 1)), none⟩, ⟨(some 7), .mv (.t 34), none⟩] none)))))
 (.seq (.seq (.reg [⟨(some 35), .mv (.t 7), none⟩, ⟨(some 36), .mv (.t 2), none⟩, ⟨(some 37), .bin .eql (.t 35) (.t 36), none⟩] none)
 (.cond (.t 37) (.seq (.reg [⟨(some 6), .mv (.k (.bool true)), none⟩] none)
 .ret) .skip))
 (.seq (.seq (.reg [⟨(some 38), .mv (.t 2), none⟩, ⟨(some 39), .mv (.t 1), none⟩, ⟨(some 40), .bin .sub (.t 38) (.t 39), none⟩, ⟨(some 41), .bin .lss (.t 40) (.k (.int .i64 50)), none⟩] none)
 (.cond (.t 41) (.seq (.reg [⟨(some 6), .mv (.k (.bool false)), none⟩] none)
 .ret) .skip))
 (.seq (.reg [⟨(some 42), .mv (.t 0), none⟩, ⟨(some 43), .mv (.t 7), none⟩, ⟨(some 44), .mv (.t 0), none⟩, ⟨(some 45), .mv (.t 7), none⟩, ⟨(some 46), .bin .sub (.t 45) (.k (.int .i64 1)), none⟩, ⟨(some 47), .mv (.t 0), none⟩, ⟨(some 48), .mv (.t 7), none⟩, ⟨(some 49), .bin .sub (.t 48) (.k (.int .i64 1)), none⟩, ⟨(some 50), .ixs 1 (.t 47) (.t 49), none⟩, ⟨(some 51), .ld none (.t 50), none⟩, ⟨(some 52), .mv (.t 0), none⟩, ⟨(some 53), .mv (.t 7), none⟩, ⟨(some 54), .ixs 1 (.t 52) (.t 53), none⟩, ⟨(some 55), .ld none (.t 54), none⟩, ⟨(some 56), .ixs 1 (.t 42) (.t 43), none⟩, ⟨none, .st 1 (.t 56) (.t 51), none⟩, ⟨(some 57), .ixs 1 (.t 44) (.t 46), none⟩, ⟨none, .st 1 (.t 57) (.t 55), none⟩] (some [(8, 12), (9, 12), (8, 13), (9, 13)]))
 (.seq (.seq (.reg [⟨(some 58), .mv (.t 7), none⟩, ⟨(some 59), .mv (.t 1), none⟩, ⟨(some 60), .bin .sub (.t 58) (.t 59), none⟩, ⟨(some 61), .bin .geq (.t 60) (.k (.int .i64 2)), none⟩] none)
 (.cond (.t 61) (.seq (.reg [⟨(some 62), .mv (.t 7), none⟩, ⟨(some 63), .bin .sub (.t 62) (.k (.int .i64 1)), none⟩, ⟨(some 9), .mv (.t 63), none⟩] none)
 (.block 4 (.loop (.seq (.seq (.reg [⟨(some 64), .mv (.t 9), none⟩, ⟨(some 65), .bin .geq (.t 64) (.k (.int .i64 1)), none⟩] none)
 (.cond (.t 65) .skip (.exit 4)))
 (.seq (.block 5 (.seq (.seq (.reg [⟨(some 68), .mv (.t 0), none⟩, ⟨(some 69), .mv (.t 9), none⟩, ⟨(some 70), .ixs 1 (.t 68) (.t 69), none⟩, ⟨(some 71), .ld none (.t 70), none⟩, ⟨(some 72), .mv (.t 0), none⟩, ⟨(some 73), .mv (.t 9), none⟩, ⟨(some 74), .bin .sub (.t 73) (.k (.int .i64 1)), none⟩, ⟨(some 75), .ixs 1 (.t 72) (.t 74), none⟩, ⟨(some 76), .ld none (.t 75), none⟩, ⟨(some 77), .call 141 (.k (.fn (.func 114) [] [])) [(.t 71), (.t 76)], none⟩, ⟨(some 78), .un .not (.t 77), none⟩] (some [(2, 7), (3, 7), (2, 8), (3, 8)]))
 (.cond (.t 78) (.exit 4) .skip))
 (.reg [⟨(some 79), .mv (.t 0), none⟩, ⟨(some 80), .mv (.t 9), none⟩, ⟨(some 81), .mv (.t 0), none⟩, ⟨(some 82), .mv (.t 9), none⟩, ⟨(some 83), .bin .sub (.t 82) (.k (.int .i64 1)), none⟩, ⟨(some 84), .mv (.t 0), none⟩, ⟨(some 85), .mv (.t 9), none⟩, ⟨(some 86), .bin .sub (.t 85) (.k (.int .i64 1)), none⟩, ⟨(some 87), .ixs 1 (.t 84) (.t 86), none⟩, ⟨(some 88), .ld none (.t 87), none⟩, ⟨(some 89), .mv (.t 0), none⟩, ⟨(some 90), .mv (.t 9), none⟩, ⟨(some 91), .ixs 1 (.t 89) (.t 90), none⟩, ⟨(some 92), .ld none (.t 91), none⟩, ⟨(some 93), .ixs 1 (.t 79) (.t 80), none⟩, ⟨none, .st 1 (.t 93) (.t 88), none⟩, ⟨(some 94), .ixs 1 (.t 81) (.t 83), none⟩, ⟨none, .st 1 (.t 94) (.t 92), none⟩] (some [(8, 12), (9, 12), (8, 13), (9, 13)]))))
 (.reg [⟨(some 66), .mv (.t 9), none⟩, ⟨(some 67), .bin .sub (.t 66) (.k (.int .i64 1)), none⟩, ⟨(some 9), .mv (.t 67), none⟩] none)))))) .skip))
 (.seq (.reg [⟨(some 95), .mv (.t 2), none⟩, ⟨(some 96), .mv (.t 7), none⟩, ⟨(some 97), .bin .sub (.t 95) (.t 96), none⟩, ⟨(some 98), .bin .geq (.t 97) (.k (.int .i64 2)), none⟩] none)
 (.cond (.t 98) (.seq (.reg [⟨(some 99), .mv (.t 7), none⟩, ⟨(some 100), .bin .add (.t 99) (.k (.int .i64 1)), none⟩, ⟨(some 10), .mv (.t 100), none⟩] none)
 (.block 6 (.loop (.seq (.seq (.reg [⟨(some 101), .mv (.t 10), none⟩, ⟨(some 102), .mv (.t 2), none⟩, ⟨(some 103), .bin .lss (.t 101) (.t 102), none⟩] none)
 (.cond (.t 103) .skip (.exit 6)))
 (.seq (.block 7 (.seq (.seq (.reg [⟨(some 106), .mv (.t 0), none⟩, ⟨(some 107), .mv (.t 10), none⟩, ⟨(some 108), .ixs 1 (.t 106) (.t 107), none⟩, ⟨(some 109), .ld none (.t 108), none⟩, ⟨(some 110), .mv (.t 0), none⟩, ⟨(some 111), .mv (.t 10), none⟩, ⟨(some 112), .bin .sub (.t 111) (.k (.int .i64 1)), none⟩, ⟨(some 113), .ixs 1 (.t 110) (.t 112), none⟩, ⟨(some 114), .ld none (.t 113), none⟩, ⟨(some 115), .call 179 (.k (.fn (.func 114) [] [])) [(.t 109), (.t 114)], none⟩, ⟨(some 116), .un .not (.t 115), none⟩] (some [(2, 7), (3, 7), (2, 8), (3, 8)]))
 (.cond (.t 116) (.exit 6) .skip))
 (.reg [⟨(some 117), .mv (.t 0), none⟩, ⟨(some 118), .mv (.t 10), none⟩, ⟨(some 119), .mv (.t 0), none⟩, ⟨(some 120), .mv (.t 10), none⟩, ⟨(some 121), .bin .sub (.t 120) (.k (.int .i64 1)), none⟩, ⟨(some 122), .mv (.t 0), none⟩, ⟨(some 123), .mv (.t 10), none⟩, ⟨(some 124), .bin .sub (.t 123) (.k (.int .i64 1)), none⟩, ⟨(some 125), .ixs 1 (.t 122) (.t 124), none⟩, ⟨(some 126), .ld none (.t 125), none⟩, ⟨(some 127), .mv (.t 0), none⟩, ⟨(some 128), .mv (.t 10), none⟩, ⟨(some 129), .ixs 1 (.t 127) (.t 128), none⟩, ⟨(some 130), .ld none (.t 129), none⟩, ⟨(some 131), .ixs 1 (.t 117) (.t 118), none⟩, ⟨none, .st 1 (.t 131) (.t 126), none⟩, ⟨(some 132), .ixs 1 (.t 119) (.t 121), none⟩, ⟨none, .st 1 (.t 132) (.t 130), none⟩] (some [(8, 12), (9, 12), (8, 13), (9, 13)]))))
 (.reg [⟨(some 104), .mv (.t 10), none⟩, ⟨(some 105), .bin .add (.t 104) (.k (.int .i64 1)), none⟩, ⟨(some 10), .mv (.t 105), none⟩] none)))))) .skip))))))))
 (.reg [⟨(some 15), .mv (.t 8), none⟩, ⟨(some 16), .bin .add (.t 15) (.k (.int .i64 1)), none⟩, ⟨(some 8), .mv (.t 16), none⟩] none))))))
 (.seq (.reg [⟨(some 6), .mv (.k (.bool false)), none⟩] none)
 .ret))))⟩
/-- cmp.Less[int] -/
def m114 : MFn := ⟨2, 17, [.tmp 4], (.seq (.reg [⟨(some 4), .mv (.k (.bool false)), none⟩] none)
 (.seq (.reg [⟨(some 5), .mv (.t 0), none⟩, ⟨(some 6), .call 70 (.k (.fn (.func 127) [] [])) [(.t 5)], none⟩, ⟨(some 7), .mv (.t 6), none⟩, ⟨(some 8), .mv (.t 1), (some (7, true))⟩, ⟨(some 9), .call 73 (.k (.fn (.func 127) [] [])) [(.t 8)], (some (7, true))⟩, ⟨(some 10), .un .not (.t 9), (some (7, true))⟩, ⟨(some 11), .pick (.t 7) (.t 10) (.k (.bool false)), none⟩, ⟨(some 12), .mv (.t 11), none⟩, ⟨(some 13), .mv (.t 0), (some (12, false))⟩, ⟨(some 14), .mv (.t 1), (some (12, false))⟩, ⟨(some 15), .bin .lss (.t 13) (.t 14), (some (12, false))⟩, ⟨(some 16), .pick (.t 12) (.k (.bool true)) (.t 15), none⟩, ⟨(some 4), .mv (.t 16), none⟩] none)
 .ret))⟩
/-- slices.partitionEqualOrdered[int] -/
def m115 : MFn := ⟨4, 84, [.tmp 8], (.seq (.reg [⟨(some 8), .mv (.k (.int .i64 0)), none⟩] none)
 (.seq (.reg [⟨(some 11), .mv (.t 0), none⟩, ⟨(some 12), .mv (.t 1), none⟩, ⟨(some 13), .mv (.t 0), none⟩, ⟨(some 14), .mv (.t 3), none⟩, ⟨(some 15), .mv (.t 0), none⟩, ⟨(some 16), .mv (.t 3), none⟩, ⟨(some 17), .ixs 1 (.t 15) (.t 16), none⟩, ⟨(some 18), .ld none (.t 17), none⟩, ⟨(some 19), .mv (.t 0), none⟩, ⟨(some 20), .mv (.t 1), none⟩, ⟨(some 21), .ixs 1 (.t 19) (.t 20), none⟩, ⟨(some 22), .ld none (.t 21), none⟩, ⟨(some 23), .ixs 1 (.t 11) (.t 12), none⟩, ⟨none, .st 1 (.t 23) (.t 18), none⟩, ⟨(some 24), .ixs 1 (.t 13) (.t 14), none⟩, ⟨none, .st 1 (.t 24) (.t 22), none⟩] (some [(6, 10), (7, 10), (6, 11), (7, 11)]))
 (.seq (.reg [⟨(some 25), .mv (.t 1), none⟩, ⟨(some 26), .bin .add (.t 25) (.k (.int .i64 1)), none⟩, ⟨(some 27), .mv (.t 2), none⟩, ⟨(some 28), .bin .sub (.t 27) (.k (.int .i64 1)), none⟩, ⟨(some 9), .mv (.t 26), none⟩, ⟨(some 10), .mv (.t 28), none⟩] none)
 (.seq (.block 0 (.loop (.block 1 (.seq (.block 2 (.loop (.seq (.seq (.reg [⟨(some 29), .mv (.t 9), none⟩, ⟨(some 30), .mv (.t 10), none⟩, ⟨(some 31), .bin .leq (.t 29) (.t 30), none⟩, ⟨(some 32), .mv (.t 31), none⟩, ⟨(some 33), .mv (.t 0), (some (32, true))⟩, ⟨(some 34), .mv (.t 1), (some (32, true))⟩, ⟨(some 35), .ixs 1 (.t 33) (.t 34), (some (32, true))⟩, ⟨(some 36), .ld none (.t 35), (some (32, true))⟩, ⟨(some 37), .mv (.t 0), (some (32, true))⟩, ⟨(some 38), .mv (.t 9), (some (32, true))⟩, ⟨(some 39), .ixs 1 (.t 37) (.t 38), (some (32, true))⟩, ⟨(some 40), .ld none (.t 39), (some (32, true))⟩, ⟨(some 41), .call 105 (.k (.fn (.func 114) [] [])) [(.t 36), (.t 40)], (some (32, true))⟩, ⟨(some 42), .un .not (.t 41), (some (32, true))⟩, ⟨(some 43), .pick (.t 32) (.t 42) (.k (.bool false)), none⟩] (some [(6, 10), (7, 10), (6, 11), (7, 11)]))
 (.cond (.t 43) .skip (.exit 2)))
 (.block 3 (.reg [⟨(some 44), .mv (.t 9), none⟩, ⟨(some 45), .bin .add (.t 44) (.k (.int .i64 1)), none⟩, ⟨(some 9), .mv (.t 45), none⟩] none)))))
 (.seq (.block 4 (.loop (.seq (.seq (.reg [⟨(some 46), .mv (.t 9), none⟩, ⟨(some 47), .mv (.t 10), none⟩, ⟨(some 48), .bin .leq (.t 46) (.t 47), none⟩, ⟨(some 49), .mv (.t 48), none⟩, ⟨(some 50), .mv (.t 0), (some (49, true))⟩, ⟨(some 51), .mv (.t 1), (some (49, true))⟩, ⟨(some 52), .ixs 1 (.t 50) (.t 51), (some (49, true))⟩, ⟨(some 53), .ld none (.t 52), (some (49, true))⟩, ⟨(some 54), .mv (.t 0), (some (49, true))⟩, ⟨(some 55), .mv (.t 10), (some (49, true))⟩, ⟨(some 56), .ixs 1 (.t 54) (.t 55), (some (49, true))⟩, ⟨(some 57), .ld none (.t 56), (some (49, true))⟩, ⟨(some 58), .call 122 (.k (.fn (.func 114) [] [])) [(.t 53), (.t 57)], (some (49, true))⟩, ⟨(some 59), .pick (.t 49) (.t 58) (.k (.bool false)), none⟩] (some [(6, 10), (7, 10), (6, 11), (7, 11)]))
 (.cond (.t 59) .skip (.exit 4)))
 (.block 5 (.reg [⟨(some 60), .mv (.t 10), none⟩, ⟨(some 61), .bin .sub (.t 60) (.k (.int .i64 1)), none⟩, ⟨(some 10), .mv (.t 61), none⟩] none)))))
 (.seq (.seq (.reg [⟨(some 62), .mv (.t 9), none⟩, ⟨(some 63), .mv (.t 10), none⟩, ⟨(some 64), .bin .gtr (.t 62) (.t 63), none⟩] none)
 (.cond (.t 64) (.exit 0) .skip))
 (.seq (.reg [⟨(some 65), .mv (.t 0), none⟩, ⟨(some 66), .mv (.t 9), none⟩, ⟨(some 67), .mv (.t 0), none⟩, ⟨(some 68), .mv (.t 10), none⟩, ⟨(some 69), .mv (.t 0), none⟩, ⟨(some 70), .mv (.t 10), none⟩, ⟨(some 71), .ixs 1 (.t 69) (.t 70), none⟩, ⟨(some 72), .ld none (.t 71), none⟩, ⟨(some 73), .mv (.t 0), none⟩, ⟨(some 74), .mv (.t 9), none⟩, ⟨(some 75), .ixs 1 (.t 73) (.t 74), none⟩, ⟨(some 76), .ld none (.t 75), none⟩, ⟨(some 77), .ixs 1 (.t 65) (.t 66), none⟩, ⟨none, .st 1 (.t 77) (.t 72), none⟩, ⟨(some 78), .ixs 1 (.t 67) (.t 68), none⟩, ⟨none, .st 1 (.t 78) (.t 76), none⟩] (some [(6, 10), (7, 10), (6, 11), (7, 11)]))
 (.seq (.reg [⟨(some 79), .mv (.t 9), none⟩, ⟨(some 80), .bin .add (.t 79) (.k (.int .i64 1)), none⟩, ⟨(some 9), .mv (.t 80), none⟩] none)
 (.reg [⟨(some 81), .mv (.t 10), none⟩, ⟨(some 82), .bin .sub (.t 81) (.k (.int .i64 1)), none⟩, ⟨(some 10), .mv (.t 82), none⟩] none)))))))))
 (.seq (.reg [⟨(some 83), .mv (.t 9), none⟩, ⟨(some 8), .mv (.t 83), none⟩] none)
 .ret)))))⟩
/-- slices.partitionOrdered[int] -/
def m116 : MFn := ⟨4, 168, [.tmp 8, .tmp 9], (.seq (.reg [⟨(some 8), .mv (.k (.int .i64 0)), none⟩, ⟨(some 9), .mv (.k (.bool false)), none⟩] none)
 (.seq (.reg [⟨(some 12), .mv (.t 0), none⟩, ⟨(some 13), .mv (.t 1), none⟩, ⟨(some 14), .mv (.t 0), none⟩, ⟨(some 15), .mv (.t 3), none⟩, ⟨(some 16), .mv (.t 0), none⟩, ⟨(some 17), .mv (.t 3), none⟩, ⟨(some 18), .ixs 1 (.t 16) (.t 17), none⟩, ⟨(some 19), .ld none (.t 18), none⟩, ⟨(some 20), .mv (.t 0), none⟩, ⟨(some 21), .mv (.t 1), none⟩, ⟨(some 22), .ixs 1 (.t 20) (.t 21), none⟩, ⟨(some 23), .ld none (.t 22), none⟩, ⟨(some 24), .ixs 1 (.t 12) (.t 13), none⟩, ⟨none, .st 1 (.t 24) (.t 19), none⟩, ⟨(some 25), .ixs 1 (.t 14) (.t 15), none⟩, ⟨none, .st 1 (.t 25) (.t 23), none⟩] (some [(6, 10), (7, 10), (6, 11), (7, 11)]))
 (.seq (.reg [⟨(some 26), .mv (.t 1), none⟩, ⟨(some 27), .bin .add (.t 26) (.k (.int .i64 1)), none⟩, ⟨(some 28), .mv (.t 2), none⟩, ⟨(some 29), .bin .sub (.t 28) (.k (.int .i64 1)), none⟩, ⟨(some 10), .mv (.t 27), none⟩, ⟨(some 11), .mv (.t 29), none⟩] none)
 (.seq (.block 0 (.loop (.seq (.seq (.reg [⟨(some 30), .mv (.t 10), none⟩, ⟨(some 31), .mv (.t 11), none⟩, ⟨(some 32), .bin .leq (.t 30) (.t 31), none⟩, ⟨(some 33), .mv (.t 32), none⟩, ⟨(some 34), .mv (.t 0), (some (33, true))⟩, ⟨(some 35), .mv (.t 10), (some (33, true))⟩, ⟨(some 36), .ixs 1 (.t 34) (.t 35), (some (33, true))⟩, ⟨(some 37), .ld none (.t 36), (some (33, true))⟩, ⟨(some 38), .mv (.t 0), (some (33, true))⟩, ⟨(some 39), .mv (.t 1), (some (33, true))⟩, ⟨(some 40), .ixs 1 (.t 38) (.t 39), (some (33, true))⟩, ⟨(some 41), .ld none (.t 40), (some (33, true))⟩, ⟨(some 42), .call 106 (.k (.fn (.func 114) [] [])) [(.t 37), (.t 41)], (some (33, true))⟩, ⟨(some 43), .pick (.t 33) (.t 42) (.k (.bool false)), none⟩] (some [(6, 10), (7, 10), (6, 11), (7, 11)]))
 (.cond (.t 43) .skip (.exit 0)))
 (.block 1 (.reg [⟨(some 44), .mv (.t 10), none⟩, ⟨(some 45), .bin .add (.t 44) (.k (.int .i64 1)), none⟩, ⟨(some 10), .mv (.t 45), none⟩] none)))))
 (.seq (.block 2 (.loop (.seq (.seq (.reg [⟨(some 46), .mv (.t 10), none⟩, ⟨(some 47), .mv (.t 11), none⟩, ⟨(some 48), .bin .leq (.t 46) (.t 47), none⟩, ⟨(some 49), .mv (.t 48), none⟩, ⟨(some 50), .mv (.t 0), (some (49, true))⟩, ⟨(some 51), .mv (.t 11), (some (49, true))⟩, ⟨(some 52), .ixs 1 (.t 50) (.t 51), (some (49, true))⟩, ⟨(some 53), .ld none (.t 52), (some (49, true))⟩, ⟨(some 54), .mv (.t 0), (some (49, true))⟩, ⟨(some 55), .mv (.t 1), (some (49, true))⟩, ⟨(some 56), .ixs 1 (.t 54) (.t 55), (some (49, true))⟩, ⟨(some 57), .ld none (.t 56), (some (49, true))⟩, ⟨(some 58), .call 122 (.k (.fn (.func 114) [] [])) [(.t 53), (.t 57)], (some (49, true))⟩, ⟨(some 59), .un .not (.t 58), (some (49, true))⟩, ⟨(some 60), .pick (.t 49) (.t 59) (.k (.bool false)), none⟩] (some [(6, 10), (7, 10), (6, 11), (7, 11)]))
 (.cond (.t 60) .skip (.exit 2)))
 (.block 3 (.reg [⟨(some 61), .mv (.t 11), none⟩, ⟨(some 62), .bin .sub (.t 61) (.k (.int .i64 1)), none⟩, ⟨(some 11), .mv (.t 62), none⟩] none)))))
 (.seq (.seq (.reg [⟨(some 63), .mv (.t 10), none⟩, ⟨(some 64), .mv (.t 11), none⟩, ⟨(some 65), .bin .gtr (.t 63) (.t 64), none⟩] none)
 (.cond (.t 65) (.seq (.reg [⟨(some 66), .mv (.t 0), none⟩, ⟨(some 67), .mv (.t 11), none⟩, ⟨(some 68), .mv (.t 0), none⟩, ⟨(some 69), .mv (.t 1), none⟩, ⟨(some 70), .mv (.t 0), none⟩, ⟨(some 71), .mv (.t 1), none⟩, ⟨(some 72), .ixs 1 (.t 70) (.t 71), none⟩, ⟨(some 73), .ld none (.t 72), none⟩, ⟨(some 74), .mv (.t 0), none⟩, ⟨(some 75), .mv (.t 11), none⟩, ⟨(some 76), .ixs 1 (.t 74) (.t 75), none⟩, ⟨(some 77), .ld none (.t 76), none⟩, ⟨(some 78), .ixs 1 (.t 66) (.t 67), none⟩, ⟨none, .st 1 (.t 78) (.t 73), none⟩, ⟨(some 79), .ixs 1 (.t 68) (.t 69), none⟩, ⟨none, .st 1 (.t 79) (.t 77), none⟩] (some [(6, 10), (7, 10), (6, 11), (7, 11)]))
 (.seq (.reg [⟨(some 80), .mv (.t 11), none⟩, ⟨(some 8), .mv (.t 80), none⟩, ⟨(some 9), .mv (.k (.bool true)), none⟩] none)
 .ret)) .skip))
 (.seq (.reg [⟨(some 81), .mv (.t 0), none⟩, ⟨(some 82), .mv (.t 10), none⟩, ⟨(some 83), .mv (.t 0), none⟩, ⟨(some 84), .mv (.t 11), none⟩, ⟨(some 85), .mv (.t 0), none⟩, ⟨(some 86), .mv (.t 11), none⟩, ⟨(some 87), .ixs 1 (.t 85) (.t 86), none⟩, ⟨(some 88), .ld none (.t 87), none⟩, ⟨(some 89), .mv (.t 0), none⟩, ⟨(some 90), .mv (.t 10), none⟩, ⟨(some 91), .ixs 1 (.t 89) (.t 90), none⟩, ⟨(some 92), .ld none (.t 91), none⟩, ⟨(some 93), .ixs 1 (.t 81) (.t 82), none⟩, ⟨none, .st 1 (.t 93) (.t 88), none⟩, ⟨(some 94), .ixs 1 (.t 83) (.t 84), none⟩, ⟨none, .st 1 (.t 94) (.t 92), none⟩] (some [(6, 10), (7, 10), (6, 11), (7, 11)]))
 (.seq (.reg [⟨(some 95), .mv (.t 10), none⟩, ⟨(some 96), .bin .add (.t 95) (.k (.int .i64 1)), none⟩, ⟨(some 10), .mv (.t 96), none⟩] none)
 (.seq (.reg [⟨(some 97), .mv (.t 11), none⟩, ⟨(some 98), .bin .sub (.t 97) (.k (.int .i64 1)), none⟩, ⟨(some 11), .mv (.t 98), none⟩] none)
 (.seq (.block 4 (.loop (.block 5 (.seq (.block 6 (.loop (.seq (.seq (.reg [⟨(some 99), .mv (.t 10), none⟩, ⟨(some 100), .mv (.t 11), none⟩, ⟨(some 101), .bin .leq (.t 99) (.t 100), none⟩, ⟨(some 102), .mv (.t 101), none⟩, ⟨(some 103), .mv (.t 0), (some (102, true))⟩, ⟨(some 104), .mv (.t 10), (some (102, true))⟩, ⟨(some 105), .ixs 1 (.t 103) (.t 104), (some (102, true))⟩, ⟨(some 106), .ld none (.t 105), (some (102, true))⟩, ⟨(some 107), .mv (.t 0), (some (102, true))⟩, ⟨(some 108), .mv (.t 1), (some (102, true))⟩, ⟨(some 109), .ixs 1 (.t 107) (.t 108), (some (102, true))⟩, ⟨(some 110), .ld none (.t 109), (some (102, true))⟩, ⟨(some 111), .call 175 (.k (.fn (.func 114) [] [])) [(.t 106), (.t 110)], (some (102, true))⟩, ⟨(some 112), .pick (.t 102) (.t 111) (.k (.bool false)), none⟩] (some [(6, 10), (7, 10), (6, 11), (7, 11)]))
 (.cond (.t 112) .skip (.exit 6)))
 (.block 7 (.reg [⟨(some 113), .mv (.t 10), none⟩, ⟨(some 114), .bin .add (.t 113) (.k (.int .i64 1)), none⟩, ⟨(some 10), .mv (.t 114), none⟩] none)))))
 (.seq (.block 8 (.loop (.seq (.seq (.reg [⟨(some 115), .mv (.t 10), none⟩, ⟨(some 116), .mv (.t 11), none⟩, ⟨(some 117), .bin .leq (.t 115) (.t 116), none⟩, ⟨(some 118), .mv (.t 117), none⟩, ⟨(some 119), .mv (.t 0), (some (118, true))⟩, ⟨(some 120), .mv (.t 11), (some (118, true))⟩, ⟨(some 121), .ixs 1 (.t 119) (.t 120), (some (118, true))⟩, ⟨(some 122), .ld none (.t 121), (some (118, true))⟩, ⟨(some 123), .mv (.t 0), (some (118, true))⟩, ⟨(some 124), .mv (.t 1), (some (118, true))⟩, ⟨(some 125), .ixs 1 (.t 123) (.t 124), (some (118, true))⟩, ⟨(some 126), .ld none (.t 125), (some (118, true))⟩, ⟨(some 127), .call 191 (.k (.fn (.func 114) [] [])) [(.t 122), (.t 126)], (some (118, true))⟩, ⟨(some 128), .un .not (.t 127), (some (118, true))⟩, ⟨(some 129), .pick (.t 118) (.t 128) (.k (.bool false)), none⟩] (some [(6, 10), (7, 10), (6, 11), (7, 11)]))
 (.cond (.t 129) .skip (.exit 8)))
 (.block 9 (.reg [⟨(some 130), .mv (.t 11), none⟩, ⟨(some 131), .bin .sub (.t 130) (.k (.int .i64 1)), none⟩, ⟨(some 11), .mv (.t 131), none⟩] none)))))
 (.seq (.seq (.reg [⟨(some 132), .mv (.t 10), none⟩, ⟨(some 133), .mv (.t 11), none⟩, ⟨(some 134), .bin .gtr (.t 132) (.t 133), none⟩] none)
 (.cond (.t 134) (.exit 4) .skip))
 (.seq (.reg [⟨(some 135), .mv (.t 0), none⟩, ⟨(some 136), .mv (.t 10), none⟩, ⟨(some 137), .mv (.t 0), none⟩, ⟨(some 138), .mv (.t 11), none⟩, ⟨(some 139), .mv (.t 0), none⟩, ⟨(some 140), .mv (.t 11), none⟩, ⟨(some 141), .ixs 1 (.t 139) (.t 140), none⟩, ⟨(some 142), .ld none (.t 141), none⟩, ⟨(some 143), .mv (.t 0), none⟩, ⟨(some 144), .mv (.t 10), none⟩, ⟨(some 145), .ixs 1 (.t 143) (.t 144), none⟩, ⟨(some 146), .ld none (.t 145), none⟩, ⟨(some 147), .ixs 1 (.t 135) (.t 136), none⟩, ⟨none, .st 1 (.t 147) (.t 142), none⟩, ⟨(some 148), .ixs 1 (.t 137) (.t 138), none⟩, ⟨none, .st 1 (.t 148) (.t 146), none⟩] (some [(6, 10), (7, 10), (6, 11), (7, 11)]))
 (.seq (.reg [⟨(some 149), .mv (.t 10), none⟩, ⟨(some 150), .bin .add (.t 149) (.k (.int .i64 1)), none⟩, ⟨(some 10), .mv (.t 150), none⟩] none)
 (.reg [⟨(some 151), .mv (.t 11), none⟩, ⟨(some 152), .bin .sub (.t 151) (.k (.int .i64 1)), none⟩, ⟨(some 11), .mv (.t 152), none⟩] none)))))))))
 (.seq (.reg [⟨(some 153), .mv (.t 0), none⟩, ⟨(some 154), .mv (.t 11), none⟩, ⟨(some 155), .mv (.t 0), none⟩, ⟨(some 156), .mv (.t 1), none⟩, ⟨(some 157), .mv (.t 0), none⟩, ⟨(some 158), .mv (.t 1), none⟩, ⟨(some 159), .ixs 1 (.t 157) (.t 158), none⟩, ⟨(some 160), .ld none (.t 159), none⟩, ⟨(some 161), .mv (.t 0), none⟩, ⟨(some 162), .mv (.t 11), none⟩, ⟨(some 163), .ixs 1 (.t 161) (.t 162), none⟩, ⟨(some 164), .ld none (.t 163), none⟩, ⟨(some 165), .ixs 1 (.t 153) (.t 154), none⟩, ⟨none, .st 1 (.t 165) (.t 160), none⟩, ⟨(some 166), .ixs 1 (.t 155) (.t 156), none⟩, ⟨none, .st 1 (.t 166) (.t 164), none⟩] (some [(6, 10), (7, 10), (6, 11), (7, 11)]))
 (.seq (.reg [⟨(some 167), .mv (.t 11), none⟩, ⟨(some 8), .mv (.t 167), none⟩, ⟨(some 9), .mv (.k (.bool false)), none⟩] none)
 .ret))))))))))))⟩
/-- math/bits.Len32 -/
def m117 : MFn := ⟨1, 19, [.tmp 2], (.seq (.reg [⟨(some 2), .mv (.k (.int .i64 0)), none⟩] none)
 (.seq (.seq (.reg [⟨(some 3), .mv (.t 0), none⟩, ⟨(some 4), .bin .geq (.t 3) (.k (.int .u32 65536)), none⟩] none)
 (.cond (.t 4) (.seq (.reg [⟨(some 5), .mv (.t 0), none⟩, ⟨(some 6), .bin .shr (.t 5) (.k (.int .u64 16)), none⟩, ⟨(some 0), .mv (.t 6), none⟩] none)
 (.reg [⟨(some 2), .mv (.k (.int .i64 16)), none⟩] none)) .skip))
 (.seq (.seq (.reg [⟨(some 7), .mv (.t 0), none⟩, ⟨(some 8), .bin .geq (.t 7) (.k (.int .u32 256)), none⟩] none)
 (.cond (.t 8) (.seq (.reg [⟨(some 9), .mv (.t 0), none⟩, ⟨(some 10), .bin .shr (.t 9) (.k (.int .u64 8)), none⟩, ⟨(some 0), .mv (.t 10), none⟩] none)
 (.reg [⟨(some 11), .mv (.t 2), none⟩, ⟨(some 12), .bin .add (.t 11) (.k (.int .i64 8)), none⟩, ⟨(some 2), .mv (.t 12), none⟩] none)) .skip))
 (.seq (.reg [⟨(some 13), .mv (.t 2), none⟩, ⟨(some 14), .mv (.t 0), none⟩, ⟨(some 15), .conv .u8 (.t 14), none⟩, ⟨(some 16), .ixstr (.k (.str ⟨#[0, 1, 2, 2, 3, 3, 3, 3, 4, 4, 4, 4, 4, 4, 4, 4, 5, 5, 5, 5, 5, 5, 5, 5, 5, 5, 5, 5, 5, 5, 5, 5, 6, 6, 6, 6, 6, 6, 6, 6, 6, 6, 6, 6, 6, 6, 6, 6, 6, 6, 6, 6, 6, 6, 6, 6, 6, 6, 6, 6, 6, 6, 6, 6, 7, 7, 7, 7, 7, 7, 7, 7, 7, 7, 7, 7, 7, 7, 7, 7, 7, 7, 7, 7, 7, 7, 7, 7, 7, 7, 7, 7, 7, 7, 7, 7, 7, 7, 7, 7, 7, 7, 7, 7, 7, 7, 7, 7, 7, 7, 7, 7, 7, 7, 7, 7, 7, 7, 7, 7, 7, 7, 7, 7, 7, 7, 7, 7, 8, 8, 8, 8, 8, 8, 8, 8, 8, 8, 8, 8, 8, 8, 8, 8, 8, 8, 8, 8, 8, 8, 8, 8, 8, 8, 8, 8, 8, 8, 8, 8, 8, 8, 8, 8, 8, 8, 8, 8, 8, 8, 8, 8, 8, 8, 8, 8, 8, 8, 8, 8, 8, 8, 8, 8, 8, 8, 8, 8, 8, 8, 8, 8, 8, 8, 8, 8, 8, 8, 8, 8, 8, 8, 8, 8, 8, 8, 8, 8, 8, 8, 8, 8, 8, 8, 8, 8, 8, 8, 8, 8, 8, 8, 8, 8, 8, 8, 8, 8, 8, 8, 8, 8, 8, 8, 8, 8, 8, 8, 8, 8, 8, 8, 8, 8, 8, 8, 8, 8, 8, 8, 8, 8, 8, 8, 8, 8]⟩)) (.t 15), none⟩, ⟨(some 17), .conv .i64 (.t 16), none⟩, ⟨(some 18), .bin .add (.t 13) (.t 17), none⟩, ⟨(some 2), .mv (.t 18), none⟩] none)
 .ret))))⟩
/-- math/bits.Len64 -/
def m118 : MFn := ⟨1, 25, [.tmp 2], (.seq (.reg [⟨(some 2), .mv (.k (.int .i64 0)), none⟩] none)
 (.seq (.seq (.reg [⟨(some 3), .mv (.t 0), none⟩, ⟨(some 4), .bin .geq (.t 3) (.k (.int .u64 4294967296)), none⟩] none)
 (.cond (.t 4) (.seq (.reg [⟨(some 5), .mv (.t 0), none⟩, ⟨(some 6), .bin .shr (.t 5) (.k (.int .u64 32)), none⟩, ⟨(some 0), .mv (.t 6), none⟩] none)
 (.reg [⟨(some 2), .mv (.k (.int .i64 32)), none⟩] none)) .skip))
 (.seq (.seq (.reg [⟨(some 7), .mv (.t 0), none⟩, ⟨(some 8), .bin .geq (.t 7) (.k (.int .u64 65536)), none⟩] none)
 (.cond (.t 8) (.seq (.reg [⟨(some 9), .mv (.t 0), none⟩, ⟨(some 10), .bin .shr (.t 9) (.k (.int .u64 16)), none⟩, ⟨(some 0), .mv (.t 10), none⟩] none)
 (.reg [⟨(some 11), .mv (.t 2), none⟩, ⟨(some 12), .bin .add (.t 11) (.k (.int .i64 16)), none⟩, ⟨(some 2), .mv (.t 12), none⟩] none)) .skip))
 (.seq (.seq (.reg [⟨(some 13), .mv (.t 0), none⟩, ⟨(some 14), .bin .geq (.t 13) (.k (.int .u64 256)), none⟩] none)
 (.cond (.t 14) (.seq (.reg [⟨(some 15), .mv (.t 0), none⟩, ⟨(some 16), .bin .shr (.t 15) (.k (.int .u64 8)), none⟩, ⟨(some 0), .mv (.t 16), none⟩] none)
 (.reg [⟨(some 17), .mv (.t 2), none⟩, ⟨(some 18), .bin .add (.t 17) (.k (.int .i64 8)), none⟩, ⟨(some 2), .mv (.t 18), none⟩] none)) .skip))
 (.seq (.reg [⟨(some 19), .mv (.t 2), none⟩, ⟨(some 20), .mv (.t 0), none⟩, ⟨(some 21), .conv .u8 (.t 20), none⟩, ⟨(some 22), .ixstr (.k (.str ⟨#[0, 1, 2, 2, 3, 3, 3, 3, 4, 4, 4, 4, 4, 4, 4, 4, 5, 5, 5, 5, 5, 5, 5, 5, 5, 5, 5, 5, 5, 5, 5, 5, 6, 6, 6, 6, 6, 6, 6, 6, 6, 6, 6, 6, 6, 6, 6, 6, 6, 6, 6, 6, 6, 6, 6, 6, 6, 6, 6, 6, 6, 6, 6, 6, 7, 7, 7, 7, 7, 7, 7, 7, 7, 7, 7, 7, 7, 7, 7, 7, 7, 7, 7, 7, 7, 7, 7, 7, 7, 7, 7, 7, 7, 7, 7, 7, 7, 7, 7, 7, 7, 7, 7, 7, 7, 7, 7, 7, 7, 7, 7, 7, 7, 7, 7, 7, 7, 7, 7, 7, 7, 7, 7, 7, 7, 7, 7, 7, 8, 8, 8, 8, 8, 8, 8, 8, 8, 8, 8, 8, 8, 8, 8, 8, 8, 8, 8, 8, 8, 8, 8, 8, 8, 8, 8, 8, 8, 8, 8, 8, 8, 8, 8, 8, 8, 8, 8, 8, 8, 8, 8, 8, 8, 8, 8, 8, 8, 8, 8, 8, 8, 8, 8, 8, 8, 8, 8, 8, 8, 8, 8, 8, 8, 8, 8, 8, 8, 8, 8, 8, 8, 8, 8, 8, 8, 8, 8, 8, 8, 8, 8, 8, 8, 8, 8, 8, 8, 8, 8, 8, 8, 8, 8, 8, 8, 8, 8, 8, 8, 8, 8, 8, 8, 8, 8, 8, 8, 8, 8, 8, 8, 8, 8, 8, 8, 8, 8, 8, 8, 8, 8, 8, 8, 8, 8, 8]⟩)) (.t 21), none⟩, ⟨(some 23), .conv .i64 (.t 22), none⟩, ⟨(some 24), .bin .add (.t 19) (.t 23), none⟩, ⟨(some 2), .mv (.t 24), none⟩] none)
 .ret)))))⟩
/-- (*besom/deque.Machine).end -/
def m119 : MFn := ⟨2, 20, [], (.seq (.reg [⟨(some 4), .mv (.t 0), none⟩, ⟨(some 5), .mv (.t 1), none⟩, ⟨(some 6), .nilc (.t 4), none⟩, ⟨(some 7), .fa 7 (.t 6), none⟩, ⟨none, .st 1 (.t 7) (.t 5), none⟩] none)
 (.seq (.reg [⟨(some 8), .mv (.t 1), none⟩, ⟨(some 9), .bin .neq (.t 8) (.k (.int .i64 1)), none⟩, ⟨(some 10), .mv (.t 9), none⟩, ⟨(some 11), .mv (.t 0), (some (10, true))⟩, ⟨(some 12), .nilc (.t 11), (some (10, true))⟩, ⟨(some 13), .fa 0 (.t 12), (some (10, true))⟩, ⟨(some 14), .ld none (.t 13), (some (10, true))⟩, ⟨(some 15), .bin .neq (.t 14) (.k (.int .i64 1)), (some (10, true))⟩, ⟨(some 16), .pick (.t 10) (.t 15) (.k (.bool false)), none⟩] none)
 (.cond (.t 16) (.reg [⟨(some 17), .mv (.t 0), none⟩, ⟨(some 18), .nilc (.t 17), none⟩, ⟨(some 19), .fa 6 (.t 18), none⟩, ⟨none, .st 1 (.t 19) (.k (.int .i64 0)), none⟩] none) .skip)))⟩
/-- besom/deque.store -/
def m120 : MFn := ⟨3, 17, [.tmp 6], (.seq (.reg [⟨(some 6), .mv (.k .nils), none⟩] none)
 (.seq (.reg [⟨(some 8), .mv (.t 0), none⟩, ⟨(some 9), .mv (.t 1), none⟩, ⟨(some 10), .mv (.t 2), none⟩, ⟨(some 11), .bld [(.int .i64 0), (.int .i64 0), (.int .u64 0), (.int .u64 0)] [(0, 1, (.k (.int .i64 2))), (1, 1, (.t 9)), (2, 1, (.t 10))], none⟩, ⟨(some 12), .call 76 (.k (.fn (.func 69) [] [])) [(.t 8), (.t 11)], none⟩, ⟨(some 7), .mv (.t 12), none⟩, ⟨(some 13), .ext (.t 7) 0, none⟩, ⟨(some 14), .ext (.t 7) 1, none⟩, ⟨(some 15), .ext (.t 7) 2, none⟩, ⟨(some 0), .mv (.t 13), none⟩] none)
 (.seq (.reg [⟨(some 16), .mv (.t 0), none⟩, ⟨(some 6), .mv (.t 16), none⟩] none)
 .ret)))⟩
/-- (*besom/deque.Machine).take -/
def m121 : MFn := ⟨2, 28, [.tmp 4, .tmp 5], (.seq (.reg [⟨(some 4), .mv (.k .nils), none⟩, ⟨(some 5), .mv (.k (.bool false)), none⟩] none)
 (.seq (.reg [⟨(some 9), .mv (.t 1), none⟩, ⟨(some 10), .mv (.t 0), none⟩, ⟨(some 11), .call 75 (.k (.fn (.func 64) [] [])) [(.t 10)], none⟩, ⟨(some 12), .mv (.t 0), none⟩, ⟨(some 13), .nilc (.t 12), none⟩, ⟨(some 14), .fa 5 (.t 13), none⟩, ⟨(some 15), .ld none (.t 14), none⟩, ⟨(some 16), .mv (.t 0), none⟩, ⟨(some 17), .nilc (.t 16), none⟩, ⟨(some 18), .fa 5 (.t 17), none⟩, ⟨(some 19), .ld none (.t 18), none⟩, ⟨(some 20), .bin .add (.t 19) (.k (.int .u64 1)), none⟩, ⟨(some 21), .bld [(.int .i64 0), (.int .i64 0), (.int .u64 0), (.int .u64 0)] [(0, 1, (.k (.int .i64 3))), (1, 1, (.t 11)), (2, 1, (.t 15)), (3, 1, (.t 20))], none⟩, ⟨(some 22), .call 86 (.k (.fn (.func 69) [] [])) [(.t 9), (.t 21)], none⟩, ⟨(some 8), .mv (.t 22), none⟩, ⟨(some 23), .ext (.t 8) 0, none⟩, ⟨(some 24), .ext (.t 8) 1, none⟩, ⟨(some 25), .ext (.t 8) 2, none⟩, ⟨(some 1), .mv (.t 23), none⟩, ⟨(some 6), .mv (.t 24), none⟩, ⟨(some 7), .mv (.t 25), none⟩] (some [(2, 6), (2, 10), (6, 10)]))
 (.seq (.reg [⟨(some 26), .mv (.t 1), none⟩, ⟨(some 27), .mv (.t 7), none⟩, ⟨(some 4), .mv (.t 26), none⟩, ⟨(some 5), .mv (.t 27), none⟩] none)
 .ret)))⟩
/-- slices.siftDownOrdered[int] -/
def m122 : MFn := ⟨4, 76, [], (.seq (.reg [⟨(some 10), .mv (.t 1), none⟩, ⟨(some 8), .mv (.t 10), none⟩] none)
 (.block 0 (.loop (.block 1 (.seq (.reg [⟨(some 11), .mv (.t 8), none⟩, ⟨(some 12), .bin .mul (.k (.int .i64 2)) (.t 11), none⟩, ⟨(some 13), .bin .add (.t 12) (.k (.int .i64 1)), none⟩, ⟨(some 9), .mv (.t 13), none⟩] none)
 (.seq (.seq (.reg [⟨(some 14), .mv (.t 9), none⟩, ⟨(some 15), .mv (.t 2), none⟩, ⟨(some 16), .bin .geq (.t 14) (.t 15), none⟩] none)
 (.cond (.t 16) (.exit 0) .skip))
 (.seq (.seq (.reg [⟨(some 17), .mv (.t 9), none⟩, ⟨(some 18), .bin .add (.t 17) (.k (.int .i64 1)), none⟩, ⟨(some 19), .mv (.t 2), none⟩, ⟨(some 20), .bin .lss (.t 18) (.t 19), none⟩, ⟨(some 21), .mv (.t 20), none⟩, ⟨(some 22), .mv (.t 0), (some (21, true))⟩, ⟨(some 23), .mv (.t 3), (some (21, true))⟩, ⟨(some 24), .mv (.t 9), (some (21, true))⟩, ⟨(some 25), .bin .add (.t 23) (.t 24), (some (21, true))⟩, ⟨(some 26), .ixs 1 (.t 22) (.t 25), (some (21, true))⟩, ⟨(some 27), .ld none (.t 26), (some (21, true))⟩, ⟨(some 28), .mv (.t 0), (some (21, true))⟩, ⟨(some 29), .mv (.t 3), (some (21, true))⟩, ⟨(some 30), .mv (.t 9), (some (21, true))⟩, ⟨(some 31), .bin .add (.t 29) (.t 30), (some (21, true))⟩, ⟨(some 32), .bin .add (.t 31) (.k (.int .i64 1)), (some (21, true))⟩, ⟨(some 33), .ixs 1 (.t 28) (.t 32), (some (21, true))⟩, ⟨(some 34), .ld none (.t 33), (some (21, true))⟩, ⟨(some 35), .call 99 (.k (.fn (.func 114) [] [])) [(.t 27), (.t 34)], (some (21, true))⟩, ⟨(some 36), .pick (.t 21) (.t 35) (.k (.bool false)), none⟩] (some [(9, 16), (10, 16), (9, 17), (10, 17)]))
 (.cond (.t 36) (.reg [⟨(some 37), .mv (.t 9), none⟩, ⟨(some 38), .bin .add (.t 37) (.k (.int .i64 1)), none⟩, ⟨(some 9), .mv (.t 38), none⟩] none) .skip))
 (.seq (.seq (.reg [⟨(some 39), .mv (.t 0), none⟩, ⟨(some 40), .mv (.t 3), none⟩, ⟨(some 41), .mv (.t 8), none⟩, ⟨(some 42), .bin .add (.t 40) (.t 41), none⟩, ⟨(some 43), .ixs 1 (.t 39) (.t 42), none⟩, ⟨(some 44), .ld none (.t 43), none⟩, ⟨(some 45), .mv (.t 0), none⟩, ⟨(some 46), .mv (.t 3), none⟩, ⟨(some 47), .mv (.t 9), none⟩, ⟨(some 48), .bin .add (.t 46) (.t 47), none⟩, ⟨(some 49), .ixs 1 (.t 45) (.t 48), none⟩, ⟨(some 50), .ld none (.t 49), none⟩, ⟨(some 51), .call 115 (.k (.fn (.func 114) [] [])) [(.t 44), (.t 50)], none⟩, ⟨(some 52), .un .not (.t 51), none⟩] (some [(4, 10), (5, 10), (4, 11), (5, 11)]))
 (.cond (.t 52) .ret .skip))
 (.seq (.reg [⟨(some 53), .mv (.t 0), none⟩, ⟨(some 54), .mv (.t 3), none⟩, ⟨(some 55), .mv (.t 8), none⟩, ⟨(some 56), .bin .add (.t 54) (.t 55), none⟩, ⟨(some 57), .mv (.t 0), none⟩, ⟨(some 58), .mv (.t 3), none⟩, ⟨(some 59), .mv (.t 9), none⟩, ⟨(some 60), .bin .add (.t 58) (.t 59), none⟩, ⟨(some 61), .mv (.t 0), none⟩, ⟨(some 62), .mv (.t 3), none⟩, ⟨(some 63), .mv (.t 9), none⟩, ⟨(some 64), .bin .add (.t 62) (.t 63), none⟩, ⟨(some 65), .ixs 1 (.t 61) (.t 64), none⟩, ⟨(some 66), .ld none (.t 65), none⟩, ⟨(some 67), .mv (.t 0), none⟩, ⟨(some 68), .mv (.t 3), none⟩, ⟨(some 69), .mv (.t 8), none⟩, ⟨(some 70), .bin .add (.t 68) (.t 69), none⟩, ⟨(some 71), .ixs 1 (.t 67) (.t 70), none⟩, ⟨(some 72), .ld none (.t 71), none⟩, ⟨(some 73), .ixs 1 (.t 53) (.t 56), none⟩, ⟨none, .st 1 (.t 73) (.t 66), none⟩, ⟨(some 74), .ixs 1 (.t 57) (.t 60), none⟩, ⟨none, .st 1 (.t 74) (.t 72), none⟩] (some [(12, 18), (13, 18), (12, 19), (13, 19)]))
 (.reg [⟨(some 75), .mv (.t 9), none⟩, ⟨(some 8), .mv (.t 75), none⟩] none))))))))))⟩
/-- slices.nextPowerOfTwo -/
def m123 : MFn := ⟨1, 7, [.tmp 2], (.seq (.reg [⟨(some 2), .mv (.k (.int .u64 0)), none⟩] none)
 (.seq (.reg [⟨(some 3), .mv (.t 0), none⟩, ⟨(some 4), .conv .u64 (.t 3), none⟩, ⟨(some 5), .call 69 (.k (.fn (.func 90) [] [])) [(.t 4)], none⟩, ⟨(some 6), .bin .shl (.k (.int .u64 1)) (.t 5), none⟩, ⟨(some 2), .mv (.t 6), none⟩] none)
 .ret))⟩
/-- (*slices.xorshift).Next -/
def m124 : MFn := ⟨1, 33, [.tmp 2], (.seq (.reg [⟨(some 2), .mv (.k (.int .u64 0)), none⟩] none)
 (.seq (.reg [⟨(some 3), .mv (.t 0), none⟩, ⟨(some 4), .nilc (.t 3), none⟩, ⟨(some 5), .ld none (.t 4), none⟩, ⟨(some 6), .mv (.t 0), none⟩, ⟨(some 7), .nilc (.t 6), none⟩, ⟨(some 8), .ld none (.t 7), none⟩, ⟨(some 9), .bin .shl (.t 8) (.k (.int .u64 13)), none⟩, ⟨(some 10), .bin .xor (.t 5) (.t 9), none⟩, ⟨(some 11), .nilc (.t 3), none⟩, ⟨none, .st 1 (.t 11) (.t 10), none⟩] (some [(2, 5)]))
 (.seq (.reg [⟨(some 12), .mv (.t 0), none⟩, ⟨(some 13), .nilc (.t 12), none⟩, ⟨(some 14), .ld none (.t 13), none⟩, ⟨(some 15), .mv (.t 0), none⟩, ⟨(some 16), .nilc (.t 15), none⟩, ⟨(some 17), .ld none (.t 16), none⟩, ⟨(some 18), .bin .shr (.t 17) (.k (.int .u64 7)), none⟩, ⟨(some 19), .bin .xor (.t 14) (.t 18), none⟩, ⟨(some 20), .nilc (.t 12), none⟩, ⟨none, .st 1 (.t 20) (.t 19), none⟩] (some [(2, 5)]))
 (.seq (.reg [⟨(some 21), .mv (.t 0), none⟩, ⟨(some 22), .nilc (.t 21), none⟩, ⟨(some 23), .ld none (.t 22), none⟩, ⟨(some 24), .mv (.t 0), none⟩, ⟨(some 25), .nilc (.t 24), none⟩, ⟨(some 26), .ld none (.t 25), none⟩, ⟨(some 27), .bin .shl (.t 26) (.k (.int .u64 17)), none⟩, ⟨(some 28), .bin .xor (.t 23) (.t 27), none⟩, ⟨(some 29), .nilc (.t 21), none⟩, ⟨none, .st 1 (.t 29) (.t 28), none⟩] (some [(2, 5)]))
 (.seq (.reg [⟨(some 30), .mv (.t 0), none⟩, ⟨(some 31), .nilc (.t 30), none⟩, ⟨(some 32), .ld none (.t 31), none⟩, ⟨(some 2), .mv (.t 32), none⟩] none)
 .ret)))))⟩
/-- slices.medianAdjacentOrdered[int] -/
def m125 : MFn := ⟨3, 15, [.tmp 6], (.seq (.reg [⟨(some 6), .mv (.k (.int .i64 0)), none⟩] none)
 (.seq (.reg [⟨(some 7), .mv (.t 0), none⟩, ⟨(some 8), .mv (.t 1), none⟩, ⟨(some 9), .bin .sub (.t 8) (.k (.int .i64 1)), none⟩, ⟨(some 10), .mv (.t 1), none⟩, ⟨(some 11), .mv (.t 1), none⟩, ⟨(some 12), .bin .add (.t 11) (.k (.int .i64 1)), none⟩, ⟨(some 13), .mv (.t 2), none⟩, ⟨(some 14), .call 78 (.k (.fn (.func 126) [] [])) [(.t 7), (.t 9), (.t 10), (.t 12), (.t 13)], none⟩, ⟨(some 6), .mv (.t 14), none⟩] none)
 .ret))⟩
/-- slices.medianOrdered[int] -/
def m126 : MFn := ⟨5, 36, [.tmp 10], (.seq (.reg [⟨(some 10), .mv (.k (.int .i64 0)), none⟩] none)
 (.seq (.reg [⟨(some 12), .mv (.t 0), none⟩, ⟨(some 13), .mv (.t 1), none⟩, ⟨(some 14), .mv (.t 2), none⟩, ⟨(some 15), .mv (.t 4), none⟩, ⟨(some 16), .call 80 (.k (.fn (.func 128) [] [])) [(.t 12), (.t 13), (.t 14), (.t 15)], none⟩, ⟨(some 11), .mv (.t 16), none⟩, ⟨(some 17), .ext (.t 11) 0, none⟩, ⟨(some 18), .ext (.t 11) 1, none⟩, ⟨(some 1), .mv (.t 17), none⟩, ⟨(some 2), .mv (.t 18), none⟩] none)
 (.seq (.reg [⟨(some 20), .mv (.t 0), none⟩, ⟨(some 21), .mv (.t 2), none⟩, ⟨(some 22), .mv (.t 3), none⟩, ⟨(some 23), .mv (.t 4), none⟩, ⟨(some 24), .call 88 (.k (.fn (.func 128) [] [])) [(.t 20), (.t 21), (.t 22), (.t 23)], none⟩, ⟨(some 19), .mv (.t 24), none⟩, ⟨(some 25), .ext (.t 19) 0, none⟩, ⟨(some 26), .ext (.t 19) 1, none⟩, ⟨(some 2), .mv (.t 25), none⟩, ⟨(some 3), .mv (.t 26), none⟩] none)
 (.seq (.reg [⟨(some 28), .mv (.t 0), none⟩, ⟨(some 29), .mv (.t 1), none⟩, ⟨(some 30), .mv (.t 2), none⟩, ⟨(some 31), .mv (.t 4), none⟩, ⟨(some 32), .call 96 (.k (.fn (.func 128) [] [])) [(.t 28), (.t 29), (.t 30), (.t 31)], none⟩, ⟨(some 27), .mv (.t 32), none⟩, ⟨(some 33), .ext (.t 27) 0, none⟩, ⟨(some 34), .ext (.t 27) 1, none⟩, ⟨(some 1), .mv (.t 33), none⟩, ⟨(some 2), .mv (.t 34), none⟩] none)
 (.seq (.reg [⟨(some 35), .mv (.t 2), none⟩, ⟨(some 10), .mv (.t 35), none⟩] none)
 .ret)))))⟩
/-- cmp.isNaN[int] -/
def m127 : MFn := ⟨1, 6, [.tmp 2], (.seq (.reg [⟨(some 2), .mv (.k (.bool false)), none⟩] none)
 (.seq (.reg [⟨(some 3), .mv (.t 0), none⟩, ⟨(some 4), .mv (.t 0), none⟩, ⟨(some 5), .bin .neq (.t 3) (.t 4), none⟩, ⟨(some 2), .mv (.t 5), none⟩] none)
 .ret))⟩
/-- slices.order2Ordered[int] -/
def m128 : MFn := ⟨4, 28, [.tmp 8, .tmp 9], (.seq (.reg [⟨(some 8), .mv (.k (.int .i64 0)), none⟩, ⟨(some 9), .mv (.k (.int .i64 0)), none⟩] none)
 (.seq (.seq (.reg [⟨(some 10), .mv (.t 0), none⟩, ⟨(some 11), .mv (.t 2), none⟩, ⟨(some 12), .ixs 1 (.t 10) (.t 11), none⟩, ⟨(some 13), .ld none (.t 12), none⟩, ⟨(some 14), .mv (.t 0), none⟩, ⟨(some 15), .mv (.t 1), none⟩, ⟨(some 16), .ixs 1 (.t 14) (.t 15), none⟩, ⟨(some 17), .ld none (.t 16), none⟩, ⟨(some 18), .call 82 (.k (.fn (.func 114) [] [])) [(.t 13), (.t 17)], none⟩] (some [(2, 6), (3, 6), (2, 7), (3, 7)]))
 (.cond (.t 18) (.seq (.reg [⟨(some 19), .mv (.t 3), none⟩, ⟨(some 20), .nilc (.t 19), none⟩, ⟨(some 21), .ld none (.t 20), none⟩, ⟨(some 22), .bin .add (.t 21) (.k (.int .i64 1)), none⟩, ⟨(some 23), .nilc (.t 19), none⟩, ⟨none, .st 1 (.t 23) (.t 22), none⟩] none)
 (.seq (.reg [⟨(some 24), .mv (.t 2), none⟩, ⟨(some 25), .mv (.t 1), none⟩, ⟨(some 8), .mv (.t 24), none⟩, ⟨(some 9), .mv (.t 25), none⟩] none)
 .ret)) .skip))
 (.seq (.reg [⟨(some 26), .mv (.t 1), none⟩, ⟨(some 27), .mv (.t 2), none⟩, ⟨(some 8), .mv (.t 26), none⟩, ⟨(some 9), .mv (.t 27), none⟩] none)
 .ret)))⟩

theorem low3 : lowFn Try.prog Try.f3 = some m3 := by kernel_rfl
theorem low4 : lowFn Try.prog Try.f4 = some m4 := by kernel_rfl
theorem low5 : lowFn Try.prog Try.f5 = some m5 := by kernel_rfl
theorem low6 : lowFn Try.prog Try.f6 = some m6 := by kernel_rfl
theorem low7 : lowFn Try.prog Try.f7 = some m7 := by kernel_rfl
theorem low8 : lowFn Try.prog Try.f8 = some m8 := by kernel_rfl
theorem low9 : lowFn Try.prog Try.f9 = some m9 := by kernel_rfl
theorem low10 : lowFn Try.prog Try.f10 = some m10 := by kernel_rfl
theorem low11 : lowFn Try.prog Try.f11 = some m11 := by kernel_rfl
theorem low12 : lowFn Try.prog Try.f12 = some m12 := by kernel_rfl
theorem low13 : lowFn Try.prog Try.f13 = some m13 := by kernel_rfl
theorem low14 : lowFn Try.prog Try.f14 = some m14 := by kernel_rfl
theorem low15 : lowFn Try.prog Try.f15 = some m15 := by kernel_rfl
theorem low16 : lowFn Try.prog Try.f16 = some m16 := by kernel_rfl
theorem low17 : lowFn Try.prog Try.f17 = some m17 := by kernel_rfl
theorem low18 : lowFn Try.prog Try.f18 = some m18 := by kernel_rfl
theorem low19 : lowFn Try.prog Try.f19 = some m19 := by kernel_rfl
theorem low20 : lowFn Try.prog Try.f20 = some m20 := by kernel_rfl
theorem low21 : lowFn Try.prog Try.f21 = some m21 := by kernel_rfl
theorem low22 : lowFn Try.prog Try.f22 = some m22 := by kernel_rfl
theorem low23 : lowFn Try.prog Try.f23 = some m23 := by kernel_rfl
theorem low24 : lowFn Try.prog Try.f24 = some m24 := by kernel_rfl
theorem low25 : lowFn Try.prog Try.f25 = some m25 := by kernel_rfl
theorem low26 : lowFn Try.prog Try.f26 = some m26 := by kernel_rfl
theorem low27 : lowFn Try.prog Try.f27 = some m27 := by kernel_rfl
theorem low28 : lowFn Try.prog Try.f28 = some m28 := by kernel_rfl
theorem low29 : lowFn Try.prog Try.f29 = some m29 := by kernel_rfl
theorem low30 : lowFn Try.prog Try.f30 = some m30 := by kernel_rfl
theorem low31 : lowFn Try.prog Try.f31 = some m31 := by kernel_rfl
theorem low32 : lowFn Try.prog Try.f32 = some m32 := by kernel_rfl
theorem low33 : lowFn Try.prog Try.f33 = some m33 := by kernel_rfl
theorem low34 : lowFn Try.prog Try.f34 = some m34 := by kernel_rfl
theorem low35 : lowFn Try.prog Try.f35 = some m35 := by kernel_rfl
theorem low36 : lowFn Try.prog Try.f36 = some m36 := by kernel_rfl
theorem low37 : lowFn Try.prog Try.f37 = some m37 := by kernel_rfl
theorem low38 : lowFn Try.prog Try.f38 = some m38 := by kernel_rfl
theorem low39 : lowFn Try.prog Try.f39 = some m39 := by kernel_rfl
theorem low40 : lowFn Try.prog Try.f40 = some m40 := by kernel_rfl
theorem low41 : lowFn Try.prog Try.f41 = some m41 := by kernel_rfl
theorem low42 : lowFn Try.prog Try.f42 = some m42 := by kernel_rfl
theorem low43 : lowFn Try.prog Try.f43 = some m43 := by kernel_rfl
theorem low44 : lowFn Try.prog Try.f44 = some m44 := by kernel_rfl
theorem low45 : lowFn Try.prog Try.f45 = some m45 := by kernel_rfl
theorem low46 : lowFn Try.prog Try.f46 = some m46 := by kernel_rfl
theorem low47 : lowFn Try.prog Try.f47 = some m47 := by kernel_rfl
theorem low48 : lowFn Try.prog Try.f48 = some m48 := by kernel_rfl
theorem low49 : lowFn Try.prog Try.f49 = some m49 := by kernel_rfl
theorem low50 : lowFn Try.prog Try.f50 = some m50 := by kernel_rfl
theorem low51 : lowFn Try.prog Try.f51 = some m51 := by kernel_rfl
theorem low52 : lowFn Try.prog Try.f52 = some m52 := by kernel_rfl
theorem low53 : lowFn Try.prog Try.f53 = some m53 := by kernel_rfl
theorem low54 : lowFn Try.prog Try.f54 = some m54 := by kernel_rfl
theorem low55 : lowFn Try.prog Try.f55 = some m55 := by kernel_rfl
theorem low56 : lowFn Try.prog Try.f56 = some m56 := by kernel_rfl
theorem low57 : lowFn Try.prog Try.f57 = some m57 := by kernel_rfl
theorem low58 : lowFn Try.prog Try.f58 = some m58 := by kernel_rfl
theorem low59 : lowFn Try.prog Try.f59 = some m59 := by kernel_rfl
theorem low60 : lowFn Try.prog Try.f60 = some m60 := by kernel_rfl
theorem low61 : lowFn Try.prog Try.f61 = some m61 := by kernel_rfl
theorem low62 : lowFn Try.prog Try.f62 = some m62 := by kernel_rfl
theorem low63 : lowFn Try.prog Try.f63 = some m63 := by kernel_rfl
theorem low64 : lowFn Try.prog Try.f64 = some m64 := by kernel_rfl
theorem low65 : lowFn Try.prog Try.f65 = some m65 := by kernel_rfl
theorem low66 : lowFn Try.prog Try.f66 = some m66 := by kernel_rfl
theorem low67 : lowFn Try.prog Try.f67 = some m67 := by kernel_rfl
theorem low68 : lowFn Try.prog Try.f68 = some m68 := by kernel_rfl
theorem low69 : lowFn Try.prog Try.f69 = some m69 := by kernel_rfl
theorem low70 : lowFn Try.prog Try.f70 = some m70 := by kernel_rfl
theorem low71 : lowFn Try.prog Try.f71 = some m71 := by kernel_rfl
theorem low72 : lowFn Try.prog Try.f72 = some m72 := by kernel_rfl
theorem low73 : lowFn Try.prog Try.f73 = some m73 := by kernel_rfl
theorem low74 : lowFn Try.prog Try.f74 = some m74 := by kernel_rfl
theorem low75 : lowFn Try.prog Try.f75 = some m75 := by kernel_rfl
theorem low76 : lowFn Try.prog Try.f76 = some m76 := by kernel_rfl
theorem low77 : lowFn Try.prog Try.f77 = some m77 := by kernel_rfl
theorem low78 : lowFn Try.prog Try.f78 = some m78 := by kernel_rfl
theorem low79 : lowFn Try.prog Try.f79 = some m79 := by kernel_rfl
theorem low80 : lowFn Try.prog Try.f80 = some m80 := by kernel_rfl
theorem low81 : lowFn Try.prog Try.f81 = some m81 := by kernel_rfl
theorem low82 : lowFn Try.prog Try.f82 = some m82 := by kernel_rfl
theorem low83 : lowFn Try.prog Try.f83 = some m83 := by kernel_rfl
theorem low84 : lowFn Try.prog Try.f84 = some m84 := by kernel_rfl
theorem low85 : lowFn Try.prog Try.f85 = some m85 := by kernel_rfl
theorem low86 : lowFn Try.prog Try.f86 = some m86 := by kernel_rfl
theorem low87 : lowFn Try.prog Try.f87 = some m87 := by kernel_rfl
theorem low88 : lowFn Try.prog Try.f88 = some m88 := by kernel_rfl
theorem low89 : lowFn Try.prog Try.f89 = some m89 := by kernel_rfl
theorem low90 : lowFn Try.prog Try.f90 = some m90 := by kernel_rfl
theorem low91 : lowFn Try.prog Try.f91 = some m91 := by kernel_rfl
theorem low92 : lowFn Try.prog Try.f92 = some m92 := by kernel_rfl
theorem low93 : lowFn Try.prog Try.f93 = some m93 := by kernel_rfl
theorem low94 : lowFn Try.prog Try.f94 = some m94 := by kernel_rfl
theorem low95 : lowFn Try.prog Try.f95 = some m95 := by kernel_rfl
theorem low96 : lowFn Try.prog Try.f96 = some m96 := by kernel_rfl
theorem low97 : lowFn Try.prog Try.f97 = some m97 := by kernel_rfl
theorem low98 : lowFn Try.prog Try.f98 = some m98 := by kernel_rfl
theorem low99 : lowFn Try.prog Try.f99 = some m99 := by kernel_rfl
theorem low100 : lowFn Try.prog Try.f100 = some m100 := by kernel_rfl
theorem low101 : lowFn Try.prog Try.f101 = some m101 := by kernel_rfl
theorem low102 : lowFn Try.prog Try.f102 = some m102 := by kernel_rfl
theorem low103 : lowFn Try.prog Try.f103 = some m103 := by kernel_rfl
theorem low104 : lowFn Try.prog Try.f104 = some m104 := by kernel_rfl
theorem low105 : lowFn Try.prog Try.f105 = some m105 := by kernel_rfl
theorem low106 : lowFn Try.prog Try.f106 = some m106 := by kernel_rfl
theorem low107 : lowFn Try.prog Try.f107 = some m107 := by kernel_rfl
theorem low108 : lowFn Try.prog Try.f108 = some m108 := by kernel_rfl
theorem low109 : lowFn Try.prog Try.f109 = some m109 := by kernel_rfl
theorem low110 : lowFn Try.prog Try.f110 = some m110 := by kernel_rfl
theorem low111 : lowFn Try.prog Try.f111 = some m111 := by kernel_rfl
theorem low112 : lowFn Try.prog Try.f112 = some m112 := by kernel_rfl
theorem low113 : lowFn Try.prog Try.f113 = some m113 := by kernel_rfl
theorem low114 : lowFn Try.prog Try.f114 = some m114 := by kernel_rfl
theorem low115 : lowFn Try.prog Try.f115 = some m115 := by kernel_rfl
theorem low116 : lowFn Try.prog Try.f116 = some m116 := by kernel_rfl
theorem low117 : lowFn Try.prog Try.f117 = some m117 := by kernel_rfl
theorem low118 : lowFn Try.prog Try.f118 = some m118 := by kernel_rfl
theorem low119 : lowFn Try.prog Try.f119 = some m119 := by kernel_rfl
theorem low120 : lowFn Try.prog Try.f120 = some m120 := by kernel_rfl
theorem low121 : lowFn Try.prog Try.f121 = some m121 := by kernel_rfl
theorem low122 : lowFn Try.prog Try.f122 = some m122 := by kernel_rfl
theorem low123 : lowFn Try.prog Try.f123 = some m123 := by kernel_rfl
theorem low124 : lowFn Try.prog Try.f124 = some m124 := by kernel_rfl
theorem low125 : lowFn Try.prog Try.f125 = some m125 := by kernel_rfl
theorem low126 : lowFn Try.prog Try.f126 = some m126 := by kernel_rfl
theorem low127 : lowFn Try.prog Try.f127 = some m127 := by kernel_rfl
theorem low128 : lowFn Try.prog Try.f128 = some m128 := by kernel_rfl
end Go.Nx
