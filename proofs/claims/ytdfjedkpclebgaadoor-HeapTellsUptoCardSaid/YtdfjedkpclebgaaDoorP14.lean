/-
  A part of the machine, and of what is walked.
-/
import Derived.Test.YtdfjedkpclebgaaDoorP13
import Derived.Shelf.Strings.Builder1
import Derived.Shelf.Strings.Builder2
import Derived.Shelf.Strings.OnBuilder
import Derived.Shelf.Small.Bits
import Derived.Shelf.Utf8.RuneCount
import Derived.Shelf.Strconv.Atoi
import Derived.Shelf.Strconv.Itoa0
import Derived.Shelf.Strconv.Itoa1
import Derived.Shelf.LaysM
import Derived.Shelf.Strconv.Itoa2
import Derived.Shelf.Strconv.Itoa3
import Derived.Shelf.Strconv.AtoiErrFast
import Derived.Shelf.Strconv.ParseIntEmpty
import Derived.Shelf.Strconv.AtoiFail
import Derived.Shelf.Strconv.Clone
import Derived.Shelf.Strconv.SyntaxError
import Derived.Shelf.LaysC
import Derived.Shelf.Strconv.ToError
import Derived.Shelf.Strconv.AtoiErr
import Derived.Shelf.Strconv.Lower
import Derived.Shelf.Strconv.ParseUint10
import Derived.Shelf.Strconv.ParseUint10Empty
import Derived.Shelf.Strconv.ParseUint10Any
import Derived.Shelf.Strconv.ParseInt10
import Derived.Shelf.Strconv.AtoiLong
import Derived.Shelf.Strconv.AtoiInnerAll
import Derived.Shelf.Strconv.RangeError
import Derived.Shelf.Strconv.ToErrorRange
import Derived.Shelf.Strconv.AtoiAll
import Derived.Shelf.Strings.Search1
import Derived.Shelf.Strings.Search2
import Derived.Shelf.Strings.Search3
import Derived.Shelf.Strings.Count
import Derived.Shelf.Strings.Shaped
import Derived.Shelf.Strings.Split
import Derived.Shelf.Strings.SplitShaped
import Derived.Shelf.Unicode.Decode
import Derived.Shelf.Strings.RuneCount
import Derived.Shelf.Strings.Explode
import Derived.Shelf.Bits.Mul64
import Derived.Shelf.Unicode.DecodeSlow
import Derived.Shelf.Unicode.DecodeAny
import Derived.Ground.Names2Prog
import Derived.Shelf.Slices.Clone
import Derived.Shelf.Slices.SearchI
import Derived.Ground.SlgnProg
import Derived.Shelf.SlicesE.Clone
import Derived.Shelf.Strings.SplitCore
import Derived.Lib.SplitLaws
section
set_option linter.unusedVariables false
set_option linter.unusedSimpArgs false
namespace Go.Proofs
open Go.Shelf
def Tryd.lays156_ren : Go.Shelf.Ren := ⟨fun | 156 => 65 | 165 => 87 | 166 => 88 | 169 => 89 | 240 => 100 | 241 => 101 | 276 => 128 | 277 => 129 | n => n, fun | 31 => 94 | 9 => 9 | 3 => 3 | 4 => 4 | 0 => 0 | 20 => 20 | 72 => 121 | 76 => 116 | 70 => 118 | 37 => 119 | 75 => 115 | 127 => 135 | 164 => 162 | 5 => 5 | 80 => 123 | n => n, fun | n => n⟩
theorem Tryd.lays156 : Go.Proofs.Lays.n156 Tryd.prog Tryd.lays156_ren := {
  mixed := by kernel_rfl
  f156 := Tryd.func65.trans (congrArg some (by kernel_rfl))
  f165 := Tryd.func87.trans (congrArg some (by kernel_rfl))
  f166 := Tryd.func88.trans (congrArg some (by kernel_rfl))
  f169 := Tryd.func89.trans (congrArg some (by kernel_rfl))
  f240 := Tryd.func100.trans (congrArg some (by kernel_rfl))
  f241 := Tryd.func101.trans (congrArg some (by kernel_rfl))
  f276 := Tryd.func128.trans (congrArg some (by kernel_rfl))
  f277 := Tryd.func129.trans (congrArg some (by kernel_rfl))
  t0 := Tryd.underlying0
  a0 := Tryd.isAgg0
  z0 := Tryd.sizeOf0
  v0 := Tryd.zeroValue0
  t3 := Tryd.underlying3
  a3 := Tryd.isAgg3
  z3 := Tryd.sizeOf3
  v3 := Tryd.zeroValue3
  t4 := Tryd.underlying4
  a4 := Tryd.isAgg4
  z4 := Tryd.sizeOf4
  v4 := Tryd.zeroValue4
  t9 := Tryd.underlying9
  a9 := Tryd.isAgg9
  z9 := Tryd.sizeOf9
  v9 := Tryd.zeroValue9
  t20 := Tryd.underlying20
  a20 := Tryd.isAgg20
  z20 := Tryd.sizeOf20
  v20 := Tryd.zeroValue20
  t31 := Tryd.underlying94
  a31 := Tryd.isAgg94
  z31 := Tryd.sizeOf94
  v31 := Tryd.zeroValue94
  t37 := Tryd.underlying119
  a37 := Tryd.isAgg119
  z37 := Tryd.sizeOf119
  v37 := Tryd.zeroValue119
  t70 := Tryd.underlying118
  a70 := Tryd.isAgg118
  z70 := Tryd.sizeOf118
  v70 := Tryd.zeroValue118
  t72 := Tryd.underlying121
  a72 := Tryd.isAgg121
  z72 := Tryd.sizeOf121
  v72 := Tryd.zeroValue121
  t75 := Tryd.underlying115
  a75 := Tryd.isAgg115
  z75 := Tryd.sizeOf115
  v75 := Tryd.zeroValue115
  t76 := Tryd.underlying116
  a76 := Tryd.isAgg116
  z76 := Tryd.sizeOf116
  v76 := Tryd.zeroValue116
  t127 := Tryd.underlying135
  a127 := Tryd.isAgg135
  z127 := Tryd.sizeOf135
  v127 := Tryd.zeroValue135
  t164 := Tryd.underlying162
  a164 := Tryd.isAgg162
  z164 := Tryd.sizeOf162
  v164 := Tryd.zeroValue162 }
theorem Tryd.Builder_Extra_156 : Builder.Extra Tryd.prog Tryd.lays156_ren := {
  sizeBuilder := by kernel_rfl
  liesBuilder := by kernel_rfl
  t5 := Tryd.underlying5
  a5 := Tryd.isAgg5
  z5 := Tryd.sizeOf5
  v5 := Tryd.zeroValue5
  infoByte := by kernel_rfl
  cellsByte := by kernel_rfl
  sizeByte := by kernel_rfl
  neB5 := by decide }
open Go.RowKit in
theorem Tryd.strings_Join_none (a : Option Addr) (c : Nat) (sep : ByteArray) (w : World) :
    Calls Tryd.prog 65 #[.slice a 0 c, .string sep] w fun e w' => e = .returned (.string ⟨#[]⟩) ∧ w' = w := Any.strings_Join_none Tryd.lays156 Tryd.Builder_Extra_156 a c sep w
open Go.RowKit in
theorem Tryd.strings_Join (bk o c : Nat) (xs : List ByteArray) (sep : ByteArray) (w : World) (hcells : ∀ (j : Nat) x, xs[j]? = some x → w.cell? ⟨bk, o + j, none⟩ = some (.string x)) (hbk : bk < w.heap.size) (hN : xs.length ≤ 140737488355328) (hcap : xs.length ≤ c) (hlen : (Lib.join (xs.map (·.data.toList)) sep.data.toList).length ≤ 140737488355328) :
    Calls Tryd.prog 65 #[.slice (some ⟨bk, o, none⟩) xs.length c, .string sep] w fun e w' => e = .returned (.string ⟨(Lib.join (xs.map (·.data.toList)) sep.data.toList).toArray⟩) ∧ Below w.heap.size w w' := Any.strings_Join Tryd.lays156 Tryd.Builder_Extra_156 bk o c xs sep w hcells hbk hN hcap hlen
def Tryd.lays171_ren : Go.Shelf.Ren := ⟨fun | 171 => 64 | 243 => 86 | 246 => 99 | 283 => 124 | 284 => 125 | 285 => 126 | 286 => 127 | 129 => 114 | 317 => 144 | 318 => 145 | 319 => 146 | 320 => 147 | 337 => 153 | 338 => 81 | n => n, fun | 3 => 3 | 9 => 9 | 2 => 2 | 4 => 4 | 171 => 158 | 0 => 0 | 53 => 25 | 37 => 119 | 5 => 5 | 173 => 160 | 212 => 179 | 51 => 136 | 20 => 20 | 213 => 180 | 46 => 125 | 232 => 194 | 233 => 128 | n => n, fun | 17 => 4 | 18 => 7 | 19 => 0 | n => n⟩
theorem Tryd.lays171 : Go.Proofs.Lays.n171 Tryd.prog Tryd.lays171_ren := {
  mixed := by kernel_rfl
  f129 := Tryd.func114.trans (congrArg some (by kernel_rfl))
  f171 := Tryd.func64.trans (congrArg some (by kernel_rfl))
  f243 := Tryd.func86.trans (congrArg some (by kernel_rfl))
  f246 := Tryd.func99.trans (congrArg some (by kernel_rfl))
  f283 := Tryd.func124.trans (congrArg some (by kernel_rfl))
  f284 := Tryd.func125.trans (congrArg some (by kernel_rfl))
  f285 := Tryd.func126.trans (congrArg some (by kernel_rfl))
  f286 := Tryd.func127.trans (congrArg some (by kernel_rfl))
  f317 := Tryd.func144.trans (congrArg some (by kernel_rfl))
  f318 := Tryd.func145.trans (congrArg some (by kernel_rfl))
  f319 := Tryd.func146.trans (congrArg some (by kernel_rfl))
  f320 := Tryd.func147.trans (congrArg some (by kernel_rfl))
  f337 := Tryd.func153.trans (congrArg some (by kernel_rfl))
  f338 := Tryd.func81.trans (congrArg some (by kernel_rfl))
  t0 := Tryd.underlying0
  a0 := Tryd.isAgg0
  z0 := Tryd.sizeOf0
  v0 := Tryd.zeroValue0
  t2 := Tryd.underlying2
  a2 := Tryd.isAgg2
  z2 := Tryd.sizeOf2
  v2 := Tryd.zeroValue2
  t3 := Tryd.underlying3
  a3 := Tryd.isAgg3
  z3 := Tryd.sizeOf3
  v3 := Tryd.zeroValue3
  t4 := Tryd.underlying4
  a4 := Tryd.isAgg4
  z4 := Tryd.sizeOf4
  v4 := Tryd.zeroValue4
  t5 := Tryd.underlying5
  a5 := Tryd.isAgg5
  z5 := Tryd.sizeOf5
  v5 := Tryd.zeroValue5
  t9 := Tryd.underlying9
  a9 := Tryd.isAgg9
  z9 := Tryd.sizeOf9
  v9 := Tryd.zeroValue9
  t20 := Tryd.underlying20
  a20 := Tryd.isAgg20
  z20 := Tryd.sizeOf20
  v20 := Tryd.zeroValue20
  t37 := Tryd.underlying119
  a37 := Tryd.isAgg119
  z37 := Tryd.sizeOf119
  v37 := Tryd.zeroValue119
  t46 := Tryd.underlying125
  a46 := Tryd.isAgg125
  z46 := Tryd.sizeOf125
  v46 := Tryd.zeroValue125
  t51 := Tryd.underlying136
  a51 := Tryd.isAgg136
  z51 := Tryd.sizeOf136
  v51 := Tryd.zeroValue136
  t53 := Tryd.underlying25
  a53 := Tryd.isAgg25
  z53 := Tryd.sizeOf25
  v53 := Tryd.zeroValue25
  t171 := Tryd.underlying158
  a171 := Tryd.isAgg158
  z171 := Tryd.sizeOf158
  v171 := Tryd.zeroValue158
  t173 := Tryd.underlying160
  a173 := Tryd.isAgg160
  z173 := Tryd.sizeOf160
  v173 := Tryd.zeroValue160
  t212 := Tryd.underlying179
  a212 := Tryd.isAgg179
  z212 := Tryd.sizeOf179
  v212 := Tryd.zeroValue179
  t213 := Tryd.underlying180
  a213 := Tryd.isAgg180
  z213 := Tryd.sizeOf180
  t232 := Tryd.underlying194
  a232 := Tryd.isAgg194
  z232 := Tryd.sizeOf194
  v232 := Tryd.zeroValue194
  t233 := Tryd.underlying128
  a233 := Tryd.isAgg128
  z233 := Tryd.sizeOf128
  v233 := Tryd.zeroValue128
  g17 := by kernel_rfl
  g18 := by kernel_rfl
  g19 := by kernel_rfl }
open Go.RowKit Go.Sort Go.Lib in
theorem Tryd.strconv_Itoa_small (i : Nat) (hi : i < 100) (w : World) :
    Calls Tryd.prog 64 #[.int .i64 i] w fun e w' => e = .returned (.string ⟨(Lib.decDigits i).toArray⟩) ∧ w' = w := Any.strconv_Itoa_small Tryd.lays171 i hi w
def Tryd.laysC172_ren : Go.Shelf.Ren := ⟨fun | 172 => 85 | 244 => 97 | 245 => 98 | 247 => 119 | 279 => 120 | 280 => 121 | 281 => 122 | 282 => 123 | 287 => 141 | 316 => 142 | 171 => 64 | 205 => 143 | 321 => 151 | 322 => 152 | 243 => 86 | 246 => 99 | 283 => 124 | 284 => 125 | 285 => 126 | 286 => 127 | 129 => 114 | 317 => 144 | 318 => 145 | 319 => 146 | 320 => 147 | 337 => 153 | 338 => 81 | n => n, fun | 9 => 9 | 3 => 3 | 75 => 115 | 76 => 116 | 4 => 4 | 5 => 5 | 167 => 152 | 37 => 119 | 0 => 0 | 85 => 153 | 2 => 2 | 168 => 155 | 53 => 25 | 175 => 172 | 46 => 125 | 210 => 176 | 127 => 135 | 145 => 193 | 143 => 191 | 21 => 21 | 171 => 158 | 173 => 160 | 212 => 179 | 51 => 136 | 20 => 20 | 213 => 180 | 232 => 194 | 233 => 128 | 80 => 123 | n => n, fun | 15 => 2 | 16 => 3 | 17 => 4 | 18 => 7 | 19 => 0 | n => n⟩
theorem Tryd.laysC172 : Go.Proofs.LaysC.n172 Tryd.prog Tryd.laysC172_ren := {
  mixed := by kernel_rfl
  f129 := Tryd.func114.trans (congrArg some (by kernel_rfl))
  f171 := Tryd.func64.trans (congrArg some (by kernel_rfl))
  f172 := Tryd.func85.trans (congrArg some (by kernel_rfl))
  f205 := Tryd.func143.trans (congrArg some (by kernel_rfl))
  f243 := Tryd.func86.trans (congrArg some (by kernel_rfl))
  f244 := Tryd.func97.trans (congrArg some (by kernel_rfl))
  f245 := Tryd.func98.trans (congrArg some (by kernel_rfl))
  f246 := Tryd.func99.trans (congrArg some (by kernel_rfl))
  f247 := Tryd.func119.trans (congrArg some (by kernel_rfl))
  f279 := Tryd.func120.trans (congrArg some (by kernel_rfl))
  f280 := Tryd.func121.trans (congrArg some (by kernel_rfl))
  f281 := Tryd.func122.trans (congrArg some (by kernel_rfl))
  f282 := Tryd.func123.trans (congrArg some (by kernel_rfl))
  f283 := Tryd.func124.trans (congrArg some (by kernel_rfl))
  f284 := Tryd.func125.trans (congrArg some (by kernel_rfl))
  f285 := Tryd.func126.trans (congrArg some (by kernel_rfl))
  f286 := Tryd.func127.trans (congrArg some (by kernel_rfl))
  f287 := Tryd.func141.trans (congrArg some (by kernel_rfl))
  f316 := Tryd.func142.trans (congrArg some (by kernel_rfl))
  f317 := Tryd.func144.trans (congrArg some (by kernel_rfl))
  f318 := Tryd.func145.trans (congrArg some (by kernel_rfl))
  f319 := Tryd.func146.trans (congrArg some (by kernel_rfl))
  f320 := Tryd.func147.trans (congrArg some (by kernel_rfl))
  f321 := Tryd.func151.trans (congrArg some (by kernel_rfl))
  f322 := Tryd.func152.trans (congrArg some (by kernel_rfl))
  f337 := Tryd.func153.trans (congrArg some (by kernel_rfl))
  f338 := Tryd.func81.trans (congrArg some (by kernel_rfl))
  t0 := Tryd.underlying0
  a0 := Tryd.isAgg0
  z0 := Tryd.sizeOf0
  v0 := Tryd.zeroValue0
  t2 := Tryd.underlying2
  a2 := Tryd.isAgg2
  z2 := Tryd.sizeOf2
  v2 := Tryd.zeroValue2
  t3 := Tryd.underlying3
  a3 := Tryd.isAgg3
  z3 := Tryd.sizeOf3
  v3 := Tryd.zeroValue3
  t4 := Tryd.underlying4
  a4 := Tryd.isAgg4
  z4 := Tryd.sizeOf4
  v4 := Tryd.zeroValue4
  t5 := Tryd.underlying5
  a5 := Tryd.isAgg5
  z5 := Tryd.sizeOf5
  v5 := Tryd.zeroValue5
  t9 := Tryd.underlying9
  a9 := Tryd.isAgg9
  z9 := Tryd.sizeOf9
  v9 := Tryd.zeroValue9
  t20 := Tryd.underlying20
  a20 := Tryd.isAgg20
  z20 := Tryd.sizeOf20
  v20 := Tryd.zeroValue20
  t21 := Tryd.underlying21
  a21 := Tryd.isAgg21
  z21 := Tryd.sizeOf21
  v21 := Tryd.zeroValue21
  t37 := Tryd.underlying119
  a37 := Tryd.isAgg119
  z37 := Tryd.sizeOf119
  v37 := Tryd.zeroValue119
  t46 := Tryd.underlying125
  a46 := Tryd.isAgg125
  z46 := Tryd.sizeOf125
  v46 := Tryd.zeroValue125
  t51 := Tryd.underlying136
  a51 := Tryd.isAgg136
  z51 := Tryd.sizeOf136
  v51 := Tryd.zeroValue136
  t53 := Tryd.underlying25
  a53 := Tryd.isAgg25
  z53 := Tryd.sizeOf25
  v53 := Tryd.zeroValue25
  t75 := Tryd.underlying115
  a75 := Tryd.isAgg115
  z75 := Tryd.sizeOf115
  v75 := Tryd.zeroValue115
  t76 := Tryd.underlying116
  a76 := Tryd.isAgg116
  z76 := Tryd.sizeOf116
  v76 := Tryd.zeroValue116
  t85 := Tryd.underlying153
  a85 := Tryd.isAgg153
  z85 := Tryd.sizeOf153
  v85 := Tryd.zeroValue153
  t127 := Tryd.underlying135
  a127 := Tryd.isAgg135
  z127 := Tryd.sizeOf135
  v127 := Tryd.zeroValue135
  t143 := Tryd.underlying191
  a143 := Tryd.isAgg191
  z143 := Tryd.sizeOf191
  v143 := Tryd.zeroValue191
  t145 := Tryd.underlying193
  a145 := Tryd.isAgg193
  z145 := Tryd.sizeOf193
  v145 := Tryd.zeroValue193
  t167 := Tryd.underlying152
  a167 := Tryd.isAgg152
  z167 := Tryd.sizeOf152
  v167 := Tryd.zeroValue152
  t168 := Tryd.underlying155
  a168 := Tryd.isAgg155
  z168 := Tryd.sizeOf155
  v168 := Tryd.zeroValue155
  t171 := Tryd.underlying158
  a171 := Tryd.isAgg158
  z171 := Tryd.sizeOf158
  v171 := Tryd.zeroValue158
  t173 := Tryd.underlying160
  a173 := Tryd.isAgg160
  z173 := Tryd.sizeOf160
  v173 := Tryd.zeroValue160
  t175 := Tryd.underlying172
  a175 := Tryd.isAgg172
  z175 := Tryd.sizeOf172
  v175 := Tryd.zeroValue172
  t210 := Tryd.underlying176
  a210 := Tryd.isAgg176
  z210 := Tryd.sizeOf176
  v210 := Tryd.zeroValue176
  t212 := Tryd.underlying179
  a212 := Tryd.isAgg179
  z212 := Tryd.sizeOf179
  v212 := Tryd.zeroValue179
  t213 := Tryd.underlying180
  a213 := Tryd.isAgg180
  z213 := Tryd.sizeOf180
  t232 := Tryd.underlying194
  a232 := Tryd.isAgg194
  z232 := Tryd.sizeOf194
  v232 := Tryd.zeroValue194
  t233 := Tryd.underlying128
  a233 := Tryd.isAgg128
  z233 := Tryd.sizeOf128
  v233 := Tryd.zeroValue128
  g15 := by kernel_rfl
  g16 := by kernel_rfl
  g17 := by kernel_rfl
  g18 := by kernel_rfl
  g19 := by kernel_rfl
  t80 := Tryd.underlying123
  a80 := Tryd.isAgg123
  z80 := Tryd.sizeOf123
  v80 := Tryd.zeroValue123
  i0 := by kernel_rfl
  i2 := by kernel_rfl
  i3 := by kernel_rfl
  i4 := by kernel_rfl
  i5 := by kernel_rfl
  i9 := by kernel_rfl
  i20 := by kernel_rfl
  i21 := by kernel_rfl
  i37 := by kernel_rfl
  i46 := by kernel_rfl
  i51 := by kernel_rfl
  i53 := by kernel_rfl
  i75 := by kernel_rfl
  i76 := by kernel_rfl
  i80 := by kernel_rfl
  i85 := by kernel_rfl
  i127 := by kernel_rfl
  i143 := by kernel_rfl
  i145 := by kernel_rfl
  i167 := by kernel_rfl
  i168 := by kernel_rfl
  i171 := by kernel_rfl
  i173 := by kernel_rfl
  i175 := by kernel_rfl
  i210 := by kernel_rfl
  i212 := by kernel_rfl
  i232 := by kernel_rfl
  i233 := by kernel_rfl
  m15 := by kernel_rfl
  m16 := by kernel_rfl
  m17 := by kernel_rfl
  m18 := by kernel_rfl
  m19 := by kernel_rfl
  c0 := by kernel_rfl
  c2 := by kernel_rfl
  c3 := by kernel_rfl
  c4 := by kernel_rfl
  c5 := by kernel_rfl
  c9 := by kernel_rfl
  c20 := by kernel_rfl
  c21 := by kernel_rfl
  c37 := by kernel_rfl
  c46 := by kernel_rfl
  c51 := by kernel_rfl
  c53 := by kernel_rfl
  c75 := by kernel_rfl
  c76 := by kernel_rfl
  c80 := by kernel_rfl
  c85 := by kernel_rfl
  c127 := by kernel_rfl
  c143 := by kernel_rfl
  c145 := by kernel_rfl
  c167 := by kernel_rfl
  c168 := by kernel_rfl
  c171 := by kernel_rfl
  c173 := by kernel_rfl
  c175 := by kernel_rfl
  c210 := by kernel_rfl
  c212 := by kernel_rfl
  c213 := by kernel_rfl
  c232 := by kernel_rfl
  c233 := by kernel_rfl }
open Go.RowKit in
theorem Tryd.strconv_Atoi_ok (s : ByteArray) (hmax : s.size ≤ 9223372036854775806) (v : Int) (h : Lib.atoiAll s.data.toList = .ok v) (w : World) :
    Calls Tryd.prog 85 #[.string s] w fun e w' => e = .returned (.tuple #[.int .i64 v, .nilIface]) ∧ (w' = w ∨ ∃ t, w' = Lib.bytesWorld w 5 t) := Any.strconv_Atoi_ok Tryd.laysC172 s hmax v h w
open Go.RowKit in
theorem Tryd.strconv_Atoi_syntax (s : ByteArray) (hlim : s.size ≤ 281474976710656) (h : Lib.atoiAll s.data.toList = .«syntax») (ev : Value) (w : World) (hv : w.cell? ⟨2, 0, none⟩ = some ev) (hev : ev = .nilIface ∨ ∃ te pe, ev = .iface te pe) :
    Calls Tryd.prog 85 #[.string s] w fun e w' => ∃ N, e = .returned (.tuple #[.int .i64 (0), .iface 155 (.pointer (some ⟨N, 0, none⟩))]) ∧ w.heap.size ≤ N ∧ w'.heap[N]? = some (.cells #[.string ⟨#[65, 116, 111, 105]⟩, .string s, ev] 176 (0, 0)) ∧ Below w.heap.size w w' := Any.strconv_Atoi_syntax Tryd.laysC172 s hlim h ev w hv hev
open Go.RowKit in
theorem Tryd.strconv_Atoi_range (s : ByteArray) (hlim : s.size ≤ 281474976710656) (h : Lib.atoiAll s.data.toList = .range) (ev : Value) (w : World) (hv : w.cell? ⟨3, 0, none⟩ = some ev) (hev : ev = .nilIface ∨ ∃ te pe, ev = .iface te pe) :
    Calls Tryd.prog 85 #[.string s] w fun e w' => ∃ N, e = .returned (.tuple #[.int .i64 (Lib.atoiSat s.data.toList), .iface 155 (.pointer (some ⟨N, 0, none⟩))]) ∧ w.heap.size ≤ N ∧ w'.heap[N]? = some (.cells #[.string ⟨#[65, 116, 111, 105]⟩, .string s, ev] 176 (0, 0)) ∧ Below w.heap.size w w' := Any.strconv_Atoi_range Tryd.laysC172 s hlim h ev w hv hev
def Tryd.lays143_ren : Go.Shelf.Ren := ⟨fun | 143 => 96 | 219 => 118 | 217 => 137 | 225 => 138 | 224 => 139 | 267 => 140 | 266 => 149 | 314 => 150 | n => n, fun | 9 => 9 | 3 => 3 | 4 => 4 | 5 => 5 | 46 => 125 | 146 => 137 | 51 => 136 | n => n, fun | 1 => 1 | n => n⟩
theorem Tryd.lays143 : Go.Proofs.Lays.n143 Tryd.prog Tryd.lays143_ren := {
  mixed := by kernel_rfl
  f143 := Tryd.func96.trans (congrArg some (by kernel_rfl))
  f217 := Tryd.func137.trans (congrArg some (by kernel_rfl))
  f219 := Tryd.func118.trans (congrArg some (by kernel_rfl))
  f224 := Tryd.func139.trans (congrArg some (by kernel_rfl))
  f225 := Tryd.func138.trans (congrArg some (by kernel_rfl))
  f266 := Tryd.func149.trans (congrArg some (by kernel_rfl))
  f267 := Tryd.func140.trans (congrArg some (by kernel_rfl))
  f314 := Tryd.func150.trans (congrArg some (by kernel_rfl))
  t3 := Tryd.underlying3
  a3 := Tryd.isAgg3
  z3 := Tryd.sizeOf3
  v3 := Tryd.zeroValue3
  t4 := Tryd.underlying4
  a4 := Tryd.isAgg4
  z4 := Tryd.sizeOf4
  v4 := Tryd.zeroValue4
  t5 := Tryd.underlying5
  a5 := Tryd.isAgg5
  z5 := Tryd.sizeOf5
  v5 := Tryd.zeroValue5
  t9 := Tryd.underlying9
  a9 := Tryd.isAgg9
  z9 := Tryd.sizeOf9
  v9 := Tryd.zeroValue9
  t46 := Tryd.underlying125
  a46 := Tryd.isAgg125
  z46 := Tryd.sizeOf125
  v46 := Tryd.zeroValue125
  t51 := Tryd.underlying136
  a51 := Tryd.isAgg136
  z51 := Tryd.sizeOf136
  v51 := Tryd.zeroValue136
  t146 := Tryd.underlying137
  a146 := Tryd.isAgg137
  z146 := Tryd.sizeOf137
  v146 := Tryd.zeroValue137
  g1 := by kernel_rfl }
open Go.RowKit Go.Lib in
theorem Tryd.strings_Index_one (s : ByteArray) (c : UInt8) (w : World) :
    Calls Tryd.prog 96 #[.string s, .string ⟨#[c]⟩] w fun e w' => e = .returned (.int .i64 (Lib.indexByte s.data.toList c)) ∧ w' = w := Any.strings_Index_one Tryd.lays143 s c w
open Go.RowKit Go.Lib in
theorem Tryd.strings_Index (s sub : ByteArray) (m : Int) (w : World) (hs : s.size < 4294967281) (hm : w.cell? ⟨1, 0, none⟩ = some (.int .i64 m)) :
    Calls Tryd.prog 96 #[.string s, .string sub] w fun e w' => e = .returned (.int .i64 (Lib.index s.data.toList sub.data.toList)) ∧ w' = w := Any.strings_Index Tryd.lays143 s sub m w hs hm
def Tryd.lays138_ren : Go.Shelf.Ren := ⟨fun | 138 => 95 | 195 => 115 | 218 => 117 | 143 => 96 | 219 => 118 | 217 => 137 | 225 => 138 | 224 => 139 | 267 => 140 | 266 => 149 | 314 => 150 | n => n, fun | 9 => 9 | 3 => 3 | 4 => 4 | 5 => 5 | 0 => 0 | 46 => 125 | 146 => 137 | 51 => 136 | n => n, fun | 1 => 1 | n => n⟩
theorem Tryd.lays138 : Go.Proofs.Lays.n138 Tryd.prog Tryd.lays138_ren := {
  mixed := by kernel_rfl
  f138 := Tryd.func95.trans (congrArg some (by kernel_rfl))
  f143 := Tryd.func96.trans (congrArg some (by kernel_rfl))
  f195 := Tryd.func115.trans (congrArg some (by kernel_rfl))
  f217 := Tryd.func137.trans (congrArg some (by kernel_rfl))
  f218 := Tryd.func117.trans (congrArg some (by kernel_rfl))
  f219 := Tryd.func118.trans (congrArg some (by kernel_rfl))
  f224 := Tryd.func139.trans (congrArg some (by kernel_rfl))
  f225 := Tryd.func138.trans (congrArg some (by kernel_rfl))
  f266 := Tryd.func149.trans (congrArg some (by kernel_rfl))
  f267 := Tryd.func140.trans (congrArg some (by kernel_rfl))
  f314 := Tryd.func150.trans (congrArg some (by kernel_rfl))
  t0 := Tryd.underlying0
  a0 := Tryd.isAgg0
  z0 := Tryd.sizeOf0
  v0 := Tryd.zeroValue0
  t3 := Tryd.underlying3
  a3 := Tryd.isAgg3
  z3 := Tryd.sizeOf3
  v3 := Tryd.zeroValue3
  t4 := Tryd.underlying4
  a4 := Tryd.isAgg4
  z4 := Tryd.sizeOf4
  v4 := Tryd.zeroValue4
  t5 := Tryd.underlying5
  a5 := Tryd.isAgg5
  z5 := Tryd.sizeOf5
  v5 := Tryd.zeroValue5
  t9 := Tryd.underlying9
  a9 := Tryd.isAgg9
  z9 := Tryd.sizeOf9
  v9 := Tryd.zeroValue9
  t46 := Tryd.underlying125
  a46 := Tryd.isAgg125
  z46 := Tryd.sizeOf125
  v46 := Tryd.zeroValue125
  t51 := Tryd.underlying136
  a51 := Tryd.isAgg136
  z51 := Tryd.sizeOf136
  v51 := Tryd.zeroValue136
  t146 := Tryd.underlying137
  a146 := Tryd.isAgg137
  z146 := Tryd.sizeOf137
  v146 := Tryd.zeroValue137
  g1 := by kernel_rfl }
open Go.RowKit Go.Lib in
theorem Tryd.strings_Count_one (s : ByteArray) (c : UInt8) (w : World) :
    Calls Tryd.prog 95 #[.string s, .string ⟨#[c]⟩] w fun e w' => e = .returned (.int .i64 (Lib.countByte s.data.toList c)) ∧ w' = w := Any.strings_Count_one Tryd.lays138 s c w
open Go.RowKit Go.Lib in
theorem Tryd.strings_Count (s sub : ByteArray) (m : Int) (w : World) (hs : s.size < 4294967281) (hm : w.cell? ⟨1, 0, none⟩ = some (.int .i64 m)) (h2 : 2 ≤ sub.size) :
    Calls Tryd.prog 95 #[.string s, .string sub] w fun e w' => e = .returned (.int .i64 (Lib.countB s sub)) ∧ w' = w := Any.strings_Count Tryd.lays138 s sub m w hs hm h2
def Tryd.lays221_ren : Go.Shelf.Ren := ⟨fun | 221 => 84 | 268 => 94 | 138 => 95 | 143 => 96 | 195 => 115 | 197 => 116 | 218 => 117 | 219 => 118 | 260 => 136 | 217 => 137 | 225 => 138 | 224 => 139 | 267 => 140 | 266 => 149 | 314 => 150 | n => n, fun | 9 => 9 | 3 => 3 | 31 => 94 | 4 => 4 | 0 => 0 | 105 => 149 | 21 => 21 | 5 => 5 | 46 => 125 | 119 => 184 | 139 => 187 | 138 => 186 | 146 => 137 | 51 => 136 | n => n, fun | 1 => 1 | 3 => 5 | 4 => 6 | n => n⟩
theorem Tryd.lays221 : Go.Proofs.Lays.n221 Tryd.prog Tryd.lays221_ren := {
  mixed := by kernel_rfl
  f138 := Tryd.func95.trans (congrArg some (by kernel_rfl))
  f143 := Tryd.func96.trans (congrArg some (by kernel_rfl))
  f195 := Tryd.func115.trans (congrArg some (by kernel_rfl))
  f197 := Tryd.func116.trans (congrArg some (by kernel_rfl))
  f217 := Tryd.func137.trans (congrArg some (by kernel_rfl))
  f218 := Tryd.func117.trans (congrArg some (by kernel_rfl))
  f219 := Tryd.func118.trans (congrArg some (by kernel_rfl))
  f221 := Tryd.func84.trans (congrArg some (by kernel_rfl))
  f224 := Tryd.func139.trans (congrArg some (by kernel_rfl))
  f225 := Tryd.func138.trans (congrArg some (by kernel_rfl))
  f260 := Tryd.func136.trans (congrArg some (by kernel_rfl))
  f266 := Tryd.func149.trans (congrArg some (by kernel_rfl))
  f267 := Tryd.func140.trans (congrArg some (by kernel_rfl))
  f268 := Tryd.func94.trans (congrArg some (by kernel_rfl))
  f314 := Tryd.func150.trans (congrArg some (by kernel_rfl))
  t0 := Tryd.underlying0
  a0 := Tryd.isAgg0
  z0 := Tryd.sizeOf0
  v0 := Tryd.zeroValue0
  t3 := Tryd.underlying3
  a3 := Tryd.isAgg3
  z3 := Tryd.sizeOf3
  v3 := Tryd.zeroValue3
  t4 := Tryd.underlying4
  a4 := Tryd.isAgg4
  z4 := Tryd.sizeOf4
  v4 := Tryd.zeroValue4
  t5 := Tryd.underlying5
  a5 := Tryd.isAgg5
  z5 := Tryd.sizeOf5
  v5 := Tryd.zeroValue5
  t9 := Tryd.underlying9
  a9 := Tryd.isAgg9
  z9 := Tryd.sizeOf9
  v9 := Tryd.zeroValue9
  t21 := Tryd.underlying21
  a21 := Tryd.isAgg21
  z21 := Tryd.sizeOf21
  v21 := Tryd.zeroValue21
  t31 := Tryd.underlying94
  a31 := Tryd.isAgg94
  z31 := Tryd.sizeOf94
  v31 := Tryd.zeroValue94
  t46 := Tryd.underlying125
  a46 := Tryd.isAgg125
  z46 := Tryd.sizeOf125
  v46 := Tryd.zeroValue125
  t51 := Tryd.underlying136
  a51 := Tryd.isAgg136
  z51 := Tryd.sizeOf136
  v51 := Tryd.zeroValue136
  t105 := Tryd.underlying149
  a105 := Tryd.isAgg149
  z105 := Tryd.sizeOf149
  v105 := Tryd.zeroValue149
  t119 := Tryd.underlying184
  a119 := Tryd.isAgg184
  z119 := Tryd.sizeOf184
  t138 := Tryd.underlying186
  a138 := Tryd.isAgg186
  z138 := Tryd.sizeOf186
  v138 := Tryd.zeroValue186
  t139 := Tryd.underlying187
  a139 := Tryd.isAgg187
  z139 := Tryd.sizeOf187
  v139 := Tryd.zeroValue187
  t146 := Tryd.underlying137
  a146 := Tryd.isAgg137
  z146 := Tryd.sizeOf137
  v146 := Tryd.zeroValue137
  g1 := by kernel_rfl
  g3 := by kernel_rfl
  g4 := by kernel_rfl }
open Go.RowKit Go.Lib in
theorem Tryd.strings_genSplit (s sep : ByteArray) (sv : Nat) (n : Int) (N : Nat) (m : Int) (w : World) (hs : s.size < 4294967281) (hm : w.cell? ⟨1, 0, none⟩ = some (.int .i64 m)) (h1 : 1 ≤ sep.size) (hsv : sv ≤ sep.size) (hn0 : n ≠ 0) (hn63 : n ≤ 9223372036854775807) (hN : (N : Int) = min (if n < 0 then (Lib.countB s sep : Int) + 1 else n) ((s.size : Int) + 1)) :
    Calls Tryd.prog 84 #[.string s, .string sep, .int .i64 sv, .int .i64 n] w fun e w' =>
      e = .returned (.slice (some ⟨w.heap.size, 0, none⟩) (Lib.splitB sep sv (N - 1) s).length N) ∧ w' = w.alloc (.cells (Lib.cellsOf (Lib.splitB sep sv (N - 1) s) N) 9) := Any.strings_genSplit Tryd.lays221 (by kernel_rfl) s sep sv n N m w hs hm h1 hsv hn0 hn63 hN
def Tryd.laysSlE041_f41_ren : Go.Shelf.Ren := ⟨fun | 41 => 41 | n => n, fun | 22 => 22 | 23 => 39 | 4 => 4 | n => n, fun | n => n⟩
theorem Tryd.laysSlE041_f41 : Go.Proofs.SlLaysE0.n41 Tryd.prog Tryd.laysSlE041_f41_ren := {
  mixed := by kernel_rfl
  f41 := ⟨Tryd.f41.name, by decide, Tryd.func41.trans (congrArg some (by kernel_rfl))⟩
  t4 := Tryd.underlying4
  a4 := Tryd.isAgg4
  z4 := Tryd.sizeOf4
  v4 := Tryd.zeroValue4
  t22 := Tryd.underlying22
  a22 := Tryd.isAgg22
  z22 := Tryd.sizeOf22
  v22 := Tryd.zeroValue22 }
open Go.RowKit Go.Lib in
theorem Tryd.slices_Clone_f41 (i0 : TypeInfo) (z : Value) (size bytes : Nat) (hi : Tryd.prog.info? 39 = some i0) (hz0 : i0.zero = some z) (hz1 : i0.size = size) (hz2 : i0.bytes = bytes) (hzs : z.cells.size = size) (hsz : 0 < size) (z23 : ∀ w, (Go.sizeOf 39).run Tryd.prog w = .ok size w) (b off n c : Nat) (news : List Value) (w : World) (hl : news.length = n * size) (hn : n ≤ maxLen) (hbig : n * bytes ≤ 140737488355328) (hc : ∀ j u, news[j]? = some u → w.cell? ⟨b, off + j, none⟩ = some u) (h1 : ∀ u ∈ news, u.oneCell' = true) :
    Calls Tryd.prog 41 #[.slice (some ⟨b, off, none⟩) n c] w fun e w' => ∃ v', e = .returned v' ∧ w'.ownsRow w.heap.size 39 size v' n news ∧ v' ≠ .slice none 0 0 ∧ Below w.heap.size w w' := AnyE.slices_Clone Tryd.laysSlE041_f41 i0 z size bytes hi hz0 hz1 hz2 hzs hsz z23 b off n c news w hl hn hbig hc h1
def Tryd.laysSlE041_f42_ren : Go.Shelf.Ren := ⟨fun | 41 => 42 | n => n, fun | 22 => 39 | 23 => 3 | 4 => 4 | n => n, fun | n => n⟩
theorem Tryd.laysSlE041_f42 : Go.Proofs.SlLaysE0.n41 Tryd.prog Tryd.laysSlE041_f42_ren := {
  mixed := by kernel_rfl
  f41 := ⟨Tryd.f42.name, by decide, Tryd.func42.trans (congrArg some (by kernel_rfl))⟩
  t4 := Tryd.underlying4
  a4 := Tryd.isAgg4
  z4 := Tryd.sizeOf4
  v4 := Tryd.zeroValue4
  t22 := Tryd.underlying39
  a22 := Tryd.isAgg39
  z22 := Tryd.sizeOf39
  v22 := Tryd.zeroValue39 }
open Go.RowKit Go.Lib in
theorem Tryd.slices_Clone_f42 (i0 : TypeInfo) (z : Value) (size bytes : Nat) (hi : Tryd.prog.info? 3 = some i0) (hz0 : i0.zero = some z) (hz1 : i0.size = size) (hz2 : i0.bytes = bytes) (hzs : z.cells.size = size) (hsz : 0 < size) (z23 : ∀ w, (Go.sizeOf 3).run Tryd.prog w = .ok size w) (b off n c : Nat) (news : List Value) (w : World) (hl : news.length = n * size) (hn : n ≤ maxLen) (hbig : n * bytes ≤ 140737488355328) (hc : ∀ j u, news[j]? = some u → w.cell? ⟨b, off + j, none⟩ = some u) (h1 : ∀ u ∈ news, u.oneCell' = true) :
    Calls Tryd.prog 42 #[.slice (some ⟨b, off, none⟩) n c] w fun e w' => ∃ v', e = .returned v' ∧ w'.ownsRow w.heap.size 3 size v' n news ∧ v' ≠ .slice none 0 0 ∧ Below w.heap.size w w' := AnyE.slices_Clone Tryd.laysSlE041_f42 i0 z size bytes hi hz0 hz1 hz2 hzs hsz z23 b off n c news w hl hn hbig hc h1
open Go.RowKit Go.Lib in
theorem Tryd.slices_Clone_nil_f41 (n c : Nat) (w : World) :
    Calls Tryd.prog 41 #[.slice none n c] w fun e w' => e = .returned (.slice none 0 0) ∧ w' = w := AnyE.slices_Clone_nil Tryd.laysSlE041_f41 n c w
open Go.RowKit Go.Lib in
theorem Tryd.slices_Clone_nil_f42 (n c : Nat) (w : World) :
    Calls Tryd.prog 42 #[.slice none n c] w fun e w' => e = .returned (.slice none 0 0) ∧ w' = w := AnyE.slices_Clone_nil Tryd.laysSlE041_f42 n c w
end Go.Proofs

namespace Go.Nx
open Go Go.RowKit Go.Shelf Go.Proofs
def errS : T := .ifc 191 (.ref [.str ⟨#[105, 110, 118, 97, 108, 105, 100, 32, 115, 121, 110, 116, 97, 120]⟩])
def errR : T := .ifc 191 (.ref [.str ⟨#[118, 97, 108, 117, 101, 32, 111, 117, 116, 32, 111, 102, 32, 114, 97, 110, 103, 101]⟩])
def tgl (g : Nat) : Option (List T) := match g with
  | 2 => some [errS]
  | 3 => some [errR]
  | _ => none
theorem genSplit_calls (s : ByteArray) (c : UInt8) (w : World) (hs : s.size ≤ 1048576) :
    Calls Tryd.prog 84 #[.string s, .string ⟨#[c]⟩, .int .i64 0, .int .i64 (-1)] w fun e w' =>
      e = .returned (.slice (some ⟨w.heap.size, 0, none⟩) (spl c s.data.toList).length (spl c s.data.toList).length) ∧ w' = w.alloc (.cells ((spl c s.data.toList).map fun p => Value.string ⟨p.toArray⟩).toArray 9) := by
  have hle := Lib.countB_le ⟨#[c]⟩ (Nat.le_refl 1) s.size s (Nat.le_refl _)
  have hlen := Lib.splitB_all ⟨#[c]⟩ (Nat.le_refl 1) 0 _ s rfl
  have h := Any.strings_genSplit_core Tryd.lays221 (by kernel_rfl) s ⟨#[c]⟩ 0 (-1) (Lib.countB s ⟨#[c]⟩ + 1) w (by omega) (Nat.le_refl 1) (Nat.zero_le _)
    (fun x cs hx => (Tryd.strings_Index_one x c _).mono fun e w' ⟨he, hw⟩ => ⟨by rw [he, indexB_one], hw⟩)
    ((Tryd.strings_Count_one s c w).mono fun e w' ⟨he, hw⟩ => ⟨by rw [he]; exact congrArg (fun n : Nat => Ending.returned (Value.int .i64 (n : Int))) (Lib.count_one c s.data.toList).symm, hw⟩) (by decide) (by decide) (by rw [if_pos (by decide)]; omega)
  rw [Nat.add_sub_cancel] at h
  have e2 : Lib.cellsOf (Lib.splitB ⟨#[c]⟩ 0 (Lib.countB s ⟨#[c]⟩) s) (Lib.countB s ⟨#[c]⟩ + 1) = ((spl c s.data.toList).map fun p => Value.string ⟨p.toArray⟩).toArray := by
    rw [← hlen, Lib.cellsOf_full, splitB_spl, List.map_map]; rfl
  rw [e2, hlen, show Lib.countB s ⟨#[c]⟩ + 1 = (spl c s.data.toList).length by rw [← hlen, splitB_spl, List.length_map]] at h
  exact h
theorem gl84_ok (s : ByteArray) (c : UInt8) (hs : s.size ≤ 1048576) : FnGl Tryd.prog tgl 84 [.str s, .str ⟨#[c]⟩, .int .i64 0, .int .i64 (-1)] 1 (ss (spl c s.data.toList)) := by
  refine ⟨⟨_, Tryd.func84, rfl, by decide⟩, fun S w args hS hgl hsz hrel => ?_⟩
  have hz : args.size = 4 := hsz
  obtain rfl : args = #[.string s, .string ⟨#[c]⟩, .int .i64 0, .int .i64 (-1)] := four_arg hz (by rw [Array.getElem?_eq_getElem (by omega)]; exact congrArg some (RelT.str_of (hrel 0 _ (args[0]'(by omega)) rfl (by simp))))
    (by rw [Array.getElem?_eq_getElem (by omega)]; exact congrArg some (RelT.str_of (hrel 1 _ (args[1]'(by omega)) rfl (by simp))))
    (by rw [Array.getElem?_eq_getElem (by omega)]; exact congrArg some (RelT.int_of (hrel 2 _ (args[2]'(by omega)) rfl (by simp))))
    (by rw [Array.getElem?_eq_getElem (by omega)]; exact congrArg some (RelT.int_of (hrel 3 _ (args[3]'(by omega)) rfl (by simp))))
  refine (genSplit_calls s c w hs).mono ?_
  rintro e W' ⟨rfl, rfl⟩
  have hl := spl_len c s.data.toList
  have hc : s.data.toList.count c ≤ s.size := by have := List.count_le_length (a := c) (l := s.data.toList); rw [Array.length_toList] at this; exact this
  have hrow := row_new w 9 ((spl c s.data.toList).map fun p => Value.string ⟨p.toArray⟩) (by rw [List.length_map]; unfold maxLen; omega)
  rw [List.length_map] at hrow
  refine ⟨_, rfl, (Below.refl _ w).alloc (Nat.le_refl _) _, row_gl (e := 9) hS (us := (spl c s.data.toList).map fun p => Value.string ⟨p.toArray⟩) (by rw [ss_len]; exact hrow) flat_ss fun i x u hx hu c' hc' S' _ => ?_⟩
  unfold ss at hx
  rw [List.getElem?_map] at hx hu
  cases hh : (spl c s.data.toList)[i]? with
  | none => rw [hh] at hx; cases hx
  | some n =>
    rw [hh] at hx hu
    simp at hx hu; subst hx hu
    simp [T.cells] at hc'; subst hc'
    exact .str _
open Classical in
noncomputable def c84 : List T → Ans
  | [.str s, .str u, .int .i64 a, .int .i64 b] => .gl (s.size ≤ 1048576 ∧ u = ⟨#[sep1 u]⟩ ∧ a = 0 ∧ b = -1) 1 (ss (spl (sep1 u) s.data.toList))
  | _ => .no
theorem got84 {vs : List T} {x : T} (h : Got (c84 vs) x) : FnOk Tryd.prog tgl 84 vs x := by
  unfold c84 at h
  split at h
  · exact (got_gl h).elim
  · exact (got_no h).elim
theorem gl84 (vs : List T) (p : Prop) (d : Decidable p) (sz : Nat) (xs : List T) (h : c84 vs = @Ans.gl p d sz xs) (hp : p) : FnGl Tryd.prog tgl 84 vs sz xs := by
  unfold c84 at h
  split at h
  · rename_i s u a b
    cases h
    obtain ⟨h1, h2, rfl, rfl⟩ := hp
    have := gl84_ok s (sep1 u) h1
    rw [← h2] at this
    exact this
  · cases h
theorem pk84 (vs : List T) (p : Prop) (d : Decidable p) (x : T) (h : c84 vs = @Ans.pk p d x) (hp : p) : FnOk Tryd.prog tgl 84 vs x := by
  unfold c84 at h
  split at h <;> cases h
def atoiA (s : ByteArray) : T := match Lib.atoiAll s.data.toList with
  | .ok n => .tup [.int .i64 n, .nilif]
  | .range => .tup [.int .i64 (Lib.atoiSat s.data.toList), .ifc 155 (.ref [.str ⟨#[65, 116, 111, 105]⟩, .str s, errR])]
  | _ => .tup [.int .i64 0, .ifc 155 (.ref [.str ⟨#[65, 116, 111, 105]⟩, .str s, errS])]
theorem okA (s : ByteArray) (hs : s.size ≤ 281474976710656) : FnOk Tryd.prog tgl 85 [.str s] (atoiA s) := by
  refine ⟨⟨_, Tryd.func85, rfl, by decide⟩, fun S w args hS hgl hsz hrel => ?_⟩
  have hz : args.size = 1 := hsz
  obtain rfl : args = #[.string s] := one_arg hz (by rw [Array.getElem?_eq_getElem (by omega)]; exact congrArg some (RelT.str_of (hrel 0 _ (args[0]'(by omega)) rfl (by simp))))
  unfold atoiA
  cases h : Lib.atoiAll s.data.toList with
  | ok n =>
    refine (Any.strconv_Atoi_ok Tryd.laysC172 s (by omega) n h w).mono ?_
    rintro e W' ⟨rfl, hw⟩
    have hb : Below w.heap.size w W' := by
      rcases hw with rfl | ⟨t, rfl⟩
      · exact Below.refl _ _
      · exact below_bytes w _ _
    refine ⟨_, rfl, .tup _ _ rfl fun i c v hc hv => ?_, hb⟩
    match i with
    | 0 => simp at hc hv; subst hc hv; exact .int _ _
    | 1 => simp at hc hv; subst hc hv; exact .nilif
    | i + 2 => simp at hc
  | range =>
    obtain ⟨h1, ev, h2, h3⟩ := hgl 3 _ rfl 0 _ rfl
    have hev : ev = .nilIface ∨ ∃ te pe, ev = .iface te pe := by cases h3; exact .inr ⟨_, _, rfl⟩
    refine (Any.strconv_Atoi_range Tryd.laysC172 s (by omega) h ev w h2 hev).mono ?_
    rintro e W' ⟨N, rfl, hN, hc0, hb⟩
    have hNs : N < W'.heap.size := (Array.getElem?_eq_some_iff.1 hc0).1
    refine ⟨_, rfl, .tup _ _ rfl fun i c v hc hv => ?_, hb⟩
    match i with
    | 0 => simp at hc hv; subst hc hv; exact .int _ _
    | 1 =>
      simp at hc hv; subst hc hv
      refine .ifc _ _ _ (.ref _ N 0 (fun i => match i with | 0 => .string ⟨#[65, 116, 111, 105]⟩ | 1 => .string s | _ => ev) (fun i hi => ?_) fun i c hc => ?_)
      · refine ⟨.inr ⟨hN, hNs⟩, ?_⟩
        match i with
        | 0 => simp [World.cell?, hc0]
        | 1 => simp [World.cell?, hc0]
        | 2 => simp [World.cell?, hc0]
        | i + 3 => simp at hi; omega
      · match i with
        | 0 => simp at hc; subst hc; exact .str _
        | 1 => simp at hc; subst hc; exact .str _
        | 2 => simp at hc; subst hc; exact h3.mono (fun _ _ h => .inl h) fun b o h => hb.cell (p := ⟨b, o, none⟩) (hS _ _ h)
        | i + 3 => simp at hc
    | i + 2 => simp at hc
  | _ =>
    obtain ⟨h1, ev, h2, h3⟩ := hgl 2 _ rfl 0 _ rfl
    have hev : ev = .nilIface ∨ ∃ te pe, ev = .iface te pe := by cases h3; exact .inr ⟨_, _, rfl⟩
    refine (Any.strconv_Atoi_syntax Tryd.laysC172 s (by omega) h ev w h2 hev).mono ?_
    rintro e W' ⟨N, rfl, hN, hc0, hb⟩
    have hNs : N < W'.heap.size := (Array.getElem?_eq_some_iff.1 hc0).1
    refine ⟨_, rfl, .tup _ _ rfl fun i c v hc hv => ?_, hb⟩
    match i with
    | 0 => simp at hc hv; subst hc hv; exact .int _ _
    | 1 =>
      simp at hc hv; subst hc hv
      refine .ifc _ _ _ (.ref _ N 0 (fun i => match i with | 0 => .string ⟨#[65, 116, 111, 105]⟩ | 1 => .string s | _ => ev) (fun i hi => ?_) fun i c hc => ?_)
      · refine ⟨.inr ⟨hN, hNs⟩, ?_⟩
        match i with
        | 0 => simp [World.cell?, hc0]
        | 1 => simp [World.cell?, hc0]
        | 2 => simp [World.cell?, hc0]
        | i + 3 => simp at hi; omega
      · match i with
        | 0 => simp at hc; subst hc; exact .str _
        | 1 => simp at hc; subst hc; exact .str _
        | 2 => simp at hc; subst hc; exact h3.mono (fun _ _ h => .inl h) fun b o h => hb.cell (p := ⟨b, o, none⟩) (hS _ _ h)
        | i + 3 => simp at hc
    | i + 2 => simp at hc
theorem atoiA_eq (s : ByteArray) : ∃ x, atoiA s = .tup [.int .i64 (atoiN s.data.toList), x] := by
  unfold atoiA atoiN
  cases Lib.atoiAll s.data.toList <;> exact ⟨_, rfl⟩
def atoiX (s : ByteArray) : T := match Lib.atoiAll s.data.toList with
  | .ok n => .nilif
  | .range => .ifc 155 (.ref [.str ⟨#[65, 116, 111, 105]⟩, .str s, errR])
  | _ => .ifc 155 (.ref [.str ⟨#[65, 116, 111, 105]⟩, .str s, errS])
theorem atoiA_tup (s : ByteArray) : atoiA s = .tup [.int .i64 (atoiN s.data.toList), atoiX s] := by
  unfold atoiA atoiX atoiN
  cases Lib.atoiAll s.data.toList <;> rfl
end Go.Nx
end
section
set_option linter.unusedVariables false
set_option linter.unusedSimpArgs false
set_option maxRecDepth 20000
set_option maxHeartbeats 4000000
namespace Go.Nx
open Go Go.RowKit Go.Proofs

noncomputable def lH0 : List (Nat × (List T → Ans)) := []
noncomputable def iH0 : List (Nat × Pt) := []
noncomputable abbrev H0 : Env := En tgl lH0 iH0
theorem env_H0 : EnvOk Tryd.prog H0 := env_nil
def unss (xs : List T) : List (List UInt8) := xs.map fun
  | .str s => s.data.toList
  | _ => []
@[simp] theorem unss_ss (l : List (List UInt8)) : unss (ss l) = l := by simp [unss, ss, Function.comp_def]
theorem ok64 (n : Int) (hq : 0 ≤ n ∧ n < 100) : FnOk Tryd.prog tgl 64 [.int .i64 n] (.str (dig n)) := by
  obtain ⟨k, rfl⟩ : ∃ k : Nat, n = k := ⟨n.toNat, by omega⟩
  refine ⟨⟨_, Tryd.func64, rfl, by decide⟩, fun S w args hS hgl hsz hrel => ?_⟩
  have hz : args.size = 1 := hsz
  obtain rfl : args = #[.int .i64 (k : Int)] := one_arg hz (by rw [Array.getElem?_eq_getElem (by omega)]; exact congrArg some (RelT.int_of (hrel 0 _ (args[0]'(by omega)) rfl (by simp))))
  refine (Tryd.strconv_Itoa_small k (by omega) w).mono ?_
  rintro e W' ⟨rfl, rfl⟩
  exact ⟨_, rfl, .str _, Below.refl _ _⟩
open Classical in
noncomputable def c64 : List T → Ans
  | [.int .i64 n] => .req (0 ≤ n ∧ n < 100) (.str (dig n))
  | _ => .no
theorem got64 {vs : List T} {x : T} (h : Got (c64 vs) x) : FnOk Tryd.prog tgl 64 vs x := by
  unfold c64 at h
  split at h
  · obtain ⟨hq, e⟩ := got_req h; rw [e]; exact ok64 _ hq
  · exact (got_no h).elim
theorem nogl64 (vs : List T) (p : Prop) (d : Decidable p) (sz : Nat) (xs : List T) (h : c64 vs = @Ans.gl p d sz xs) : False := by
  unfold c64 at h
  split at h <;> cases h
theorem pk64 (vs : List T) (p : Prop) (d : Decidable p) (x : T) (h : c64 vs = @Ans.pk p d x) (hp : p) : FnOk Tryd.prog tgl 64 vs x := by
  unfold c64 at h
  split at h
  · cases h
  · cases h
theorem ss_get {l : List (List UInt8)} {j : Nat} {p : List UInt8} (h : l[j]? = some p) : (ss l)[j]? = some (.str ⟨p.toArray⟩) := by simp [ss, h]
theorem okJ (l : List (List UInt8)) (u : ByteArray) (h1 : l.length ≤ 140737488355328) (h2 : (Lib.join l u.data.toList).length ≤ 140737488355328) : FnOk Tryd.prog tgl 65 [.list 1 (ss l), .str u] (.str ⟨(Lib.join l u.data.toList).toArray⟩) := by
  refine ⟨⟨_, Tryd.func65, rfl, by decide⟩, fun S w args hS hgl hsz hrel => ?_⟩
  have hz : args.size = 2 := hsz
  have hr0 := hrel 0 _ (args[0]'(by omega)) rfl (by simp)
  generalize hv : args[0]'(by omega) = v at hr0
  obtain rfl : args = #[v, .string u] := two_arg hz (by rw [Array.getElem?_eq_getElem (by omega), hv]) (by rw [Array.getElem?_eq_getElem (by omega)]; exact congrArg some (RelT.str_of (hrel 1 _ (args[1]'(by omega)) rfl (by simp))))
  cases hr0 with
  | list _ _ a cap f hcap ha hfl hr =>
    rw [ss_len] at hcap ⊢
    cases l with
    | nil =>
      refine (Tryd.strings_Join_none a cap u w).mono ?_
      rintro e W' ⟨rfl, rfl⟩
      exact ⟨_, rfl, .str _, Below.refl _ _⟩
    | cons x r =>
      obtain ⟨b, o, rfl, hc⟩ := ha (by simp [ss])
      rw [ss_len] at hc
      have hcell : ∀ (j : Nat) (p : List UInt8), (x :: r)[j]? = some p → S b (o + j) ∧ w.cell? ⟨b, o + j, none⟩ = some (.string ⟨p.toArray⟩) := fun j p hj => by
        have hlt := (List.getElem?_eq_some_iff.1 hj).1
        obtain ⟨q1, q2⟩ := hc j 0 hlt (by omega)
        have q3 := RelT.str_of (hr j _ (ss_get hj) 0 _ rfl)
        rw [q3] at q2
        simp only [Nat.mul_one, Nat.add_zero] at q1 q2
        exact ⟨q1, q2⟩
      have hb : b < w.heap.size := hS _ _ (hcell 0 x rfl).1
      have hm : ((x :: r).map fun p => (⟨p.toArray⟩ : ByteArray)).map (·.data.toList) = x :: r := by simp [Function.comp_def]
      have hJ := Tryd.strings_Join b o cap ((x :: r).map fun p => ⟨p.toArray⟩) u w (fun j y hj => by
        rw [List.getElem?_map] at hj
        cases hq : (x :: r)[j]? with
        | none => rw [hq] at hj; cases hj
        | some p => rw [hq] at hj; simp at hj; subst hj; exact (hcell j p hq).2) hb (by rw [List.length_map]; exact h1) (by rw [List.length_map]; exact hcap) (by rw [hm]; exact h2)
      rw [hm, List.length_map] at hJ
      refine hJ.mono ?_
      rintro e W' ⟨rfl, hbl⟩
      exact ⟨_, rfl, .str _, hbl⟩
theorem ok65 (xs : List T) (u : ByteArray) (hq : (∃ l, xs = ss l) ∧ xs.length ≤ 140737488355328 ∧ (Lib.join (unss xs) u.data.toList).length ≤ 140737488355328) : FnOk Tryd.prog tgl 65 [.list 1 xs, .str u] (.str ⟨(Lib.join (unss xs) u.data.toList).toArray⟩) := by
  obtain ⟨⟨l, rfl⟩, h1, h2⟩ := hq
  rw [unss_ss] at h2 ⊢
  rw [ss_len] at h1
  exact okJ l u h1 h2
theorem ok65_2 (u : ByteArray) (hq : u.size ≤ 1048576) : FnOk Tryd.prog tgl 65 [.nils, .str u] (.str ⟨#[]⟩) := by
  refine ⟨⟨_, Tryd.func65, rfl, by decide⟩, fun S w args hS hgl hsz hrel => ?_⟩
  have hz : args.size = 2 := hsz
  have hr0 := hrel 0 _ (args[0]'(by omega)) rfl (by simp)
  generalize hv : args[0]'(by omega) = v at hr0
  obtain rfl : args = #[v, .string u] := two_arg hz (by rw [Array.getElem?_eq_getElem (by omega), hv]) (by rw [Array.getElem?_eq_getElem (by omega)]; exact congrArg some (RelT.str_of (hrel 1 _ (args[1]'(by omega)) rfl (by simp))))
  cases hr0
  refine (Tryd.strings_Join_none none 0 u w).mono ?_
  rintro e W' ⟨rfl, rfl⟩
  exact ⟨_, rfl, .str _, Below.refl _ _⟩
open Classical in
noncomputable def c65 : List T → Ans
  | [.list 1 xs, .str u] => .req ((∃ l, xs = ss l) ∧ xs.length ≤ 140737488355328 ∧ (Lib.join (unss xs) u.data.toList).length ≤ 140737488355328) (.str ⟨(Lib.join (unss xs) u.data.toList).toArray⟩)
  | [.nils, .str u] => .req (u.size ≤ 1048576) (.str ⟨#[]⟩)
  | _ => .no
theorem got65 {vs : List T} {x : T} (h : Got (c65 vs) x) : FnOk Tryd.prog tgl 65 vs x := by
  unfold c65 at h
  split at h
  · obtain ⟨hq, e⟩ := got_req h; rw [e]; exact ok65 _ _ hq
  · obtain ⟨hq, e⟩ := got_req h; rw [e]; exact ok65_2 _ hq
  · exact (got_no h).elim
theorem nogl65 (vs : List T) (p : Prop) (d : Decidable p) (sz : Nat) (xs : List T) (h : c65 vs = @Ans.gl p d sz xs) : False := by
  unfold c65 at h
  split at h <;> cases h
theorem pk65 (vs : List T) (p : Prop) (d : Decidable p) (x : T) (h : c65 vs = @Ans.pk p d x) (hp : p) : FnOk Tryd.prog tgl 65 vs x := by
  unfold c65 at h
  split at h
  · cases h
  · cases h
  · cases h
noncomputable def lH1 : List (Nat × (List T → Ans)) := (84, c84) :: lH0
noncomputable def iH1 : List (Nat × Pt) := iH0
noncomputable abbrev H1 : Env := En tgl lH1 iH1
theorem env_H1 : EnvOk Tryd.prog H1 := (env_fn env_H0 (fun _ _ => got84) gl84 pk84)
theorem ok58 (s u : ByteArray) (hq : s.size ≤ 1048576 ∧ u = ⟨#[sep1 u]⟩) : FnGl Tryd.prog tgl 58 [.str s, .str u] 1 (ss (spl (sep1 u) s.data.toList)) := by
  refine fnG_ok (Γ := H1) env_H1 Tryd.func58 low58 ?_
  conv => whnf
  repeat' (first
    | (refine brK_true rfl ?_; conv => whnf)
    | (refine brK_false rfl ?_; conv => whnf)
    | (refine brK_true (by assumption) ?_; conv => whnf)
    | (refine brK_false (by assumption) ?_; conv => whnf)
    | (refine brK_true ?_ ?_; (focus (simp only [List.length_nil, fx] <;> omega)); conv => whnf)
    | (refine brK_false ?_ ?_; (focus (simp only [List.length_nil, fx] <;> omega)); conv => whnf)
    | ((refine brK_of (fun h => ?_) (fun h => ?_)) <;> (have h2 := h; (try simp only [List.length_nil, fx] at h2); conv => whnf))
    | (refine reqK_of ?_ ?_; (focus (first | decide | omega | assumption | (simp only [List.length_nil, fx] <;> omega) | (simp [keyNew, sameKey, kEq] <;> omega))); conv => whnf)
    | (refine reqK_of ?_ ?_; rotate_left; (conv => whnf); rotate_left)
    | (refine nth_us ?_ ?_ ?_; (focus (first | omega | (simp only [List.length_nil, fx] <;> omega))); (focus (first | omega | (simp only [List.length_nil, fx] <;> omega))); conv => whnf)
    | (refine nth_is ?_ ?_ ?_; (focus (first | omega | (simp only [List.length_nil, fx] <;> omega))); (focus (first | omega | (simp only [List.length_nil, fx] <;> omega))); conv => whnf)
    | (refine nth_bs ?_ ?_ ?_; (focus (first | omega | (simp only [List.length_nil, fx] <;> omega))); (focus (first | omega | (simp only [List.length_nil, fx] <;> omega))); conv => whnf))
open Classical in
noncomputable def c58 : List T → Ans
  | [.str s, .str u] => .gl (s.size ≤ 1048576 ∧ u = ⟨#[sep1 u]⟩) 1 (ss (spl (sep1 u) s.data.toList))
  | _ => .no
theorem got58 {vs : List T} {x : T} (h : Got (c58 vs) x) : FnOk Tryd.prog tgl 58 vs x := by
  unfold c58 at h
  split at h
  · exact (got_gl h).elim
  · exact (got_no h).elim
theorem gl58 (vs : List T) (p : Prop) (d : Decidable p) (sz : Nat) (xs : List T) (h : c58 vs = @Ans.gl p d sz xs) (hp : p) : FnGl Tryd.prog tgl 58 vs sz xs := by
  unfold c58 at h
  split at h
  · cases h; exact ok58 _ _ hp
  · cases h
theorem pk58 (vs : List T) (p : Prop) (d : Decidable p) (x : T) (h : c58 vs = @Ans.pk p d x) (hp : p) : FnOk Tryd.prog tgl 58 vs x := by
  unfold c58 at h
  split at h <;> cases h
def numO (l : List UInt8) : Option Int := match Lib.atoiAll l with
  | .ok v => some v
  | _ => none
def isNum (l : List UInt8) : Bool := (numO l).isSome
theorem atoiX_num {s : ByteArray} (h : isNum s.data.toList = true) : atoiX s = .nilif := by
  unfold isNum numO at h
  unfold atoiX
  cases hh : Lib.atoiAll s.data.toList <;> rw [hh] at h <;> simp at h ⊢
theorem atoiX_not {s : ByteArray} (h : isNum s.data.toList = false) : ∃ e, atoiX s = .ifc 155 e := by
  unfold isNum numO at h
  unfold atoiX
  cases hh : Lib.atoiAll s.data.toList <;> rw [hh] at h <;> simp at h ⊢
theorem ok85 (s : ByteArray) (hq : s.size ≤ 281474976710656) : FnOk Tryd.prog tgl 85 [.str s] (.tup [.int .i64 (atoiN s.data.toList), atoiX s]) := by
  rw [← atoiA_tup]; exact okA s hq
open Classical in
noncomputable def c85 : List T → Ans
  | [.str s] => .req (s.size ≤ 281474976710656) (.tup [.int .i64 (atoiN s.data.toList), atoiX s])
  | _ => .no
theorem got85 {vs : List T} {x : T} (h : Got (c85 vs) x) : FnOk Tryd.prog tgl 85 vs x := by
  unfold c85 at h
  split at h
  · obtain ⟨hq, e⟩ := got_req h; rw [e]; exact ok85 _ hq
  · exact (got_no h).elim
theorem nogl85 (vs : List T) (p : Prop) (d : Decidable p) (sz : Nat) (xs : List T) (h : c85 vs = @Ans.gl p d sz xs) : False := by
  unfold c85 at h
  split at h <;> cases h
theorem pk85 (vs : List T) (p : Prop) (d : Decidable p) (x : T) (h : c85 vs = @Ans.pk p d x) (hp : p) : FnOk Tryd.prog tgl 85 vs x := by
  unfold c85 at h
  split at h
  · cases h
  · cases h
noncomputable def lH2 : List (Nat × (List T → Ans)) := (85, c85) :: lH0
noncomputable def iH2 : List (Nat × Pt) := iH0
noncomputable abbrev H2 : Env := En tgl lH2 iH2
theorem env_H2 : EnvOk Tryd.prog H2 := (env_fn env_H0 (fun _ _ => got85) (fun vs p d sz xs h _ => (nogl85 vs p d sz xs h).elim) pk85)
theorem num_run (s : ByteArray) (hs : s.size ≤ 281474976710656) : FnPk Tryd.prog tgl 59 [.str s] (isNum s.data.toList) (.int .i64 (atoiN s.data.toList)) (some (.ifc 97 (.str s))) := by
  refine fnP_ok env_H2 Tryd.func59 low59 ?_
  cases h : isNum s.data.toList
  · obtain ⟨e, he⟩ := atoiX_not h
    conv => whnf
    repeat' (first
      | (refine brK_true rfl ?_; conv => whnf)
      | (refine brK_false rfl ?_; conv => whnf)
      | (refine brK_true (by assumption) ?_; conv => whnf)
      | (refine brK_false (by assumption) ?_; conv => whnf)
      | (refine brK_true ?_ ?_; (focus (simp only [List.length_nil, fx] <;> omega)); conv => whnf)
      | (refine brK_false ?_ ?_; (focus (simp only [List.length_nil, fx] <;> omega)); conv => whnf)
      | ((refine brK_of (fun h => ?_) (fun h => ?_)) <;> (have h2 := h; (try simp only [List.length_nil, fx] at h2); conv => whnf))
      | (refine reqK_of ?_ ?_; (focus (first | decide | omega | assumption | (simp only [List.length_nil, fx] <;> omega) | (simp [keyNew, sameKey, kEq] <;> omega))); conv => whnf)
      | (refine reqK_of ?_ ?_; rotate_left; (conv => whnf); rotate_left)
      | (refine nth_us ?_ ?_ ?_; (focus (first | omega | (simp only [List.length_nil, fx] <;> omega))); (focus (first | omega | (simp only [List.length_nil, fx] <;> omega))); conv => whnf)
      | (refine nth_is ?_ ?_ ?_; (focus (first | omega | (simp only [List.length_nil, fx] <;> omega))); (focus (first | omega | (simp only [List.length_nil, fx] <;> omega))); conv => whnf)
      | (refine nth_bs ?_ ?_ ?_; (focus (first | omega | (simp only [List.length_nil, fx] <;> omega))); (focus (first | omega | (simp only [List.length_nil, fx] <;> omega))); conv => whnf))
    rw [he]
    conv => whnf
    repeat' (first
      | (refine brK_true rfl ?_; conv => whnf)
      | (refine brK_false rfl ?_; conv => whnf)
      | (refine brK_true (by assumption) ?_; conv => whnf)
      | (refine brK_false (by assumption) ?_; conv => whnf)
      | (refine brK_true ?_ ?_; (focus (simp only [List.length_nil, fx] <;> omega)); conv => whnf)
      | (refine brK_false ?_ ?_; (focus (simp only [List.length_nil, fx] <;> omega)); conv => whnf)
      | ((refine brK_of (fun h => ?_) (fun h => ?_)) <;> (have h2 := h; (try simp only [List.length_nil, fx] at h2); conv => whnf))
      | (refine reqK_of ?_ ?_; (focus (first | decide | omega | assumption | (simp only [List.length_nil, fx] <;> omega) | (simp [keyNew, sameKey, kEq] <;> omega))); conv => whnf)
      | (refine reqK_of ?_ ?_; rotate_left; (conv => whnf); rotate_left)
      | (refine nth_us ?_ ?_ ?_; (focus (first | omega | (simp only [List.length_nil, fx] <;> omega))); (focus (first | omega | (simp only [List.length_nil, fx] <;> omega))); conv => whnf)
      | (refine nth_is ?_ ?_ ?_; (focus (first | omega | (simp only [List.length_nil, fx] <;> omega))); (focus (first | omega | (simp only [List.length_nil, fx] <;> omega))); conv => whnf)
      | (refine nth_bs ?_ ?_ ?_; (focus (first | omega | (simp only [List.length_nil, fx] <;> omega))); (focus (first | omega | (simp only [List.length_nil, fx] <;> omega))); conv => whnf))
    all_goals exact ⟨rfl, .inr rfl⟩
  · have he := atoiX_num h
    conv => whnf
    repeat' (first
      | (refine brK_true rfl ?_; conv => whnf)
      | (refine brK_false rfl ?_; conv => whnf)
      | (refine brK_true (by assumption) ?_; conv => whnf)
      | (refine brK_false (by assumption) ?_; conv => whnf)
      | (refine brK_true ?_ ?_; (focus (simp only [List.length_nil, fx] <;> omega)); conv => whnf)
      | (refine brK_false ?_ ?_; (focus (simp only [List.length_nil, fx] <;> omega)); conv => whnf)
      | ((refine brK_of (fun h => ?_) (fun h => ?_)) <;> (have h2 := h; (try simp only [List.length_nil, fx] at h2); conv => whnf))
      | (refine reqK_of ?_ ?_; (focus (first | decide | omega | assumption | (simp only [List.length_nil, fx] <;> omega) | (simp [keyNew, sameKey, kEq] <;> omega))); conv => whnf)
      | (refine reqK_of ?_ ?_; rotate_left; (conv => whnf); rotate_left)
      | (refine nth_us ?_ ?_ ?_; (focus (first | omega | (simp only [List.length_nil, fx] <;> omega))); (focus (first | omega | (simp only [List.length_nil, fx] <;> omega))); conv => whnf)
      | (refine nth_is ?_ ?_ ?_; (focus (first | omega | (simp only [List.length_nil, fx] <;> omega))); (focus (first | omega | (simp only [List.length_nil, fx] <;> omega))); conv => whnf)
      | (refine nth_bs ?_ ?_ ?_; (focus (first | omega | (simp only [List.length_nil, fx] <;> omega))); (focus (first | omega | (simp only [List.length_nil, fx] <;> omega))); conv => whnf))
    rw [he]
    conv => whnf
    repeat' (first
      | (refine brK_true rfl ?_; conv => whnf)
      | (refine brK_false rfl ?_; conv => whnf)
      | (refine brK_true (by assumption) ?_; conv => whnf)
      | (refine brK_false (by assumption) ?_; conv => whnf)
      | (refine brK_true ?_ ?_; (focus (simp only [List.length_nil, fx] <;> omega)); conv => whnf)
      | (refine brK_false ?_ ?_; (focus (simp only [List.length_nil, fx] <;> omega)); conv => whnf)
      | ((refine brK_of (fun h => ?_) (fun h => ?_)) <;> (have h2 := h; (try simp only [List.length_nil, fx] at h2); conv => whnf))
      | (refine reqK_of ?_ ?_; (focus (first | decide | omega | assumption | (simp only [List.length_nil, fx] <;> omega) | (simp [keyNew, sameKey, kEq] <;> omega))); conv => whnf)
      | (refine reqK_of ?_ ?_; rotate_left; (conv => whnf); rotate_left)
      | (refine nth_us ?_ ?_ ?_; (focus (first | omega | (simp only [List.length_nil, fx] <;> omega))); (focus (first | omega | (simp only [List.length_nil, fx] <;> omega))); conv => whnf)
      | (refine nth_is ?_ ?_ ?_; (focus (first | omega | (simp only [List.length_nil, fx] <;> omega))); (focus (first | omega | (simp only [List.length_nil, fx] <;> omega))); conv => whnf)
      | (refine nth_bs ?_ ?_ ?_; (focus (first | omega | (simp only [List.length_nil, fx] <;> omega))); (focus (first | omega | (simp only [List.length_nil, fx] <;> omega))); conv => whnf))
    all_goals exact ⟨rfl, rfl⟩
end Go.Nx
end
section
set_option linter.unusedVariables false
set_option linter.unusedSimpArgs false
set_option maxRecDepth 20000
namespace Go.Nx
open Go.RowKit

def rowOk (n : Int) (m : Nat) (l : List Int) : Bool := decide ((l.length : Int) = n) && l.all fun v => decide (0 ≤ v ∧ v ≤ m)
def hRight (n : Int) (L : List (List Int)) : Bool := decide (1 ≤ n) && (decide (n ≤ 4) && (decide (L.length ≤ 64) && L.all (rowOk n L.length)))
theorem hRight_iff {n : Int} {L : List (List Int)} : hRight n L = true ↔ (1 ≤ n ∧ n ≤ 4 ∧ L.length ≤ 64) ∧ ∀ l ∈ L, (l.length : Int) = n ∧ ∀ v ∈ l, 0 ≤ v ∧ v ≤ L.length := by
  unfold hRight rowOk
  simp only [Bool.and_eq_true, decide_eq_true_eq, List.all_eq_true]
  constructor
  · rintro ⟨h1, h2, h3, h4⟩; exact ⟨⟨h1, h2, h3⟩, fun l hl => h4 l hl⟩
  · rintro ⟨⟨h1, h2, h3⟩, h4⟩; exact ⟨h1, h2, h3, fun l hl => h4 l hl⟩
def hRow (l : List Int) : List UInt8 := jn 44 (l.map fun v => (dig v).data.toList)
def hCat (n : Int) (L : List (List Int)) : List UInt8 := (dig n).data.toList ++ (L.map fun l => 124 :: hRow l).flatten
def hTxt (n : Int) (L : List (List Int)) : ByteArray := if hRight n L then ⟨(hCat n L).toArray⟩ else ⟨#[63]⟩
theorem cat_jn (x : List UInt8) : ∀ (r : List (List UInt8)), x ++ (r.map fun p => 124 :: p).flatten = jn 124 (x :: r)
  | [] => by simp [jn]
  | y :: r => by
    rw [List.map_cons, List.flatten_cons, jn_cons _ _ (by simp), List.cons_append, cat_jn y r]
theorem hCat_jn (n : Int) (L : List (List Int)) : hCat n L = jn 124 ((dig n).data.toList :: L.map hRow) := by
  rw [← cat_jn]
  unfold hCat
  rw [List.map_map]; rfl
theorem digO : ∀ k : Fin 65, numO (dig (k.val : Int)).data.toList = some (k.val : Int) ∧ (dig (k.val : Int)).data.toList.contains 44 = false ∧ (dig (k.val : Int)).data.toList.contains 124 = false := by decide +kernel
theorem dig_num {o : Int} (h : 0 ≤ o ∧ o ≤ 64) : numO (dig o).data.toList = some o ∧ (44 : UInt8) ∉ (dig o).data.toList ∧ (124 : UInt8) ∉ (dig o).data.toList := by
  obtain ⟨k, rfl⟩ : ∃ k : Nat, o = k := ⟨o.toNat, by omega⟩
  obtain ⟨h1, h2, h3⟩ := digO ⟨k, by omega⟩
  refine ⟨h1, fun hm => ?_, fun hm => ?_⟩
  · rw [List.contains_iff_mem.2 hm] at h2; cases h2
  · rw [List.contains_iff_mem.2 hm] at h3; cases h3
theorem jn_no {c d : UInt8} (hcd : c ≠ d) : ∀ {ps : List (List UInt8)}, (∀ p ∈ ps, c ∉ p) → c ∉ jn d ps
  | [], h => by simp [jn]
  | [x], h => h x (by simp)
  | x :: y :: r, h => by
    rw [jn_cons d x (by simp)]
    intro hm
    rcases List.mem_append.1 hm with hm | hm
    · exact h x (by simp) hm
    · rcases List.mem_cons.1 hm with hm | hm
      · exact hcd hm
      · exact jn_no hcd (ps := y :: r) (fun p hp => h p (by simp [hp])) hm
theorem hRow_no {l : List Int} (h : ∀ v ∈ l, 0 ≤ v ∧ v ≤ 64) : (124 : UInt8) ∉ hRow l := by
  refine jn_no (by decide) fun p hp => ?_
  obtain ⟨v, hv, rfl⟩ := List.mem_map.1 hp
  exact (dig_num (h v hv)).2.2
theorem hRow_spl {l : List Int} (hn : l ≠ []) (h : ∀ v ∈ l, 0 ≤ v ∧ v ≤ 64) : spl 44 (hRow l) = l.map fun v => (dig v).data.toList := by
  unfold hRow
  refine spl_jn (by simpa using hn) fun p hp => ?_
  obtain ⟨v, hv, rfl⟩ := List.mem_map.1 hp
  exact (dig_num (h v hv)).2.1
theorem hCat_spl {n : Int} {L : List (List Int)} (hn : 0 ≤ n ∧ n ≤ 64) (h : ∀ l ∈ L, ∀ v ∈ l, 0 ≤ v ∧ v ≤ 64) : spl 124 (hCat n L) = (dig n).data.toList :: L.map hRow := by
  rw [hCat_jn]
  refine spl_jn (by simp) fun p hp => ?_
  rcases List.mem_cons.1 hp with rfl | hp
  · exact (dig_num hn).2.2
  · obtain ⟨l, hl, rfl⟩ := List.mem_map.1 hp
    exact hRow_no (h l hl)
def allN : List (List UInt8) → Bool
  | [] => true
  | w :: r => isNum w && allN r
def rowN (p : List UInt8) : List Int := (spl 44 p).map atoiN
def hOk (ps : List (List UInt8)) : Bool := match ps with
  | [] => false
  | a :: r => isNum a && r.all fun p => allN (spl 44 p)
def hNum (t : ByteArray) : Int := atoiN ((spl 124 t.data.toList).headD [])
def hObjs (t : ByteArray) : List (List Int) := (spl 124 t.data.toList).tail.map rowN
def hP (t : ByteArray) : Bool := hOk (spl 124 t.data.toList) && decide (hTxt (hNum t) (hObjs t) = t)
theorem numO_atoi {w : List UInt8} {v : Int} (h : numO w = some v) : isNum w = true ∧ atoiN w = v := by
  unfold isNum
  rw [h]
  refine ⟨rfl, ?_⟩
  unfold numO at h
  unfold atoiN
  cases hh : Lib.atoiAll w <;> rw [hh] at h <;> simp at h ⊢
  exact h
theorem allN_map {l : List Int} (h : ∀ v ∈ l, 0 ≤ v ∧ v ≤ 64) : allN (l.map fun v => (dig v).data.toList) = true ∧ (l.map fun v => (dig v).data.toList).map atoiN = l := by
  induction l with
  | nil => exact ⟨rfl, rfl⟩
  | cons v r ih =>
    obtain ⟨h1, h2⟩ := numO_atoi (dig_num (h v (by simp))).1
    obtain ⟨i1, i2⟩ := ih fun x hx => h x (by simp [hx])
    refine ⟨?_, ?_⟩
    · rw [List.map_cons, allN, h1, i1]; rfl
    · rw [List.map_cons, List.map_cons, h2, i2]
theorem right_le {n : Int} {L : List (List Int)} (h : hRight n L = true) : (1 ≤ n ∧ n ≤ 4) ∧ ∀ l ∈ L, l ≠ [] ∧ ∀ v ∈ l, 0 ≤ v ∧ v ≤ 64 := by
  obtain ⟨⟨h1, h2, h3⟩, h4⟩ := hRight_iff.1 h
  refine ⟨⟨h1, h2⟩, fun l hl => ⟨fun e => ?_, fun v hv => ?_⟩⟩
  · have := (h4 l hl).1; rw [e] at this; simp at this; omega
  · have := (h4 l hl).2 v hv; omega
theorem hP_txt {n : Int} {L : List (List Int)} (h : hRight n L = true) : hP (hTxt n L) = true ∧ hNum (hTxt n L) = n ∧ hObjs (hTxt n L) = L := by
  obtain ⟨⟨h1, h2⟩, h3⟩ := right_le h
  have e : hTxt n L = ⟨(hCat n L).toArray⟩ := if_pos h
  have es : spl 124 (hTxt n L).data.toList = (dig n).data.toList :: L.map hRow := by
    rw [e]; exact hCat_spl ⟨by omega, by omega⟩ fun l hl => (h3 l hl).2
  have hn := numO_atoi (dig_num (o := n) ⟨by omega, by omega⟩).1
  have e1 : hNum (hTxt n L) = n := by unfold hNum; rw [es]; exact hn.2
  have e2 : hObjs (hTxt n L) = L := by
    unfold hObjs
    rw [es, List.tail_cons, List.map_map]
    have : ∀ l ∈ L, (rowN ∘ hRow) l = l := fun l hl => by
      show rowN (hRow l) = l
      unfold rowN
      rw [hRow_spl (h3 l hl).1 (h3 l hl).2]
      exact (allN_map (h3 l hl).2).2
    rw [List.map_congr_left this, List.map_id']
  refine ⟨?_, e1, e2⟩
  unfold hP
  rw [e1, e2, es, Bool.and_eq_true]
  refine ⟨?_, decide_eq_true rfl⟩
  show (isNum (dig n).data.toList && (L.map hRow).all fun p => allN (spl 44 p)) = true
  rw [hn.1, Bool.true_and, List.all_eq_true]
  intro p hp
  obtain ⟨l, hl, rfl⟩ := List.mem_map.1 hp
  rw [hRow_spl (h3 l hl).1 (h3 l hl).2]
  exact (allN_map (h3 l hl).2).1
theorem hP_right {t : ByteArray} (h : hP t = true) : hRight (hNum t) (hObjs t) = true ∧ hTxt (hNum t) (hObjs t) = t := by
  unfold hP at h
  rw [Bool.and_eq_true, decide_eq_true_eq] at h
  refine ⟨?_, h.2⟩
  cases hr : hRight (hNum t) (hObjs t)
  · exfalso
    have h2 := h.2
    unfold hTxt at h2
    rw [if_neg (by rw [hr]; decide)] at h2
    rw [← h2] at h
    revert h
    decide +kernel
  · rfl
theorem hP_iff {t : ByteArray} {n : Int} {L : List (List Int)} (hr : hRight n L = true) (h : hTxt n L = t) : hP t = true ∧ hNum t = n ∧ hObjs t = L := by
  subst h; exact hP_txt hr
theorem hTxt_inj {n m : Int} {L K : List (List Int)} (h1 : hRight n L = true) (h2 : hRight m K = true) (h : hTxt n L = hTxt m K) : n = m ∧ L = K := by
  obtain ⟨_, a, b⟩ := hP_txt h1
  obtain ⟨_, c, d⟩ := hP_txt h2
  rw [h] at a b
  exact ⟨a.symm.trans c, b.symm.trans d⟩
end Go.Nx
end
section
set_option linter.unusedVariables false
set_option linter.unusedSimpArgs false
set_option maxRecDepth 20000
set_option maxHeartbeats 4000000
namespace Go.Nx
open Go Go.RowKit Go.Proofs

def Sm (xs : List T) : Prop := xs.length ≤ 1048576
def eqNs (a b : List Int) : Bool := decide (a = b)
theorem eqNs_no {a b : List Int} {k : Nat} (h1 : k < a.length) (h2 : k < b.length) (h : at0 a (k : Int) ≠ at0 b (k : Int)) : eqNs a b = false := by
  unfold eqNs
  rw [decide_eq_false_iff_not]
  intro e; subst e; exact h rfl
theorem take_nextI {a b : List Int} {k : Nat} (h : a.take k = b.take k) (h1 : k < a.length) (h2 : k < b.length) (e : at0 a (k : Int) = at0 b (k : Int)) : a.take (k + 1) = b.take (k + 1) := by
  have e1 : a[k]? = some (at0 a (k : Int)) := by simp [at0, h1]
  have e2 : b[k]? = some (at0 b (k : Int)) := by simp [at0, h2]
  rw [List.take_add_one, List.take_add_one, h, e1, e2, e]
noncomputable def lH3 : List (Nat × (List T → Ans)) := lH0
noncomputable def iH3 : List (Nat × Pt) := iH0
noncomputable abbrev H3 : Env := En tgl lH3 iH3
theorem env_H3 : EnvOk Tryd.prog H3 := env_H0
theorem ok63 (xs ys : List T) (hq : (IsI xs ∧ Sm xs) ∧ (IsI ys ∧ Sm ys)) : FnOk Tryd.prog tgl 63 [.list 1 xs, .list 1 ys] (.bool (eqNs (nums xs) (nums ys))) := by
  refine fn_ok (Γ := H3) env_H3 Tryd.func63 low63 ?_
  obtain ⟨⟨⟨l, rfl, hl⟩, hs⟩, ⟨r, rfl, hr⟩, hs2⟩ := hq
  unfold Sm at hs hs2
  rw [is_len] at hs hs2
  rw [nums_is, nums_is]
  conv => whnf
  repeat' (first
    | (refine brK_true rfl ?_; conv => whnf)
    | (refine brK_false rfl ?_; conv => whnf)
    | (refine brK_true (by assumption) ?_; conv => whnf)
    | (refine brK_false (by assumption) ?_; conv => whnf)
    | (refine brK_true ?_ ?_; (focus (simp only [List.length_nil, fx] <;> omega)); conv => whnf)
    | (refine brK_false ?_ ?_; (focus (simp only [List.length_nil, fx] <;> omega)); conv => whnf)
    | ((refine brK_of (fun h => ?_) (fun h => ?_)) <;> (have h2 := h; (try simp only [List.length_nil, fx] at h2); conv => whnf))
    | (refine reqK_of ?_ ?_; (focus (first | decide | omega | assumption | (simp only [List.length_nil, fx] <;> omega) | (simp [keyNew, sameKey, kEq] <;> omega))); conv => whnf)
    | (refine reqK_of ?_ ?_; rotate_left; (conv => whnf); rotate_left)
    | (refine nth_us ?_ ?_ ?_; (focus (first | omega | (simp only [List.length_nil, fx] <;> omega))); (focus (first | omega | (simp only [List.length_nil, fx] <;> omega))); conv => whnf)
    | (refine nth_is ?_ ?_ ?_; (focus (first | omega | (simp only [List.length_nil, fx] <;> omega))); (focus (first | omega | (simp only [List.length_nil, fx] <;> omega))); conv => whnf)
    | (refine nth_bs ?_ ?_ ?_; (focus (first | omega | (simp only [List.length_nil, fx] <;> omega))); (focus (first | omega | (simp only [List.length_nil, fx] <;> omega))); conv => whnf))
  · rw [show eqNs l r = false by unfold eqNs; rw [decide_eq_false_iff_not]; intro e; subst e; exact h2 rfl]
  · have hlr : l.length = r.length := by omega
    refine loopSet [] [.kill 5, .kill 14, .kill 15, .kill 16, .kill 17, .kill 18, .kill 19, .kill 20, .kill 21, .kill 22, .kill 23, .kill 24, .kill 25] (fun k : Nat => [(13, .t (.int .i64 (k : Int)))]) (fun _ => []) (fun k => k ≤ l.length ∧ l.take k = r.take k) (fun k => l.length - k) 0 ⟨Nat.zero_le _, rfl⟩ ?_
    conv => whnf
    refine ⟨⟨rfl, rfl⟩, fun k hk C hC => ?_⟩
    obtain ⟨hk1, hk2⟩ := hk
    conv => whnf
    repeat' (first
      | (refine brK_true rfl ?_; conv => whnf)
      | (refine brK_false rfl ?_; conv => whnf)
      | (refine brK_true (by assumption) ?_; conv => whnf)
      | (refine brK_false (by assumption) ?_; conv => whnf)
      | (refine brK_true ?_ ?_; (focus (simp only [List.length_nil, fx] <;> omega)); conv => whnf)
      | (refine brK_false ?_ ?_; (focus (simp only [List.length_nil, fx] <;> omega)); conv => whnf)
      | ((refine brK_of (fun h => ?_) (fun h => ?_)) <;> (have h2 := h; (try simp only [List.length_nil, fx] at h2); conv => whnf))
      | (refine reqK_of ?_ ?_; (focus (first | decide | omega | assumption | (simp only [List.length_nil, fx] <;> omega) | (simp [keyNew, sameKey, kEq] <;> omega))); conv => whnf)
      | (refine reqK_of ?_ ?_; rotate_left; (conv => whnf); rotate_left)
      | (refine nth_us ?_ ?_ ?_; (focus (first | omega | (simp only [List.length_nil, fx] <;> omega))); (focus (first | omega | (simp only [List.length_nil, fx] <;> omega))); conv => whnf)
      | (refine nth_is ?_ ?_ ?_; (focus (first | omega | (simp only [List.length_nil, fx] <;> omega))); (focus (first | omega | (simp only [List.length_nil, fx] <;> omega))); conv => whnf)
      | (refine nth_bs ?_ ?_ ?_; (focus (first | omega | (simp only [List.length_nil, fx] <;> omega))); (focus (first | omega | (simp only [List.length_nil, fx] <;> omega))); conv => whnf))
    · rw [eqNs_no (k := k) (by omega) (by omega) (by assumption)]
    · refine loopC (hC (k + 1) ⟨by omega, take_nextI hk2 (by omega) (by omega) (by assumption)⟩ (by omega)) ?_
      have hw : IntKind.i64.wrap ((k : Int) + 1) = (k : Int) + 1 := wrap_i64 ⟨by omega, by omega⟩
      rw [hw]; rfl
    · have hk3 : k = l.length := by omega
      subst hk3
      have : l = r := by rw [← List.take_length (l := l), hk2, hlr, List.take_length]
      subst this
      rw [show eqNs l l = true by simp [eqNs]]
open Classical in
noncomputable def c63 : List T → Ans
  | [.list 1 xs, .list 1 ys] => .req ((IsI xs ∧ Sm xs) ∧ (IsI ys ∧ Sm ys)) (.bool (eqNs (nums xs) (nums ys)))
  | _ => .no
theorem got63 {vs : List T} {x : T} (h : Got (c63 vs) x) : FnOk Tryd.prog tgl 63 vs x := by
  unfold c63 at h
  split at h
  · obtain ⟨hq, e⟩ := got_req h; rw [e]; exact ok63 _ _ hq
  · exact (got_no h).elim
theorem nogl63 (vs : List T) (p : Prop) (d : Decidable p) (sz : Nat) (xs : List T) (h : c63 vs = @Ans.gl p d sz xs) : False := by
  unfold c63 at h
  split at h <;> cases h
theorem pk63 (vs : List T) (p : Prop) (d : Decidable p) (x : T) (h : c63 vs = @Ans.pk p d x) (hp : p) : FnOk Tryd.prog tgl 63 vs x := by
  unfold c63 at h
  split at h
  · cases h
  · cases h
def IsH (xs : List T) : Prop := ∃ L, xs = rs L ∧ L.length ≤ 1048576 ∧ ∀ l ∈ L, l.length ≤ 1048576 ∧ ∀ n ∈ l, I64 n
theorem row_at {L : List (List Int)} {k : Nat} (h : k < L.length) : row L ((k : Int) + 1) = L[k] := by
  unfold row
  rw [show ((k : Int) + 1 - 1).toNat = k by omega, List.getElem?_eq_getElem h]; rfl
theorem IsH.row {L : List (List Int)} (hL : ∀ l ∈ L, l.length ≤ 1048576 ∧ ∀ n ∈ l, I64 n) {k : Nat} (h : k < L.length) : (IsI (is (row L ((k : Int) + 1))) ∧ Sm (is (row L ((k : Int) + 1)))) := by
  rw [row_at h]
  obtain ⟨h1, h2⟩ := hL _ (List.getElem_mem h)
  exact ⟨isI_is h2, by unfold Sm; rw [is_len]; exact h1⟩
def eqLs (a b : List (List Int)) : Bool := decide (a = b)
theorem take_nextL {a b : List (List Int)} {k : Nat} (h : a.take k = b.take k) (h1 : k < a.length) (h2 : k < b.length) (e : row a ((k : Int) + 1) = row b ((k : Int) + 1)) : a.take (k + 1) = b.take (k + 1) := by
  rw [row_at h1, row_at h2] at e
  rw [List.take_add_one, List.take_add_one, h, List.getElem?_eq_getElem h1, List.getElem?_eq_getElem h2, e]
noncomputable def lH4 : List (Nat × (List T → Ans)) := (63, c63) :: lH3
noncomputable def iH4 : List (Nat × Pt) := iH3
noncomputable abbrev H4 : Env := En tgl lH4 iH4
theorem env_H4 : EnvOk Tryd.prog H4 := (env_fn env_H3 (fun _ _ => got63) (fun vs p d sz xs h _ => (nogl63 vs p d sz xs h).elim) pk63)
theorem ok62 (xs ys : List T) (f : Fn) (p q : List T) (hq : (IsH xs ∧ IsH ys) ∧ f = .func 63 ∧ p = [] ∧ q = []) : FnOk Tryd.prog tgl 62 [.list 1 xs, .list 1 ys, .fn f p q] (.bool (eqLs (rowsOf xs) (rowsOf ys))) := by
  refine fn_ok (Γ := H4) env_H4 Tryd.func62 low62 ?_
  obtain ⟨⟨⟨A, rfl, ha, hA⟩, B, rfl, hb, hB⟩, rfl, rfl, rfl⟩ := hq
  rw [rowsOf_rs, rowsOf_rs]
  conv => whnf
  repeat' (first
    | (refine brK_true rfl ?_; conv => whnf)
    | (refine brK_false rfl ?_; conv => whnf)
    | (refine brK_true (by assumption) ?_; conv => whnf)
    | (refine brK_false (by assumption) ?_; conv => whnf)
    | (refine brK_true ?_ ?_; (focus (simp only [List.length_nil, fx, rs_len] <;> omega)); conv => whnf)
    | (refine brK_false ?_ ?_; (focus (simp only [List.length_nil, fx, rs_len] <;> omega)); conv => whnf)
    | ((refine brK_of (fun h => ?_) (fun h => ?_)) <;> (have h2 := h; (try simp only [List.length_nil, fx, rs_len] at h2); conv => whnf))
    | (refine reqK_of ?_ ?_; (focus (first | decide | omega | assumption | (simp only [List.length_nil, fx, rs_len] <;> omega) | (simp [keyNew, sameKey, kEq] <;> omega))); conv => whnf)
    | (refine reqK_of ?_ ?_; rotate_left; (conv => whnf); rotate_left)
    | (refine nth_us ?_ ?_ ?_; (focus (first | omega | (simp only [List.length_nil, fx, rs_len] <;> omega))); (focus (first | omega | (simp only [List.length_nil, fx, rs_len] <;> omega))); conv => whnf)
    | (refine nth_is ?_ ?_ ?_; (focus (first | omega | (simp only [List.length_nil, fx, rs_len] <;> omega))); (focus (first | omega | (simp only [List.length_nil, fx, rs_len] <;> omega))); conv => whnf)
    | (refine nth_bs ?_ ?_ ?_; (focus (first | omega | (simp only [List.length_nil, fx, rs_len] <;> omega))); (focus (first | omega | (simp only [List.length_nil, fx, rs_len] <;> omega))); conv => whnf))
  · rw [show eqLs A B = false by unfold eqLs; rw [decide_eq_false_iff_not]; intro e; subst e; exact h2 rfl]
  · have hlr : A.length = B.length := by omega
    refine loopSet [] [.kill 7, .kill 8, .kill 9, .kill 18, .kill 19, .kill 20, .kill 21, .kill 22, .kill 23, .kill 24, .kill 25, .kill 26, .kill 27, .kill 28, .kill 29, .kill 30, .kill 31] (fun k : Nat => [(17, .t (.int .i64 (k : Int)))]) (fun _ => []) (fun k => k ≤ A.length ∧ A.take k = B.take k) (fun k => A.length - k) 0 ⟨Nat.zero_le _, rfl⟩ ?_
    conv => whnf
    refine ⟨⟨rfl, rfl⟩, fun k hk C hC => ?_⟩
    obtain ⟨hk1, hk2⟩ := hk
    conv => whnf
    repeat' (first
      | (refine brK_true rfl ?_; conv => whnf)
      | (refine brK_false rfl ?_; conv => whnf)
      | (refine brK_true (by assumption) ?_; conv => whnf)
      | (refine brK_false (by assumption) ?_; conv => whnf)
      | (refine brK_true ?_ ?_; (focus (simp only [List.length_nil, fx, rs_len] <;> omega)); conv => whnf)
      | (refine brK_false ?_ ?_; (focus (simp only [List.length_nil, fx, rs_len] <;> omega)); conv => whnf)
      | ((refine brK_of (fun h => ?_) (fun h => ?_)) <;> (have h2 := h; (try simp only [List.length_nil, fx, rs_len] at h2); conv => whnf))
      | (refine reqK_of ?_ ?_; (focus (first | decide | omega | assumption | (simp only [List.length_nil, fx, rs_len] <;> omega) | (simp [keyNew, sameKey, kEq] <;> omega))); conv => whnf)
      | (refine reqK_of ?_ ?_; rotate_left; (conv => whnf); rotate_left)
      | (refine nth_rs ?_ ?_ ?_; (focus (first | omega | (simp only [List.length_nil, fx, rs_len] <;> omega))); (focus (first | omega | (simp only [List.length_nil, fx, rs_len] <;> omega))); conv => whnf)
      | (refine nth_us ?_ ?_ ?_; (focus (first | omega | (simp only [List.length_nil, fx, rs_len] <;> omega))); (focus (first | omega | (simp only [List.length_nil, fx, rs_len] <;> omega))); conv => whnf)
      | (refine nth_is ?_ ?_ ?_; (focus (first | omega | (simp only [List.length_nil, fx, rs_len] <;> omega))); (focus (first | omega | (simp only [List.length_nil, fx, rs_len] <;> omega))); conv => whnf)
      | (refine nth_bs ?_ ?_ ?_; (focus (first | omega | (simp only [List.length_nil, fx, rs_len] <;> omega))); (focus (first | omega | (simp only [List.length_nil, fx, rs_len] <;> omega))); conv => whnf))
    · exact ⟨IsH.row hA (by omega), IsH.row hB (by omega)⟩
    · rw [nums_is, nums_is] at h2
      have hne : row A ((k : Int) + 1) ≠ row B ((k : Int) + 1) := fun e => by unfold eqNs at h2; rw [e] at h2; simp at h2
      rw [show eqLs A B = false by unfold eqLs; rw [decide_eq_false_iff_not]; intro e; subst e; exact hne rfl]
    · rw [nums_is, nums_is] at h2
      have he : row A ((k : Int) + 1) = row B ((k : Int) + 1) := by unfold eqNs at h2; simpa using h2
      refine loopC (hC (k + 1) ⟨by omega, take_nextL hk2 (by omega) (by omega) he⟩ (by omega)) ?_
      have hw : IntKind.i64.wrap ((k : Int) + 1) = (k : Int) + 1 := wrap_i64 ⟨by omega, by omega⟩
      rw [hw]; rfl
    · have hk3 : k = A.length := by omega
      subst hk3
      have : A = B := by rw [← List.take_length (l := A), hk2, hlr, List.take_length]
      subst this
      rw [show eqLs A A = true by simp [eqLs]]
open Classical in
noncomputable def c62 : List T → Ans
  | [.list 1 xs, .list 1 ys, .fn f p q] => .req ((IsH xs ∧ IsH ys) ∧ f = .func 63 ∧ p = [] ∧ q = []) (.bool (eqLs (rowsOf xs) (rowsOf ys)))
  | _ => .no
theorem got62 {vs : List T} {x : T} (h : Got (c62 vs) x) : FnOk Tryd.prog tgl 62 vs x := by
  unfold c62 at h
  split at h
  · obtain ⟨hq, e⟩ := got_req h; rw [e]; exact ok62 _ _ _ _ _ hq
  · exact (got_no h).elim
theorem nogl62 (vs : List T) (p : Prop) (d : Decidable p) (sz : Nat) (xs : List T) (h : c62 vs = @Ans.gl p d sz xs) : False := by
  unfold c62 at h
  split at h <;> cases h
theorem pk62 (vs : List T) (p : Prop) (d : Decidable p) (x : T) (h : c62 vs = @Ans.pk p d x) (hp : p) : FnOk Tryd.prog tgl 62 vs x := by
  unfold c62 at h
  split at h
  · cases h
  · cases h
noncomputable def lH5 : List (Nat × (List T → Ans)) := (62, c62) :: lH4
noncomputable def iH5 : List (Nat × Pt) := iH4
noncomputable abbrev H5 : Env := En tgl lH5 iH5
theorem env_H5 : EnvOk Tryd.prog H5 := (env_fn env_H4 (fun _ _ => got62) (fun vs p d sz xs h _ => (nogl62 vs p d sz xs h).elim) pk62)
theorem nil_rs : (([] : List T)) = rs [] := rfl
theorem isH_nil : IsH [] := ⟨[], rfl, Nat.zero_le _, fun l h => by cases h⟩
def hSame (n m : Int) (A B : List (List Int)) : Bool := decide (n = m) && eqLs A B
theorem hSame_ne {n m : Int} (h : n ≠ m) (A B : List (List Int)) : hSame n m A B = false := by unfold hSame; rw [decide_eq_false h]; rfl
theorem hSame_eq (n : Int) (A B : List (List Int)) : hSame n n A B = eqLs A B := by unfold hSame; rw [decide_eq_true rfl, Bool.true_and]
theorem ok27 (n m : Int) (xs ys : List T) (hq : IsH xs ∧ IsH ys) : FnOk Tryd.prog tgl 27 [.agg [.int .i64 n, .list 1 xs], .agg [.int .i64 m, .list 1 ys]] (.bool (hSame n m (rowsOf xs) (rowsOf ys))) := by
  refine fn_ok (Γ := H5) env_H5 Tryd.func27 low27 ?_
  conv => whnf
  repeat' (first
    | (refine brK_true rfl ?_; conv => whnf)
    | (refine brK_false rfl ?_; conv => whnf)
    | (refine brK_true (by assumption) ?_; conv => whnf)
    | (refine brK_false (by assumption) ?_; conv => whnf)
    | (refine brK_true ?_ ?_; (focus (simp only [List.length_nil, fx] <;> omega)); conv => whnf)
    | (refine brK_false ?_ ?_; (focus (simp only [List.length_nil, fx] <;> omega)); conv => whnf)
    | ((refine brK_of (fun h => ?_) (fun h => ?_)) <;> (have h2 := h; (try simp only [List.length_nil, fx] at h2); conv => whnf))
    | (refine reqK_of ?_ ?_; (focus (first | decide | omega | assumption | (simp only [List.length_nil, fx] <;> omega) | (simp [keyNew, sameKey, kEq] <;> omega))); conv => whnf)
    | (refine reqK_of ?_ ?_; rotate_left; (conv => whnf); rotate_left)
    | (refine nth_us ?_ ?_ ?_; (focus (first | omega | (simp only [List.length_nil, fx] <;> omega))); (focus (first | omega | (simp only [List.length_nil, fx] <;> omega))); conv => whnf)
    | (refine nth_is ?_ ?_ ?_; (focus (first | omega | (simp only [List.length_nil, fx] <;> omega))); (focus (first | omega | (simp only [List.length_nil, fx] <;> omega))); conv => whnf)
    | (refine nth_bs ?_ ?_ ?_; (focus (first | omega | (simp only [List.length_nil, fx] <;> omega))); (focus (first | omega | (simp only [List.length_nil, fx] <;> omega))); conv => whnf))
  · subst h2; rw [hSame_eq]
  · rw [hSame_ne h2]
open Classical in
noncomputable def c27 : List T → Ans
  | [.agg [.int .i64 n, .list 1 xs], .agg [.int .i64 m, .list 1 ys]] => .req (IsH xs ∧ IsH ys) (.bool (hSame n m (rowsOf xs) (rowsOf ys)))
  | _ => .no
theorem got27 {vs : List T} {x : T} (h : Got (c27 vs) x) : FnOk Tryd.prog tgl 27 vs x := by
  unfold c27 at h
  split at h
  · obtain ⟨hq, e⟩ := got_req h; rw [e]; exact ok27 _ _ _ _ hq
  · exact (got_no h).elim
theorem nogl27 (vs : List T) (p : Prop) (d : Decidable p) (sz : Nat) (xs : List T) (h : c27 vs = @Ans.gl p d sz xs) : False := by
  unfold c27 at h
  split at h <;> cases h
theorem pk27 (vs : List T) (p : Prop) (d : Decidable p) (x : T) (h : c27 vs = @Ans.pk p d x) (hp : p) : FnOk Tryd.prog tgl 27 vs x := by
  unfold c27 at h
  split at h
  · cases h
  · cases h
def hThere (L : List (List Int)) (o s : Int) : Bool := decide (1 ≤ o) && (decide (o ≤ L.length) && (decide (0 ≤ s) && decide (s < (row L o).length)))
theorem hThere_iff {L : List (List Int)} {o s : Int} : hThere L o s = true ↔ 1 ≤ o ∧ o ≤ L.length ∧ 0 ≤ s ∧ s < (row L o).length := by
  unfold hThere; simp only [Bool.and_eq_true, decide_eq_true_eq]
theorem hThere_f {L : List (List Int)} {o s : Int} (h : ¬ (1 ≤ o ∧ o ≤ L.length ∧ 0 ≤ s ∧ s < (row L o).length)) : hThere L o s = false := by
  rw [← Bool.not_eq_true, hThere_iff]; exact h
theorem ok40 (n o s : Int) (xs : List T) (hq : IsH xs ∧ I64 o ∧ I64 s) : FnOk Tryd.prog tgl 40 [.agg [.int .i64 n, .list 1 xs], .int .i64 o, .int .i64 s] (.bool (hThere (rowsOf xs) o s)) := by
  refine fn_ok (Γ := H5) env_H5 Tryd.func40 low40 ?_
  obtain ⟨⟨L, rfl, hl, hL⟩, ho, hs⟩ := hq
  unfold I64 at ho hs
  rw [rowsOf_rs]
  have hw : 1 ≤ o → IntKind.i64.wrap (o - 1) = o - 1 := fun h => wrap_i64 ⟨by omega, by omega⟩
  conv => whnf
  repeat' (first
    | (refine brK_true rfl ?_; conv => whnf)
    | (refine brK_false rfl ?_; conv => whnf)
    | (refine brK_true (by assumption) ?_; conv => whnf)
    | (refine brK_false (by assumption) ?_; conv => whnf)
    | (refine brK_true ?_ ?_; (focus (simp only [List.length_nil, fx, rs_len] <;> omega)); conv => whnf)
    | (refine brK_false ?_ ?_; (focus (simp only [List.length_nil, fx, rs_len] <;> omega)); conv => whnf)
    | ((refine brK_of (fun h => ?_) (fun h => ?_)) <;> (have h2 := h; (try simp only [List.length_nil, fx, rs_len] at h2); conv => whnf))
    | (refine reqK_of ?_ ?_; (focus (first | decide | omega | assumption | (simp only [List.length_nil, fx, rs_len] <;> omega) | (simp [keyNew, sameKey, kEq] <;> omega))); conv => whnf)
    | (refine reqK_of ?_ ?_; rotate_left; (conv => whnf); rotate_left)
    | (refine nth_rs ?_ ?_ ?_; (focus (first | omega | (simp only [List.length_nil, fx, rs_len] <;> omega))); (focus (first | omega | (simp only [List.length_nil, fx, rs_len] <;> omega))); conv => whnf)
    | (refine nth_us ?_ ?_ ?_; (focus (first | omega | (simp only [List.length_nil, fx, rs_len] <;> omega))); (focus (first | omega | (simp only [List.length_nil, fx, rs_len] <;> omega))); conv => whnf)
    | (refine nth_is ?_ ?_ ?_; (focus (first | omega | (simp only [List.length_nil, fx, rs_len] <;> omega))); (focus (first | omega | (simp only [List.length_nil, fx, rs_len] <;> omega))); conv => whnf)
    | (refine nth_bs ?_ ?_ ?_; (focus (first | omega | (simp only [List.length_nil, fx, rs_len] <;> omega))); (focus (first | omega | (simp only [List.length_nil, fx, rs_len] <;> omega))); conv => whnf))
  · have e : IntKind.i64.wrap (o - 1) + 1 = o := by rw [hw (by omega)]; omega
    rw [e, is_len]
    by_cases h5 : s < (row L o).length
    · rw [hThere_iff.2 ⟨by omega, by omega, by omega, h5⟩, ltI_def, decide_eq_true h5]
    · rw [hThere_f (fun h => h5 h.2.2.2), ltI_def, decide_eq_false h5]
  · rw [hThere_f fun h => absurd h.2.2.1 (by omega)]
  · rw [hThere_f fun h => absurd h.2.1 (by omega)]
  · rw [hThere_f fun h => absurd h.1 (by omega)]
open Classical in
noncomputable def c40 : List T → Ans
  | [.agg [.int .i64 n, .list 1 xs], .int .i64 o, .int .i64 s] => .req (IsH xs ∧ I64 o ∧ I64 s) (.bool (hThere (rowsOf xs) o s))
  | _ => .no
theorem got40 {vs : List T} {x : T} (h : Got (c40 vs) x) : FnOk Tryd.prog tgl 40 vs x := by
  unfold c40 at h
  split at h
  · obtain ⟨hq, e⟩ := got_req h; rw [e]; exact ok40 _ _ _ _ hq
  · exact (got_no h).elim
theorem nogl40 (vs : List T) (p : Prop) (d : Decidable p) (sz : Nat) (xs : List T) (h : c40 vs = @Ans.gl p d sz xs) : False := by
  unfold c40 at h
  split at h <;> cases h
theorem pk40 (vs : List T) (p : Prop) (d : Decidable p) (x : T) (h : c40 vs = @Ans.pk p d x) (hp : p) : FnOk Tryd.prog tgl 40 vs x := by
  unfold c40 at h
  split at h
  · cases h
  · cases h
theorem ok54 (n o s : Int) (xs : List T) (hq : IsH xs ∧ I64 o ∧ I64 s) : FnOk Tryd.prog tgl 54 [.agg [.int .i64 n, .list 1 xs], .int .i64 o, .int .i64 s] (.bool (hThere (rowsOf xs) o s)) := by
  refine fn_ok (Γ := H5) env_H5 Tryd.func54 low54 ?_
  obtain ⟨⟨L, rfl, hl, hL⟩, ho, hs⟩ := hq
  unfold I64 at ho hs
  rw [rowsOf_rs]
  have hw : 1 ≤ o → IntKind.i64.wrap (o - 1) = o - 1 := fun h => wrap_i64 ⟨by omega, by omega⟩
  conv => whnf
  repeat' (first
    | (refine brK_true rfl ?_; conv => whnf)
    | (refine brK_false rfl ?_; conv => whnf)
    | (refine brK_true (by assumption) ?_; conv => whnf)
    | (refine brK_false (by assumption) ?_; conv => whnf)
    | (refine brK_true ?_ ?_; (focus (simp only [List.length_nil, fx, rs_len] <;> omega)); conv => whnf)
    | (refine brK_false ?_ ?_; (focus (simp only [List.length_nil, fx, rs_len] <;> omega)); conv => whnf)
    | ((refine brK_of (fun h => ?_) (fun h => ?_)) <;> (have h2 := h; (try simp only [List.length_nil, fx, rs_len] at h2); conv => whnf))
    | (refine reqK_of ?_ ?_; (focus (first | decide | omega | assumption | (simp only [List.length_nil, fx, rs_len] <;> omega) | (simp [keyNew, sameKey, kEq] <;> omega))); conv => whnf)
    | (refine reqK_of ?_ ?_; rotate_left; (conv => whnf); rotate_left)
    | (refine nth_rs ?_ ?_ ?_; (focus (first | omega | (simp only [List.length_nil, fx, rs_len] <;> omega))); (focus (first | omega | (simp only [List.length_nil, fx, rs_len] <;> omega))); conv => whnf)
    | (refine nth_us ?_ ?_ ?_; (focus (first | omega | (simp only [List.length_nil, fx, rs_len] <;> omega))); (focus (first | omega | (simp only [List.length_nil, fx, rs_len] <;> omega))); conv => whnf)
    | (refine nth_is ?_ ?_ ?_; (focus (first | omega | (simp only [List.length_nil, fx, rs_len] <;> omega))); (focus (first | omega | (simp only [List.length_nil, fx, rs_len] <;> omega))); conv => whnf)
    | (refine nth_bs ?_ ?_ ?_; (focus (first | omega | (simp only [List.length_nil, fx, rs_len] <;> omega))); (focus (first | omega | (simp only [List.length_nil, fx, rs_len] <;> omega))); conv => whnf))
  · have e : IntKind.i64.wrap (o - 1) + 1 = o := by rw [hw (by omega)]; omega
    rw [e, is_len]
    by_cases h5 : s < (row L o).length
    · rw [hThere_iff.2 ⟨by omega, by omega, by omega, h5⟩, ltI_def, decide_eq_true h5]
    · rw [hThere_f (fun h => h5 h.2.2.2), ltI_def, decide_eq_false h5]
  · rw [hThere_f fun h => absurd h.2.2.1 (by omega)]
  · rw [hThere_f fun h => absurd h.2.1 (by omega)]
  · rw [hThere_f fun h => absurd h.1 (by omega)]
open Classical in
noncomputable def c54 : List T → Ans
  | [.agg [.int .i64 n, .list 1 xs], .int .i64 o, .int .i64 s] => .req (IsH xs ∧ I64 o ∧ I64 s) (.bool (hThere (rowsOf xs) o s))
  | _ => .no
theorem got54 {vs : List T} {x : T} (h : Got (c54 vs) x) : FnOk Tryd.prog tgl 54 vs x := by
  unfold c54 at h
  split at h
  · obtain ⟨hq, e⟩ := got_req h; rw [e]; exact ok54 _ _ _ _ hq
  · exact (got_no h).elim
theorem nogl54 (vs : List T) (p : Prop) (d : Decidable p) (sz : Nat) (xs : List T) (h : c54 vs = @Ans.gl p d sz xs) : False := by
  unfold c54 at h
  split at h <;> cases h
theorem pk54 (vs : List T) (p : Prop) (d : Decidable p) (x : T) (h : c54 vs = @Ans.pk p d x) (hp : p) : FnOk Tryd.prog tgl 54 vs x := by
  unfold c54 at h
  split at h
  · cases h
  · cases h
noncomputable def lH6 : List (Nat × (List T → Ans)) := (27, c27) :: (40, c40) :: (54, c54) :: lH5
noncomputable def iH6 : List (Nat × Pt) := iH5
noncomputable abbrev H6 : Env := En tgl lH6 iH6
theorem env_H6 : EnvOk Tryd.prog H6 := (env_fn (env_fn (env_fn env_H5 (fun _ _ => got54) (fun vs p d sz xs h _ => (nogl54 vs p d sz xs h).elim) pk54) (fun _ _ => got40) (fun vs p d sz xs h _ => (nogl40 vs p d sz xs h).elim) pk40) (fun _ _ => got27) (fun vs p d sz xs h _ => (nogl27 vs p d sz xs h).elim) pk27)
def hGet (L : List (List Int)) (o s : Int) : Int := if hThere L o s then at0 (row L o) s else 0
theorem ok9 (n o s : Int) (xs : List T) (hq : IsH xs ∧ I64 o ∧ I64 s) : FnOk Tryd.prog tgl 9 [.agg [.int .i64 n, .list 1 xs], .int .i64 o, .int .i64 s] (.tup [.int .i64 (hGet (rowsOf xs) o s), .bool (hThere (rowsOf xs) o s)]) := by
  refine fn_ok (Γ := H6) env_H6 Tryd.func9 low9 ?_
  obtain ⟨⟨L, rfl, hl, hL⟩, ho, hs⟩ := hq
  have hq1 : IsH (rs L) ∧ I64 o ∧ I64 s := ⟨⟨L, rfl, hl, hL⟩, ho, hs⟩
  unfold I64 at ho hs
  unfold hGet
  have hT := hThere_iff (L := L) (o := o) (s := s)
  rw [rowsOf_rs]
  by_cases hh : hThere L o s = true
  · have ht := hT.1 hh
    have hw : IntKind.i64.wrap (o - 1) = o - 1 := wrap_i64 ⟨by omega, by omega⟩
    have e : IntKind.i64.wrap (o - 1) + 1 = o := by rw [hw]; omega
    conv => whnf
    repeat' (first
      | (refine brK_true rfl ?_; conv => whnf)
      | (refine brK_false rfl ?_; conv => whnf)
      | (refine brK_true (by assumption) ?_; conv => whnf)
      | (refine brK_false (by assumption) ?_; conv => whnf)
      | (refine brK_true ?_ ?_; (focus (simp only [List.length_nil, fx, rs_len, rowsOf_rs, e] <;> omega)); conv => whnf)
      | (refine brK_false ?_ ?_; (focus (simp only [List.length_nil, fx, rs_len, rowsOf_rs, e] <;> omega)); conv => whnf)
      | ((refine brK_of (fun h => ?_) (fun h => ?_)) <;> (have h2 := h; (try simp only [List.length_nil, fx, rs_len, rowsOf_rs, e] at h2); conv => whnf))
      | (refine reqK_of ?_ ?_; (focus (first | decide | omega | assumption | (simp only [List.length_nil, fx, rs_len, rowsOf_rs, e] <;> omega) | (simp [keyNew, sameKey, kEq] <;> omega))); conv => whnf)
      | (refine reqK_of ?_ ?_; rotate_left; (conv => whnf); rotate_left)
      | (refine nth_rs ?_ ?_ ?_; (focus (first | omega | (simp only [List.length_nil, fx, rs_len, rowsOf_rs, e] <;> omega))); (focus (first | omega | (simp only [List.length_nil, fx, rs_len, rowsOf_rs, e] <;> omega))); conv => whnf)
      | (refine nth_us ?_ ?_ ?_; (focus (first | omega | (simp only [List.length_nil, fx, rs_len, rowsOf_rs, e] <;> omega))); (focus (first | omega | (simp only [List.length_nil, fx, rs_len, rowsOf_rs, e] <;> omega))); conv => whnf)
      | (refine nth_is ?_ ?_ ?_; (focus (first | omega | (simp only [List.length_nil, fx, rs_len, rowsOf_rs, e] <;> omega))); (focus (first | omega | (simp only [List.length_nil, fx, rs_len, rowsOf_rs, e] <;> omega))); conv => whnf)
      | (refine nth_bs ?_ ?_ ?_; (focus (first | omega | (simp only [List.length_nil, fx, rs_len, rowsOf_rs, e] <;> omega))); (focus (first | omega | (simp only [List.length_nil, fx, rs_len, rowsOf_rs, e] <;> omega))); conv => whnf))
    rw [if_pos hh, hh, e]
  · have hf : hThere L o s = false := by simpa using hh
    conv => whnf
    repeat' (first
      | (refine brK_true rfl ?_; conv => whnf)
      | (refine brK_false rfl ?_; conv => whnf)
      | (refine brK_true (by assumption) ?_; conv => whnf)
      | (refine brK_false (by assumption) ?_; conv => whnf)
      | (refine brK_true ?_ ?_; (focus (simp only [List.length_nil, fx, rs_len, rowsOf_rs] <;> omega)); conv => whnf)
      | (refine brK_false ?_ ?_; (focus (simp only [List.length_nil, fx, rs_len, rowsOf_rs] <;> omega)); conv => whnf)
      | ((refine brK_of (fun h => ?_) (fun h => ?_)) <;> (have h2 := h; (try simp only [List.length_nil, fx, rs_len, rowsOf_rs] at h2); conv => whnf))
      | (refine reqK_of ?_ ?_; (focus (first | decide | omega | assumption | (simp only [List.length_nil, fx, rs_len, rowsOf_rs] <;> omega) | (simp [keyNew, sameKey, kEq] <;> omega))); conv => whnf)
      | (refine reqK_of ?_ ?_; rotate_left; (conv => whnf); rotate_left)
      | (refine nth_rs ?_ ?_ ?_; (focus (first | omega | (simp only [List.length_nil, fx, rs_len, rowsOf_rs] <;> omega))); (focus (first | omega | (simp only [List.length_nil, fx, rs_len, rowsOf_rs] <;> omega))); conv => whnf)
      | (refine nth_us ?_ ?_ ?_; (focus (first | omega | (simp only [List.length_nil, fx, rs_len, rowsOf_rs] <;> omega))); (focus (first | omega | (simp only [List.length_nil, fx, rs_len, rowsOf_rs] <;> omega))); conv => whnf)
      | (refine nth_is ?_ ?_ ?_; (focus (first | omega | (simp only [List.length_nil, fx, rs_len, rowsOf_rs] <;> omega))); (focus (first | omega | (simp only [List.length_nil, fx, rs_len, rowsOf_rs] <;> omega))); conv => whnf)
      | (refine nth_bs ?_ ?_ ?_; (focus (first | omega | (simp only [List.length_nil, fx, rs_len, rowsOf_rs] <;> omega))); (focus (first | omega | (simp only [List.length_nil, fx, rs_len, rowsOf_rs] <;> omega))); conv => whnf))
    rw [if_neg hh, hf]
open Classical in
noncomputable def c9 : List T → Ans
  | [.agg [.int .i64 n, .list 1 xs], .int .i64 o, .int .i64 s] => .req (IsH xs ∧ I64 o ∧ I64 s) (.tup [.int .i64 (hGet (rowsOf xs) o s), .bool (hThere (rowsOf xs) o s)])
  | _ => .no
theorem got9 {vs : List T} {x : T} (h : Got (c9 vs) x) : FnOk Tryd.prog tgl 9 vs x := by
  unfold c9 at h
  split at h
  · obtain ⟨hq, e⟩ := got_req h; rw [e]; exact ok9 _ _ _ _ hq
  · exact (got_no h).elim
theorem nogl9 (vs : List T) (p : Prop) (d : Decidable p) (sz : Nat) (xs : List T) (h : c9 vs = @Ans.gl p d sz xs) : False := by
  unfold c9 at h
  split at h <;> cases h
theorem pk9 (vs : List T) (p : Prop) (d : Decidable p) (x : T) (h : c9 vs = @Ans.pk p d x) (hp : p) : FnOk Tryd.prog tgl 9 vs x := by
  unfold c9 at h
  split at h
  · cases h
  · cases h
theorem ok19 (n o s : Int) (xs : List T) (hq : IsH xs ∧ I64 o ∧ I64 s) : FnOk Tryd.prog tgl 19 [.agg [.int .i64 n, .list 1 xs], .int .i64 o, .int .i64 s] (.tup [.int .i64 (hGet (rowsOf xs) o s), .bool (hThere (rowsOf xs) o s)]) := by
  refine fn_ok (Γ := H6) env_H6 Tryd.func19 low19 ?_
  obtain ⟨⟨L, rfl, hl, hL⟩, ho, hs⟩ := hq
  have hq1 : IsH (rs L) ∧ I64 o ∧ I64 s := ⟨⟨L, rfl, hl, hL⟩, ho, hs⟩
  unfold I64 at ho hs
  unfold hGet
  have hT := hThere_iff (L := L) (o := o) (s := s)
  rw [rowsOf_rs]
  by_cases hh : hThere L o s = true
  · have ht := hT.1 hh
    have hw : IntKind.i64.wrap (o - 1) = o - 1 := wrap_i64 ⟨by omega, by omega⟩
    have e : IntKind.i64.wrap (o - 1) + 1 = o := by rw [hw]; omega
    conv => whnf
    repeat' (first
      | (refine brK_true rfl ?_; conv => whnf)
      | (refine brK_false rfl ?_; conv => whnf)
      | (refine brK_true (by assumption) ?_; conv => whnf)
      | (refine brK_false (by assumption) ?_; conv => whnf)
      | (refine brK_true ?_ ?_; (focus (simp only [List.length_nil, fx, rs_len, rowsOf_rs, e] <;> omega)); conv => whnf)
      | (refine brK_false ?_ ?_; (focus (simp only [List.length_nil, fx, rs_len, rowsOf_rs, e] <;> omega)); conv => whnf)
      | ((refine brK_of (fun h => ?_) (fun h => ?_)) <;> (have h2 := h; (try simp only [List.length_nil, fx, rs_len, rowsOf_rs, e] at h2); conv => whnf))
      | (refine reqK_of ?_ ?_; (focus (first | decide | omega | assumption | (simp only [List.length_nil, fx, rs_len, rowsOf_rs, e] <;> omega) | (simp [keyNew, sameKey, kEq] <;> omega))); conv => whnf)
      | (refine reqK_of ?_ ?_; rotate_left; (conv => whnf); rotate_left)
      | (refine nth_rs ?_ ?_ ?_; (focus (first | omega | (simp only [List.length_nil, fx, rs_len, rowsOf_rs, e] <;> omega))); (focus (first | omega | (simp only [List.length_nil, fx, rs_len, rowsOf_rs, e] <;> omega))); conv => whnf)
      | (refine nth_us ?_ ?_ ?_; (focus (first | omega | (simp only [List.length_nil, fx, rs_len, rowsOf_rs, e] <;> omega))); (focus (first | omega | (simp only [List.length_nil, fx, rs_len, rowsOf_rs, e] <;> omega))); conv => whnf)
      | (refine nth_is ?_ ?_ ?_; (focus (first | omega | (simp only [List.length_nil, fx, rs_len, rowsOf_rs, e] <;> omega))); (focus (first | omega | (simp only [List.length_nil, fx, rs_len, rowsOf_rs, e] <;> omega))); conv => whnf)
      | (refine nth_bs ?_ ?_ ?_; (focus (first | omega | (simp only [List.length_nil, fx, rs_len, rowsOf_rs, e] <;> omega))); (focus (first | omega | (simp only [List.length_nil, fx, rs_len, rowsOf_rs, e] <;> omega))); conv => whnf))
    rw [if_pos hh, hh, e]
  · have hf : hThere L o s = false := by simpa using hh
    conv => whnf
    repeat' (first
      | (refine brK_true rfl ?_; conv => whnf)
      | (refine brK_false rfl ?_; conv => whnf)
      | (refine brK_true (by assumption) ?_; conv => whnf)
      | (refine brK_false (by assumption) ?_; conv => whnf)
      | (refine brK_true ?_ ?_; (focus (simp only [List.length_nil, fx, rs_len, rowsOf_rs] <;> omega)); conv => whnf)
      | (refine brK_false ?_ ?_; (focus (simp only [List.length_nil, fx, rs_len, rowsOf_rs] <;> omega)); conv => whnf)
      | ((refine brK_of (fun h => ?_) (fun h => ?_)) <;> (have h2 := h; (try simp only [List.length_nil, fx, rs_len, rowsOf_rs] at h2); conv => whnf))
      | (refine reqK_of ?_ ?_; (focus (first | decide | omega | assumption | (simp only [List.length_nil, fx, rs_len, rowsOf_rs] <;> omega) | (simp [keyNew, sameKey, kEq] <;> omega))); conv => whnf)
      | (refine reqK_of ?_ ?_; rotate_left; (conv => whnf); rotate_left)
      | (refine nth_rs ?_ ?_ ?_; (focus (first | omega | (simp only [List.length_nil, fx, rs_len, rowsOf_rs] <;> omega))); (focus (first | omega | (simp only [List.length_nil, fx, rs_len, rowsOf_rs] <;> omega))); conv => whnf)
      | (refine nth_us ?_ ?_ ?_; (focus (first | omega | (simp only [List.length_nil, fx, rs_len, rowsOf_rs] <;> omega))); (focus (first | omega | (simp only [List.length_nil, fx, rs_len, rowsOf_rs] <;> omega))); conv => whnf)
      | (refine nth_is ?_ ?_ ?_; (focus (first | omega | (simp only [List.length_nil, fx, rs_len, rowsOf_rs] <;> omega))); (focus (first | omega | (simp only [List.length_nil, fx, rs_len, rowsOf_rs] <;> omega))); conv => whnf)
      | (refine nth_bs ?_ ?_ ?_; (focus (first | omega | (simp only [List.length_nil, fx, rs_len, rowsOf_rs] <;> omega))); (focus (first | omega | (simp only [List.length_nil, fx, rs_len, rowsOf_rs] <;> omega))); conv => whnf))
    rw [if_neg hh, hf]
open Classical in
noncomputable def c19 : List T → Ans
  | [.agg [.int .i64 n, .list 1 xs], .int .i64 o, .int .i64 s] => .req (IsH xs ∧ I64 o ∧ I64 s) (.tup [.int .i64 (hGet (rowsOf xs) o s), .bool (hThere (rowsOf xs) o s)])
  | _ => .no
theorem got19 {vs : List T} {x : T} (h : Got (c19 vs) x) : FnOk Tryd.prog tgl 19 vs x := by
  unfold c19 at h
  split at h
  · obtain ⟨hq, e⟩ := got_req h; rw [e]; exact ok19 _ _ _ _ hq
  · exact (got_no h).elim
theorem nogl19 (vs : List T) (p : Prop) (d : Decidable p) (sz : Nat) (xs : List T) (h : c19 vs = @Ans.gl p d sz xs) : False := by
  unfold c19 at h
  split at h <;> cases h
theorem pk19 (vs : List T) (p : Prop) (d : Decidable p) (x : T) (h : c19 vs = @Ans.pk p d x) (hp : p) : FnOk Tryd.prog tgl 19 vs x := by
  unfold c19 at h
  split at h
  · cases h
  · cases h

def badV (m : Nat) (v : Int) : Bool := !decide (0 ≤ v ∧ v ≤ m)
noncomputable def lH7 : List (Nat × (List T → Ans)) := lH0
noncomputable def iH7 : List (Nat × Pt) := (35, inl H0 m35) :: iH0
noncomputable abbrev H7 : Env := En tgl lH7 iH7
theorem env_H7 : EnvOk Tryd.prog H7 := (env_in env_H0 env_H0 Tryd.func35 low35)
theorem inl_ix1 {base : Nat} {l : List Int} {n : Int} {L : List (List Int)} (hl : l.length ≤ 1048576) {R : V → Own → Prop}
    (h0 : (∀ v ∈ l, badV L.length v = false) → ∀ z, z = -1 → R (.t (.int .i64 z)) [(65, .cells [.t (.int .i64 n), .t (.list 1 (rs L))])])
    (h1 : ∀ z : Int, 0 ≤ z → (∃ v ∈ l, badV L.length v = true) → R (.t (.int .i64 z)) [(65, .cells [.t (.int .i64 n), .t (.list 1 (rs L))])]) :
    inl H7 m69 base [.t (.list 1 (is l)), .fn (.func 35) [] [.ptr 65 0]] [(65, .cells [.t (.int .i64 n), .t (.list 1 (rs L))])] R := by
  unfold inl
  conv => whnf
  repeat' (first
    | (refine brK_true rfl ?_; conv => whnf)
    | (refine brK_false rfl ?_; conv => whnf)
    | (refine brK_true (by assumption) ?_; conv => whnf)
    | (refine brK_false (by assumption) ?_; conv => whnf)
    | (refine brK_true ?_ ?_; (focus (simp only [List.length_nil, fx] <;> omega)); conv => whnf)
    | (refine brK_false ?_ ?_; (focus (simp only [List.length_nil, fx] <;> omega)); conv => whnf)
    | ((refine brK_of (fun h => ?_) (fun h => ?_)) <;> (have h2 := h; (try simp only [List.length_nil, fx] at h2); conv => whnf))
    | (refine reqK_of ?_ ?_; (focus (first | decide | omega | assumption | (simp only [List.length_nil, fx] <;> omega) | (simp [keyNew, sameKey, kEq] <;> omega))); conv => whnf)
    | (refine reqK_of ?_ ?_; rotate_left; (conv => whnf); rotate_left)
    | (refine nth_us ?_ ?_ ?_; (focus (first | omega | (simp only [List.length_nil, fx] <;> omega))); (focus (first | omega | (simp only [List.length_nil, fx] <;> omega))); conv => whnf)
    | (refine nth_is ?_ ?_ ?_; (focus (first | omega | (simp only [List.length_nil, fx] <;> omega))); (focus (first | omega | (simp only [List.length_nil, fx] <;> omega))); conv => whnf)
    | (refine nth_bs ?_ ?_ ?_; (focus (first | omega | (simp only [List.length_nil, fx] <;> omega))); (focus (first | omega | (simp only [List.length_nil, fx] <;> omega))); conv => whnf))
  refine loopFn [] (fun s => [.kill 5, .kill 9, .kill 10, .kill 11, .kill 12, .kill 13, .kill 14, .kill 15, .kill 16, .kill 17, .kill 18]) (fun k : Nat => [(8, .t (.int .i64 (k : Int)))]) (fun _ => [(65, .cells [.t (.int .i64 n), .t (.list 1 (rs L))])]) (fun k => k ≤ l.length ∧ ∀ j : Nat, j < k → badV L.length (at0 l j) = false) (fun k => l.length - k) 0 ⟨Nat.zero_le _, fun j h => by omega⟩ ?_
  conv => whnf
  refine ⟨⟨rfl, rfl⟩, fun k hk C hC => ?_⟩
  obtain ⟨hk1, hk2⟩ := hk
  have hw : IntKind.i64.wrap ((k : Int) + 1) = (k : Int) + 1 := wrap_i64 ⟨by omega, by omega⟩
  conv => whnf
  repeat' (first
    | (refine brK_true rfl ?_; conv => whnf)
    | (refine brK_false rfl ?_; conv => whnf)
    | (refine brK_true (by assumption) ?_; conv => whnf)
    | (refine brK_false (by assumption) ?_; conv => whnf)
    | (refine brK_true ?_ ?_; (focus (simp only [List.length_nil, fx, rs_len] <;> omega)); conv => whnf)
    | (refine brK_false ?_ ?_; (focus (simp only [List.length_nil, fx, rs_len] <;> omega)); conv => whnf)
    | ((refine brK_of (fun h => ?_) (fun h => ?_)) <;> (have h2 := h; (try simp only [List.length_nil, fx, rs_len] at h2); conv => whnf))
    | (refine reqK_of ?_ ?_; (focus (first | decide | omega | assumption | (simp only [List.length_nil, fx, rs_len] <;> omega) | (simp [keyNew, sameKey, kEq] <;> omega))); conv => whnf)
    | (refine reqK_of ?_ ?_; rotate_left; (conv => whnf); rotate_left)
    | (refine nth_us ?_ ?_ ?_; (focus (first | omega | (simp only [List.length_nil, fx, rs_len] <;> omega))); (focus (first | omega | (simp only [List.length_nil, fx, rs_len] <;> omega))); conv => whnf)
    | (refine nth_is ?_ ?_ ?_; (focus (first | omega | (simp only [List.length_nil, fx, rs_len] <;> omega))); (focus (first | omega | (simp only [List.length_nil, fx, rs_len] <;> omega))); conv => whnf)
    | (refine nth_bs ?_ ?_ ?_; (focus (first | omega | (simp only [List.length_nil, fx, rs_len] <;> omega))); (focus (first | omega | (simp only [List.length_nil, fx, rs_len] <;> omega))); conv => whnf))
  · have hb : badV L.length (at0 l (k : Int)) = true := by unfold badV; rw [decide_eq_false (by omega)]; rfl
    exact h1 _ (by omega) ⟨_, at0_mem (by simpa using show k < l.length by omega), hb⟩
  · have hb : badV L.length (at0 l (k : Int)) = true := by unfold badV; rw [decide_eq_false (by omega)]; rfl
    exact h1 _ (by omega) ⟨_, at0_mem (by simpa using show k < l.length by omega), hb⟩
  · have hb : badV L.length (at0 l (k : Int)) = false := by unfold badV; rw [decide_eq_true ⟨by omega, by omega⟩]; rfl
    refine loopC (hC (k + 1) ⟨by omega, fun j hj => ?_⟩ (by omega)) ?_
    · rcases Nat.lt_succ_iff_lt_or_eq.1 hj with h | h
      · exact hk2 j h
      · subst h; exact hb
    · rw [hw, Int.natCast_succ]; rfl
  · refine h0 (fun v hv => ?_) _ rfl
    obtain ⟨j, hj, rfl⟩ := List.mem_iff_getElem.1 hv
    have := hk2 j (by omega)
    simpa [at0, hj] using this
def ptIx1 : Pt := fun _ args own R => ∃ l n L, args = [.t (.list 1 (is l)), .fn (.func 35) [] [.ptr 65 0]] ∧ own = [(65, .cells [.t (.int .i64 n), .t (.list 1 (rs L))])] ∧ l.length ≤ 1048576 ∧
  ((∀ v ∈ l, badV L.length v = false) → ∀ z, z = -1 → R (.t (.int .i64 z)) own) ∧ (∀ z : Int, 0 ≤ z → (∃ v ∈ l, badV L.length v = true) → R (.t (.int .i64 z)) own)
theorem ptIx1_ok (base : Nat) (args : List V) (own : Own) (R : V → Own → Prop) (h : ptIx1 base args own R) : FnV Tryd.prog tgl 69 args own R := by
  obtain ⟨l, n, L, rfl, rfl, h1, h2, h3⟩ := h
  exact inl_ok (base := base) env_H7 Tryd.func69 low69 (inl_ix1 h1 h2 h3)
theorem env_ptP {P : Program} {gl : Nat → Option (List T)} {pl : List (Nat × (List T → AnsP))} {l : List (Nat × (List T → Ans))} {il : List (Nat × Pt)} {n : Nat} {g : Pt} (h : EnvOk P (EnP pl gl l il)) (hg : ∀ base args own R, g base args own R → FnV P gl n args own R) : EnvOk P (EnP pl gl l ((n, g) :: il)) := by
  refine ⟨h.fn, h.gl, h.pk, fun f base args own R hi hR => ?_, h.pn⟩
  have hR' : ptL ((n, g) :: il) f base args own R := hR
  have hi' : isL ((n, g) :: il) f = true := hi
  simp only [ptL] at hR'
  simp only [isL] at hi'
  cases e : Nat.beq n f with
  | true =>
    rw [e] at hR'
    rw [← Nat.eq_of_beq_eq_true e]
    exact hg base args own R hR'
  | false =>
    rw [e] at hR' hi'
    exact h.pt f base args own R hi' hR'
noncomputable def lH8 : List (Nat × (List T → Ans)) := lH7
noncomputable def iH8 : List (Nat × Pt) := (69, ptIx1) :: iH7
noncomputable abbrev H8 : Env := En tgl lH8 iH8
theorem env_H8 : EnvOk Tryd.prog H8 := env_ptP env_H7 ptIx1_ok
noncomputable def lH9 : List (Nat × (List T → Ans)) := lH8
noncomputable def iH9 : List (Nat × Pt) := (34, inl H8 m34) :: iH8
noncomputable abbrev H9 : Env := En tgl lH9 iH9
theorem env_H9 : EnvOk Tryd.prog H9 := (env_in env_H8 env_H8 Tryd.func34 low34)
noncomputable def lH10 : List (Nat × (List T → Ans)) := lH9
noncomputable def iH10 : List (Nat × Pt) := (33, inl H9 m33) :: iH9
noncomputable abbrev H10 : Env := En tgl lH10 iH10
theorem env_H10 : EnvOk Tryd.prog H10 := (env_in env_H9 env_H9 Tryd.func33 low33)
def badL (n : Int) (m : Nat) (l : List Int) : Bool := !rowOk n m l
theorem rowOk_iff {n : Int} {m : Nat} {l : List Int} : rowOk n m l = true ↔ (l.length : Int) = n ∧ ∀ v ∈ l, badV m v = false := by
  unfold rowOk badV
  simp only [Bool.and_eq_true, decide_eq_true_eq, List.all_eq_true, Bool.not_eq_false']
theorem inl_ix2 {base : Nat} {n : Int} {L : List (List Int)} (hl : L.length ≤ 1048576 ∧ ∀ l ∈ L, l.length ≤ 1048576) {R : V → Own → Prop}
    (h0 : L.all (rowOk n L.length) = true → ∀ z, z = -1 → R (.t (.int .i64 z)) [(65, .cells [.t (.int .i64 n), .t (.list 1 (rs L))])])
    (h1 : ∀ z : Int, 0 ≤ z → L.all (rowOk n L.length) = false → R (.t (.int .i64 z)) [(65, .cells [.t (.int .i64 n), .t (.list 1 (rs L))])]) :
    inl H10 m70 base [.t (.list 1 (rs L)), .fn (.func 33) [] [.ptr 65 0]] [(65, .cells [.t (.int .i64 n), .t (.list 1 (rs L))])] R := by
  obtain ⟨hl1, hl2⟩ := hl
  unfold inl
  conv => whnf
  repeat' (first
    | (refine brK_true rfl ?_; conv => whnf)
    | (refine brK_false rfl ?_; conv => whnf)
    | (refine brK_true (by assumption) ?_; conv => whnf)
    | (refine brK_false (by assumption) ?_; conv => whnf)
    | (refine brK_true ?_ ?_; (focus (simp only [List.length_nil, fx] <;> omega)); conv => whnf)
    | (refine brK_false ?_ ?_; (focus (simp only [List.length_nil, fx] <;> omega)); conv => whnf)
    | ((refine brK_of (fun h => ?_) (fun h => ?_)) <;> (have h2 := h; (try simp only [List.length_nil, fx] at h2); conv => whnf))
    | (refine reqK_of ?_ ?_; (focus (first | decide | omega | assumption | (simp only [List.length_nil, fx] <;> omega) | (simp [keyNew, sameKey, kEq] <;> omega))); conv => whnf)
    | (refine reqK_of ?_ ?_; rotate_left; (conv => whnf); rotate_left)
    | (refine nth_us ?_ ?_ ?_; (focus (first | omega | (simp only [List.length_nil, fx] <;> omega))); (focus (first | omega | (simp only [List.length_nil, fx] <;> omega))); conv => whnf)
    | (refine nth_is ?_ ?_ ?_; (focus (first | omega | (simp only [List.length_nil, fx] <;> omega))); (focus (first | omega | (simp only [List.length_nil, fx] <;> omega))); conv => whnf)
    | (refine nth_bs ?_ ?_ ?_; (focus (first | omega | (simp only [List.length_nil, fx] <;> omega))); (focus (first | omega | (simp only [List.length_nil, fx] <;> omega))); conv => whnf))
  refine loopFn [] (fun s => [.kill 5, .kill 9, .kill 10, .kill 11, .kill 12, .kill 13, .kill 14, .kill 15, .kill 16, .kill 17, .kill 18]) (fun k : Nat => [(8, .t (.int .i64 (k : Int)))]) (fun _ => [(65, .cells [.t (.int .i64 n), .t (.list 1 (rs L))])]) (fun k => k ≤ L.length ∧ ∀ j : Nat, j < k → rowOk n L.length (row L ((j : Int) + 1)) = true) (fun k => L.length - k) 0 ⟨Nat.zero_le _, fun j h => by omega⟩ ?_
  conv => whnf
  refine ⟨⟨rfl, rfl⟩, fun k hk C hC => ?_⟩
  obtain ⟨hk1, hk2⟩ := hk
  have hw : IntKind.i64.wrap ((k : Int) + 1) = (k : Int) + 1 := wrap_i64 ⟨by omega, by omega⟩
  conv => whnf
  repeat' (first
    | (refine brK_true rfl ?_; conv => whnf)
    | (refine brK_false rfl ?_; conv => whnf)
    | (refine brK_true (by assumption) ?_; conv => whnf)
    | (refine brK_false (by assumption) ?_; conv => whnf)
    | (refine brK_true ?_ ?_; (focus (simp only [List.length_nil, fx, rs_len] <;> omega)); conv => whnf)
    | (refine brK_false ?_ ?_; (focus (simp only [List.length_nil, fx, rs_len] <;> omega)); conv => whnf)
    | ((refine brK_of (fun h => ?_) (fun h => ?_)) <;> (have h2 := h; (try simp only [List.length_nil, fx, rs_len] at h2); conv => whnf))
    | (refine reqK_of ?_ ?_; (focus (first | decide | omega | assumption | (simp only [List.length_nil, fx, rs_len] <;> omega) | (simp [keyNew, sameKey, kEq] <;> omega))); conv => whnf)
    | (refine reqK_of ?_ ?_; rotate_left; (conv => whnf); rotate_left)
    | (refine nth_rs ?_ ?_ ?_; (focus (first | omega | (simp only [List.length_nil, fx, rs_len] <;> omega))); (focus (first | omega | (simp only [List.length_nil, fx, rs_len] <;> omega))); conv => whnf)
    | (refine nth_us ?_ ?_ ?_; (focus (first | omega | (simp only [List.length_nil, fx, rs_len] <;> omega))); (focus (first | omega | (simp only [List.length_nil, fx, rs_len] <;> omega))); conv => whnf)
    | (refine nth_is ?_ ?_ ?_; (focus (first | omega | (simp only [List.length_nil, fx, rs_len] <;> omega))); (focus (first | omega | (simp only [List.length_nil, fx, rs_len] <;> omega))); conv => whnf)
    | (refine nth_bs ?_ ?_ ?_; (focus (first | omega | (simp only [List.length_nil, fx, rs_len] <;> omega))); (focus (first | omega | (simp only [List.length_nil, fx, rs_len] <;> omega))); conv => whnf))
  · refine h1 _ (by omega) ?_
    have hm : row L ((k : Int) + 1) ∈ L := by rw [row_at (by omega)]; exact List.getElem_mem _
    rw [← Bool.not_eq_true]
    intro ha
    exact h2 (rowOk_iff.1 (List.all_eq_true.1 ha _ hm)).1
  · have hm : row L ((k : Int) + 1) ∈ L := by rw [row_at (by omega)]; exact List.getElem_mem _
    refine ⟨row L ((k : Int) + 1), n, L, rfl, rfl, hl2 _ hm, fun hgood z hz => ?_, fun z hz hbad => ?_⟩
    · have hr : rowOk n L.length (row L ((k : Int) + 1)) = true := rowOk_iff.2 ⟨h2, hgood⟩
      have hz0 : ¬ 0 ≤ z := by omega
      conv => whnf
      repeat' (first
        | (refine brK_true rfl ?_; conv => whnf)
        | (refine brK_false rfl ?_; conv => whnf)
        | (refine brK_true (by assumption) ?_; conv => whnf)
        | (refine brK_false (by assumption) ?_; conv => whnf)
        | (refine brK_true ?_ ?_; (focus (simp only [List.length_nil, fx] <;> omega)); conv => whnf)
        | (refine brK_false ?_ ?_; (focus (simp only [List.length_nil, fx] <;> omega)); conv => whnf)
        | ((refine brK_of (fun h => ?_) (fun h => ?_)) <;> (have h2 := h; (try simp only [List.length_nil, fx] at h2); conv => whnf))
        | (refine reqK_of ?_ ?_; (focus (first | decide | omega | assumption | (simp only [List.length_nil, fx] <;> omega) | (simp [keyNew, sameKey, kEq] <;> omega))); conv => whnf)
        | (refine reqK_of ?_ ?_; rotate_left; (conv => whnf); rotate_left)
        | (refine nth_us ?_ ?_ ?_; (focus (first | omega | (simp only [List.length_nil, fx] <;> omega))); (focus (first | omega | (simp only [List.length_nil, fx] <;> omega))); conv => whnf)
        | (refine nth_is ?_ ?_ ?_; (focus (first | omega | (simp only [List.length_nil, fx] <;> omega))); (focus (first | omega | (simp only [List.length_nil, fx] <;> omega))); conv => whnf)
        | (refine nth_bs ?_ ?_ ?_; (focus (first | omega | (simp only [List.length_nil, fx] <;> omega))); (focus (first | omega | (simp only [List.length_nil, fx] <;> omega))); conv => whnf))
      refine loopC (hC (k + 1) ⟨by omega, fun j hj => ?_⟩ (by omega)) ?_
      · rcases Nat.lt_succ_iff_lt_or_eq.1 hj with h | h
        · exact hk2 j h
        · subst h; exact hr
      · rw [hw, Int.natCast_succ]; rfl
    · conv => whnf
      repeat' (first
        | (refine brK_true rfl ?_; conv => whnf)
        | (refine brK_false rfl ?_; conv => whnf)
        | (refine brK_true (by assumption) ?_; conv => whnf)
        | (refine brK_false (by assumption) ?_; conv => whnf)
        | (refine brK_true ?_ ?_; (focus (simp only [List.length_nil, fx] <;> omega)); conv => whnf)
        | (refine brK_false ?_ ?_; (focus (simp only [List.length_nil, fx] <;> omega)); conv => whnf)
        | ((refine brK_of (fun h => ?_) (fun h => ?_)) <;> (have h2 := h; (try simp only [List.length_nil, fx] at h2); conv => whnf))
        | (refine reqK_of ?_ ?_; (focus (first | decide | omega | assumption | (simp only [List.length_nil, fx] <;> omega) | (simp [keyNew, sameKey, kEq] <;> omega))); conv => whnf)
        | (refine reqK_of ?_ ?_; rotate_left; (conv => whnf); rotate_left)
        | (refine nth_us ?_ ?_ ?_; (focus (first | omega | (simp only [List.length_nil, fx] <;> omega))); (focus (first | omega | (simp only [List.length_nil, fx] <;> omega))); conv => whnf)
        | (refine nth_is ?_ ?_ ?_; (focus (first | omega | (simp only [List.length_nil, fx] <;> omega))); (focus (first | omega | (simp only [List.length_nil, fx] <;> omega))); conv => whnf)
        | (refine nth_bs ?_ ?_ ?_; (focus (first | omega | (simp only [List.length_nil, fx] <;> omega))); (focus (first | omega | (simp only [List.length_nil, fx] <;> omega))); conv => whnf))
      refine h1 _ (by omega) ?_
      rw [← Bool.not_eq_true]
      intro ha
      obtain ⟨v, hv, hb⟩ := hbad
      have := (rowOk_iff.1 (List.all_eq_true.1 ha _ hm)).2 v hv
      rw [hb] at this; cases this
  · refine h0 (List.all_eq_true.2 fun l hl => ?_) _ rfl
    obtain ⟨j, hj, rfl⟩ := List.mem_iff_getElem.1 hl
    have := hk2 j (by omega)
    rw [row_at hj] at this
    exact this
def ptIx2 : Pt := fun _ args own R => ∃ n L, args = [.t (.list 1 (rs L)), .fn (.func 33) [] [.ptr 65 0]] ∧ own = [(65, .cells [.t (.int .i64 n), .t (.list 1 (rs L))])] ∧ (L.length ≤ 1048576 ∧ ∀ l ∈ L, l.length ≤ 1048576) ∧
  (L.all (rowOk n L.length) = true → ∀ z, z = -1 → R (.t (.int .i64 z)) own) ∧ (∀ z : Int, 0 ≤ z → L.all (rowOk n L.length) = false → R (.t (.int .i64 z)) own)
theorem ptIx2_ok (base : Nat) (args : List V) (own : Own) (R : V → Own → Prop) (h : ptIx2 base args own R) : FnV Tryd.prog tgl 70 args own R := by
  obtain ⟨n, L, rfl, rfl, h1, h2, h3⟩ := h
  exact inl_ok (base := base) env_H10 Tryd.func70 low70 (inl_ix2 h1 h2 h3)
noncomputable def lH11 : List (Nat × (List T → Ans)) := lH7
noncomputable def iH11 : List (Nat × Pt) := (70, ptIx2) :: iH7
noncomputable abbrev H11 : Env := En tgl lH11 iH11
theorem env_H11 : EnvOk Tryd.prog H11 := env_ptP env_H7 ptIx2_ok
noncomputable def lH12 : List (Nat × (List T → Ans)) := lH11
noncomputable def iH12 : List (Nat × Pt) := (36, inl H11 m36) :: iH11
noncomputable abbrev H12 : Env := En tgl lH12 iH12
theorem env_H12 : EnvOk Tryd.prog H12 := (env_in env_H11 env_H11 Tryd.func36 low36)
theorem hRight_all {n : Int} {L : List (List Int)} (h : 1 ≤ n ∧ n ≤ 4 ∧ L.length ≤ 64) : hRight n L = L.all (rowOk n L.length) := by
  unfold hRight
  rw [decide_eq_true h.1, decide_eq_true h.2.1, decide_eq_true h.2.2]; simp
theorem hRight_f {n : Int} {L : List (List Int)} (h : ¬ (1 ≤ n ∧ n ≤ 4 ∧ L.length ≤ 64)) : hRight n L = false := by
  rw [← Bool.not_eq_true, hRight_iff]; exact fun h' => h h'.1
theorem ok7 (n : Int) (xs : List T) (hq : IsH xs) : FnOk Tryd.prog tgl 7 [.agg [.int .i64 n, .list 1 xs]] (.bool (hRight n (rowsOf xs))) := by
  refine fn_ok (Γ := H12) env_H12 Tryd.func7 low7 ?_
  obtain ⟨L, rfl, hl, hL⟩ := hq
  rw [rowsOf_rs]
  conv => whnf
  repeat' (first
    | (refine brK_true rfl ?_; conv => whnf)
    | (refine brK_false rfl ?_; conv => whnf)
    | (refine brK_true (by assumption) ?_; conv => whnf)
    | (refine brK_false (by assumption) ?_; conv => whnf)
    | (refine brK_true ?_ ?_; (focus (simp only [List.length_nil, fx, rs_len] <;> omega)); conv => whnf)
    | (refine brK_false ?_ ?_; (focus (simp only [List.length_nil, fx, rs_len] <;> omega)); conv => whnf)
    | ((refine brK_of (fun h => ?_) (fun h => ?_)) <;> (have h2 := h; (try simp only [List.length_nil, fx, rs_len] at h2); conv => whnf))
    | (refine reqK_of ?_ ?_; (focus (first | decide | omega | assumption | (simp only [List.length_nil, fx, rs_len] <;> omega) | (simp [keyNew, sameKey, kEq] <;> omega))); conv => whnf)
    | (refine reqK_of ?_ ?_; rotate_left; (conv => whnf); rotate_left)
    | (refine nth_us ?_ ?_ ?_; (focus (first | omega | (simp only [List.length_nil, fx, rs_len] <;> omega))); (focus (first | omega | (simp only [List.length_nil, fx, rs_len] <;> omega))); conv => whnf)
    | (refine nth_is ?_ ?_ ?_; (focus (first | omega | (simp only [List.length_nil, fx, rs_len] <;> omega))); (focus (first | omega | (simp only [List.length_nil, fx, rs_len] <;> omega))); conv => whnf)
    | (refine nth_bs ?_ ?_ ?_; (focus (first | omega | (simp only [List.length_nil, fx, rs_len] <;> omega))); (focus (first | omega | (simp only [List.length_nil, fx, rs_len] <;> omega))); conv => whnf))
  · refine ⟨n, L, rfl, rfl, ⟨hl, fun l h => (hL l h).1⟩, fun hall z hz => ?_, fun z hz hall => ?_⟩
    · have hz0 : leI 0 z = false := by rw [leI_def, decide_eq_false (by omega)]
      conv => whnf
      repeat' (first
        | (refine brK_true rfl ?_; conv => whnf)
        | (refine brK_false rfl ?_; conv => whnf)
        | (refine brK_true (by assumption) ?_; conv => whnf)
        | (refine brK_false (by assumption) ?_; conv => whnf)
        | (refine brK_true ?_ ?_; (focus (simp only [List.length_nil, fx] <;> omega)); conv => whnf)
        | (refine brK_false ?_ ?_; (focus (simp only [List.length_nil, fx] <;> omega)); conv => whnf)
        | ((refine brK_of (fun h => ?_) (fun h => ?_)) <;> (have h2 := h; (try simp only [List.length_nil, fx] at h2); conv => whnf))
        | (refine reqK_of ?_ ?_; (focus (first | decide | omega | assumption | (simp only [List.length_nil, fx] <;> omega) | (simp [keyNew, sameKey, kEq] <;> omega))); conv => whnf)
        | (refine reqK_of ?_ ?_; rotate_left; (conv => whnf); rotate_left)
        | (refine nth_us ?_ ?_ ?_; (focus (first | omega | (simp only [List.length_nil, fx] <;> omega))); (focus (first | omega | (simp only [List.length_nil, fx] <;> omega))); conv => whnf)
        | (refine nth_is ?_ ?_ ?_; (focus (first | omega | (simp only [List.length_nil, fx] <;> omega))); (focus (first | omega | (simp only [List.length_nil, fx] <;> omega))); conv => whnf)
        | (refine nth_bs ?_ ?_ ?_; (focus (first | omega | (simp only [List.length_nil, fx] <;> omega))); (focus (first | omega | (simp only [List.length_nil, fx] <;> omega))); conv => whnf))
      rw [hz0, hRight_all ⟨by omega, by omega, by omega⟩, hall]; rfl
    · have hz0 : leI 0 z = true := by rw [leI_def, decide_eq_true hz]
      conv => whnf
      repeat' (first
        | (refine brK_true rfl ?_; conv => whnf)
        | (refine brK_false rfl ?_; conv => whnf)
        | (refine brK_true (by assumption) ?_; conv => whnf)
        | (refine brK_false (by assumption) ?_; conv => whnf)
        | (refine brK_true ?_ ?_; (focus (simp only [List.length_nil, fx] <;> omega)); conv => whnf)
        | (refine brK_false ?_ ?_; (focus (simp only [List.length_nil, fx] <;> omega)); conv => whnf)
        | ((refine brK_of (fun h => ?_) (fun h => ?_)) <;> (have h2 := h; (try simp only [List.length_nil, fx] at h2); conv => whnf))
        | (refine reqK_of ?_ ?_; (focus (first | decide | omega | assumption | (simp only [List.length_nil, fx] <;> omega) | (simp [keyNew, sameKey, kEq] <;> omega))); conv => whnf)
        | (refine reqK_of ?_ ?_; rotate_left; (conv => whnf); rotate_left)
        | (refine nth_us ?_ ?_ ?_; (focus (first | omega | (simp only [List.length_nil, fx] <;> omega))); (focus (first | omega | (simp only [List.length_nil, fx] <;> omega))); conv => whnf)
        | (refine nth_is ?_ ?_ ?_; (focus (first | omega | (simp only [List.length_nil, fx] <;> omega))); (focus (first | omega | (simp only [List.length_nil, fx] <;> omega))); conv => whnf)
        | (refine nth_bs ?_ ?_ ?_; (focus (first | omega | (simp only [List.length_nil, fx] <;> omega))); (focus (first | omega | (simp only [List.length_nil, fx] <;> omega))); conv => whnf))
      rw [hz0, hRight_all ⟨by omega, by omega, by omega⟩, hall]; rfl
  all_goals rw [hRight_f (by omega)]
open Classical in
noncomputable def c7 : List T → Ans
  | [.agg [.int .i64 n, .list 1 xs]] => .req (IsH xs) (.bool (hRight n (rowsOf xs)))
  | _ => .no
theorem got7 {vs : List T} {x : T} (h : Got (c7 vs) x) : FnOk Tryd.prog tgl 7 vs x := by
  unfold c7 at h
  split at h
  · obtain ⟨hq, e⟩ := got_req h; rw [e]; exact ok7 _ _ hq
  · exact (got_no h).elim
theorem nogl7 (vs : List T) (p : Prop) (d : Decidable p) (sz : Nat) (xs : List T) (h : c7 vs = @Ans.gl p d sz xs) : False := by
  unfold c7 at h
  split at h <;> cases h
theorem pk7 (vs : List T) (p : Prop) (d : Decidable p) (x : T) (h : c7 vs = @Ans.pk p d x) (hp : p) : FnOk Tryd.prog tgl 7 vs x := by
  unfold c7 at h
  split at h
  · cases h
  · cases h
end Go.Nx
end
section
set_option linter.unusedVariables false
set_option linter.unusedSimpArgs false
set_option maxRecDepth 20000
set_option maxHeartbeats 4000000
namespace Go.Nx
open Go Go.RowKit Go.Proofs

theorem ok26 (n : Int) (xs : List T) (hq : IsH xs) : FnOk Tryd.prog tgl 26 [.agg [.int .i64 n, .list 1 xs]] (.bool (hRight n (rowsOf xs))) := by
  refine fn_ok (Γ := H6) env_H6 Tryd.func26 low26 ?_
  obtain ⟨L, rfl, hl, hL⟩ := hq
  rw [rowsOf_rs]
  conv => whnf
  repeat' (first
    | (refine brK_true rfl ?_; conv => whnf)
    | (refine brK_false rfl ?_; conv => whnf)
    | (refine brK_true (by assumption) ?_; conv => whnf)
    | (refine brK_false (by assumption) ?_; conv => whnf)
    | (refine brK_true ?_ ?_; (focus (simp only [List.length_nil, fx, rs_len] <;> omega)); conv => whnf)
    | (refine brK_false ?_ ?_; (focus (simp only [List.length_nil, fx, rs_len] <;> omega)); conv => whnf)
    | ((refine brK_of (fun h => ?_) (fun h => ?_)) <;> (have h2 := h; (try simp only [List.length_nil, fx, rs_len] at h2); conv => whnf))
    | (refine reqK_of ?_ ?_; (focus (first | decide | omega | assumption | (simp only [List.length_nil, fx, rs_len] <;> omega) | (simp [keyNew, sameKey, kEq] <;> omega))); conv => whnf)
    | (refine reqK_of ?_ ?_; rotate_left; (conv => whnf); rotate_left)
    | (refine nth_us ?_ ?_ ?_; (focus (first | omega | (simp only [List.length_nil, fx, rs_len] <;> omega))); (focus (first | omega | (simp only [List.length_nil, fx, rs_len] <;> omega))); conv => whnf)
    | (refine nth_is ?_ ?_ ?_; (focus (first | omega | (simp only [List.length_nil, fx, rs_len] <;> omega))); (focus (first | omega | (simp only [List.length_nil, fx, rs_len] <;> omega))); conv => whnf)
    | (refine nth_bs ?_ ?_ ?_; (focus (first | omega | (simp only [List.length_nil, fx, rs_len] <;> omega))); (focus (first | omega | (simp only [List.length_nil, fx, rs_len] <;> omega))); conv => whnf))
  · rw [hRight_f (by omega)]
  · rw [hRight_f (by omega)]
  · rw [hRight_f (by omega)]
  refine loopUp [] [.kill 4, .kill 19, .kill 20, .kill 21, .kill 22, .kill 23, .kill 24, .kill 25, .kill 26, .kill 27, .kill 28, .kill 29, .kill 30, .kill 31, .kill 32, .kill 33, .kill 34, .kill 35, .kill 36, .kill 37, .kill 38, .kill 39, .kill 40, .kill 41, .kill 42, .kill 43, .kill 44, .kill 45, .kill 46, .kill 47, .kill 48, .kill 49, .kill 50, .kill 51, .kill 52, .kill 53, .kill 54, .kill 55, .kill 56, .kill 57, .kill 58, .kill 59, .kill 60, .kill 61, .kill 62, .kill 63, .kill 64, .kill 65, .kill 66, .kill 67] (fun k : Nat => [(3, .t (.int .i64 (k : Int)))]) (fun _ => []) (fun k => k ≤ L.length ∧ ∀ j : Nat, j < k → rowOk n L.length (row L ((j : Int) + 1)) = true) (fun k => L.length - k) 0 ⟨Nat.zero_le _, fun j h => by omega⟩ ?_
  conv => whnf
  refine ⟨⟨rfl, rfl⟩, fun k hk C hC => ?_⟩
  obtain ⟨hk1, hk2⟩ := hk
  have hw : IntKind.i64.wrap ((k : Int) + 1) = (k : Int) + 1 := wrap_i64 ⟨by omega, by omega⟩
  conv => whnf
  repeat' (first
    | (refine brK_true rfl ?_; conv => whnf)
    | (refine brK_false rfl ?_; conv => whnf)
    | (refine brK_true (by assumption) ?_; conv => whnf)
    | (refine brK_false (by assumption) ?_; conv => whnf)
    | (refine brK_true ?_ ?_; (focus (simp only [List.length_nil, fx, rs_len] <;> omega)); conv => whnf)
    | (refine brK_false ?_ ?_; (focus (simp only [List.length_nil, fx, rs_len] <;> omega)); conv => whnf)
    | ((refine brK_of (fun h => ?_) (fun h => ?_)) <;> (have h2 := h; (try simp only [List.length_nil, fx, rs_len] at h2); conv => whnf))
    | (refine reqK_of ?_ ?_; (focus (first | decide | omega | assumption | (simp only [List.length_nil, fx, rs_len] <;> omega) | (simp [keyNew, sameKey, kEq] <;> omega))); conv => whnf)
    | (refine reqK_of ?_ ?_; rotate_left; (conv => whnf); rotate_left)
    | (refine nth_rs ?_ ?_ ?_; (focus (first | omega | (simp only [List.length_nil, fx, rs_len] <;> omega))); (focus (first | omega | (simp only [List.length_nil, fx, rs_len] <;> omega))); conv => whnf)
    | (refine nth_us ?_ ?_ ?_; (focus (first | omega | (simp only [List.length_nil, fx, rs_len] <;> omega))); (focus (first | omega | (simp only [List.length_nil, fx, rs_len] <;> omega))); conv => whnf)
    | (refine nth_is ?_ ?_ ?_; (focus (first | omega | (simp only [List.length_nil, fx, rs_len] <;> omega))); (focus (first | omega | (simp only [List.length_nil, fx, rs_len] <;> omega))); conv => whnf)
    | (refine nth_bs ?_ ?_ ?_; (focus (first | omega | (simp only [List.length_nil, fx, rs_len] <;> omega))); (focus (first | omega | (simp only [List.length_nil, fx, rs_len] <;> omega))); conv => whnf))
  · rw [hRight_all ⟨by omega, by omega, by omega⟩]
    have hm : row L ((k : Int) + 1) ∈ L := by rw [row_at (by omega)]; exact List.getElem_mem _
    have : L.all (rowOk n L.length) = false := by
      rw [← Bool.not_eq_true]; intro ha
      exact h2 (rowOk_iff.1 (List.all_eq_true.1 ha _ hm)).1
    rw [this]
  · have hm : row L ((k : Int) + 1) ∈ L := by rw [row_at (by omega)]; exact List.getElem_mem _
    have hr1 := (hL _ hm).1
    refine loopUp [] [.kill 35, .kill 36, .kill 37, .kill 38, .kill 39, .kill 40, .kill 41, .kill 42, .kill 43, .kill 44, .kill 45, .kill 46, .kill 47, .kill 48, .kill 49, .kill 50, .kill 51, .kill 52, .kill 53, .kill 54, .kill 55, .kill 56, .kill 57, .kill 58, .kill 59, .kill 60, .kill 61, .kill 62, .kill 63, .kill 64, .kill 65, .kill 66, .kill 67] (fun j : Nat => [(4, .t (.int .i64 (j : Int)))]) (fun _ => []) (fun j => j ≤ (row L ((k : Int) + 1)).length ∧ ∀ i : Nat, i < j → badV L.length (at0 (row L ((k : Int) + 1)) (i : Int)) = false) (fun j => (row L ((k : Int) + 1)).length - j) 0 ⟨Nat.zero_le _, fun j h => by omega⟩ ?_
    conv => whnf
    refine ⟨⟨rfl, rfl⟩, fun j hj C' hC' => ?_⟩
    obtain ⟨hj1, hj2⟩ := hj
    have hwj : IntKind.i64.wrap ((j : Int) + 1) = (j : Int) + 1 := wrap_i64 ⟨by omega, by omega⟩
    have bad : badV L.length (at0 (row L ((k : Int) + 1)) (j : Int)) = true → j < (row L ((k : Int) + 1)).length → T.bool false = T.bool (hRight n L) := fun hb hjl => by
      rw [hRight_all ⟨by omega, by omega, by omega⟩]
      have : L.all (rowOk n L.length) = false := by
        rw [← Bool.not_eq_true]; intro ha
        have := (rowOk_iff.1 (List.all_eq_true.1 ha _ hm)).2 _ (at0_mem (i := (j : Int)) (by simpa using hjl))
        rw [hb] at this; cases this
      rw [this]
    conv => whnf
    repeat' (first
      | (refine brK_true rfl ?_; conv => whnf)
      | (refine brK_false rfl ?_; conv => whnf)
      | (refine brK_true (by assumption) ?_; conv => whnf)
      | (refine brK_false (by assumption) ?_; conv => whnf)
      | (refine brK_true ?_ ?_; (focus (simp only [List.length_nil, fx, rs_len] <;> omega)); conv => whnf)
      | (refine brK_false ?_ ?_; (focus (simp only [List.length_nil, fx, rs_len] <;> omega)); conv => whnf)
      | ((refine brK_of (fun h => ?_) (fun h => ?_)) <;> (have h2 := h; (try simp only [List.length_nil, fx, rs_len] at h2); conv => whnf))
      | (refine reqK_of ?_ ?_; (focus (first | decide | omega | assumption | (simp only [List.length_nil, fx, rs_len] <;> omega) | (simp [keyNew, sameKey, kEq] <;> omega))); conv => whnf)
      | (refine reqK_of ?_ ?_; rotate_left; (conv => whnf); rotate_left)
      | (refine nth_rs ?_ ?_ ?_; (focus (first | omega | (simp only [List.length_nil, fx, rs_len] <;> omega))); (focus (first | omega | (simp only [List.length_nil, fx, rs_len] <;> omega))); conv => whnf)
      | (refine nth_us ?_ ?_ ?_; (focus (first | omega | (simp only [List.length_nil, fx, rs_len] <;> omega))); (focus (first | omega | (simp only [List.length_nil, fx, rs_len] <;> omega))); conv => whnf)
      | (refine nth_is ?_ ?_ ?_; (focus (first | omega | (simp only [List.length_nil, fx, rs_len] <;> omega))); (focus (first | omega | (simp only [List.length_nil, fx, rs_len] <;> omega))); conv => whnf)
      | (refine nth_bs ?_ ?_ ?_; (focus (first | omega | (simp only [List.length_nil, fx, rs_len] <;> omega))); (focus (first | omega | (simp only [List.length_nil, fx, rs_len] <;> omega))); conv => whnf))
    · exact bad (by unfold badV; rw [decide_eq_false (by omega)]; rfl) (by omega)
    · exact bad (by unfold badV; rw [decide_eq_false (by omega)]; rfl) (by omega)
    · refine loopC (hC' (j + 1) ⟨by omega, fun i hi => ?_⟩ (by omega)) ?_
      · rcases Nat.lt_succ_iff_lt_or_eq.1 hi with h | h
        · exact hj2 i h
        · subst h; unfold badV; rw [decide_eq_true ⟨by omega, by omega⟩]; rfl
      · rw [hwj, Int.natCast_succ]; rfl
    · refine loopC (hC (k + 1) ⟨by omega, fun i hi => ?_⟩ (by omega)) ?_
      · rcases Nat.lt_succ_iff_lt_or_eq.1 hi with h | h
        · exact hk2 i h
        · subst h
          refine rowOk_iff.2 ⟨by assumption, fun v hv => ?_⟩
          obtain ⟨q, hq, rfl⟩ := List.mem_iff_getElem.1 hv
          have := hj2 q (by omega)
          simpa [at0, hq] using this
      · rw [hw, Int.natCast_succ]; rfl
  · have hk3 : k = L.length := by omega
    rw [hRight_all ⟨by omega, by omega, by omega⟩]
    have : L.all (rowOk n L.length) = true := List.all_eq_true.2 fun l hl => by
      obtain ⟨j, hj, rfl⟩ := List.mem_iff_getElem.1 hl
      have := hk2 j (by omega)
      rw [row_at hj] at this
      exact this
    rw [this]
open Classical in
noncomputable def c26 : List T → Ans
  | [.agg [.int .i64 n, .list 1 xs]] => .req (IsH xs) (.bool (hRight n (rowsOf xs)))
  | _ => .no
theorem got26 {vs : List T} {x : T} (h : Got (c26 vs) x) : FnOk Tryd.prog tgl 26 vs x := by
  unfold c26 at h
  split at h
  · obtain ⟨hq, e⟩ := got_req h; rw [e]; exact ok26 _ _ hq
  · exact (got_no h).elim
theorem nogl26 (vs : List T) (p : Prop) (d : Decidable p) (sz : Nat) (xs : List T) (h : c26 vs = @Ans.gl p d sz xs) : False := by
  unfold c26 at h
  split at h <;> cases h
theorem pk26 (vs : List T) (p : Prop) (d : Decidable p) (x : T) (h : c26 vs = @Ans.pk p d x) (hp : p) : FnOk Tryd.prog tgl 26 vs x := by
  unfold c26 at h
  split at h
  · cases h
  · cases h
theorem eqLs_no {A B : List (List Int)} {k : Nat} (h1 : k < A.length) (h2 : k < B.length) (h : row A ((k : Int) + 1) ≠ row B ((k : Int) + 1)) : eqLs A B = false := by
  unfold eqLs; rw [decide_eq_false_iff_not]; intro e; subst e; exact h rfl
theorem ok28 (n m : Int) (xs ys : List T) (hq : IsH xs ∧ IsH ys) : FnOk Tryd.prog tgl 28 [.agg [.int .i64 n, .list 1 xs], .agg [.int .i64 m, .list 1 ys]] (.bool (hSame n m (rowsOf xs) (rowsOf ys))) := by
  refine fn_ok (Γ := H6) env_H6 Tryd.func28 low28 ?_
  obtain ⟨⟨A, rfl, ha, hA⟩, B, rfl, hb, hB⟩ := hq
  rw [rowsOf_rs, rowsOf_rs]
  conv => whnf
  repeat' (first
    | (refine brK_true rfl ?_; conv => whnf)
    | (refine brK_false rfl ?_; conv => whnf)
    | (refine brK_true (by assumption) ?_; conv => whnf)
    | (refine brK_false (by assumption) ?_; conv => whnf)
    | (refine brK_true ?_ ?_; (focus (simp only [List.length_nil, fx, rs_len] <;> omega)); conv => whnf)
    | (refine brK_false ?_ ?_; (focus (simp only [List.length_nil, fx, rs_len] <;> omega)); conv => whnf)
    | ((refine brK_of (fun h => ?_) (fun h => ?_)) <;> (have h2 := h; (try simp only [List.length_nil, fx, rs_len] at h2); conv => whnf))
    | (refine reqK_of ?_ ?_; (focus (first | decide | omega | assumption | (simp only [List.length_nil, fx, rs_len] <;> omega) | (simp [keyNew, sameKey, kEq] <;> omega))); conv => whnf)
    | (refine reqK_of ?_ ?_; rotate_left; (conv => whnf); rotate_left)
    | (refine nth_us ?_ ?_ ?_; (focus (first | omega | (simp only [List.length_nil, fx, rs_len] <;> omega))); (focus (first | omega | (simp only [List.length_nil, fx, rs_len] <;> omega))); conv => whnf)
    | (refine nth_is ?_ ?_ ?_; (focus (first | omega | (simp only [List.length_nil, fx, rs_len] <;> omega))); (focus (first | omega | (simp only [List.length_nil, fx, rs_len] <;> omega))); conv => whnf)
    | (refine nth_bs ?_ ?_ ?_; (focus (first | omega | (simp only [List.length_nil, fx, rs_len] <;> omega))); (focus (first | omega | (simp only [List.length_nil, fx, rs_len] <;> omega))); conv => whnf))
  · rw [hSame_ne h2]
  · have e : eqLs A B = false := by unfold eqLs; rw [decide_eq_false_iff_not]; intro e; exact h2 (by rw [e])
    rw [show hSame n m A B = false by unfold hSame; rw [e]; exact Bool.and_false _]
  have hnm : n = m := by assumption
  have hlr : A.length = B.length := by omega
  subst hnm
  rw [hSame_eq]
  refine loopUp [] [.kill 6, .kill 21, .kill 22, .kill 23, .kill 24, .kill 25, .kill 26, .kill 27, .kill 28, .kill 29, .kill 30, .kill 31, .kill 32, .kill 33, .kill 34, .kill 35, .kill 36, .kill 37, .kill 38, .kill 39, .kill 40, .kill 41, .kill 42, .kill 43, .kill 44, .kill 45, .kill 46, .kill 47, .kill 48, .kill 49, .kill 50, .kill 51, .kill 52, .kill 53, .kill 54, .kill 55, .kill 56, .kill 57, .kill 58, .kill 59, .kill 60, .kill 61, .kill 62, .kill 63, .kill 64, .kill 65, .kill 66, .kill 67] (fun k : Nat => [(5, .t (.int .i64 (k : Int)))]) (fun _ => []) (fun k => k ≤ A.length ∧ A.take k = B.take k) (fun k => A.length - k) 0 ⟨Nat.zero_le _, rfl⟩ ?_
  conv => whnf
  refine ⟨⟨rfl, rfl⟩, fun k hk C hC => ?_⟩
  obtain ⟨hk1, hk2⟩ := hk
  have hw : IntKind.i64.wrap ((k : Int) + 1) = (k : Int) + 1 := wrap_i64 ⟨by omega, by omega⟩
  conv => whnf
  repeat' (first
    | (refine brK_true rfl ?_; conv => whnf)
    | (refine brK_false rfl ?_; conv => whnf)
    | (refine brK_true (by assumption) ?_; conv => whnf)
    | (refine brK_false (by assumption) ?_; conv => whnf)
    | (refine brK_true ?_ ?_; (focus (simp only [List.length_nil, fx, rs_len] <;> omega)); conv => whnf)
    | (refine brK_false ?_ ?_; (focus (simp only [List.length_nil, fx, rs_len] <;> omega)); conv => whnf)
    | ((refine brK_of (fun h => ?_) (fun h => ?_)) <;> (have h2 := h; (try simp only [List.length_nil, fx, rs_len] at h2); conv => whnf))
    | (refine reqK_of ?_ ?_; (focus (first | decide | omega | assumption | (simp only [List.length_nil, fx, rs_len] <;> omega) | (simp [keyNew, sameKey, kEq] <;> omega))); conv => whnf)
    | (refine reqK_of ?_ ?_; rotate_left; (conv => whnf); rotate_left)
    | (refine nth_rs ?_ ?_ ?_; (focus (first | omega | (simp only [List.length_nil, fx, rs_len] <;> omega))); (focus (first | omega | (simp only [List.length_nil, fx, rs_len] <;> omega))); conv => whnf)
    | (refine nth_us ?_ ?_ ?_; (focus (first | omega | (simp only [List.length_nil, fx, rs_len] <;> omega))); (focus (first | omega | (simp only [List.length_nil, fx, rs_len] <;> omega))); conv => whnf)
    | (refine nth_is ?_ ?_ ?_; (focus (first | omega | (simp only [List.length_nil, fx, rs_len] <;> omega))); (focus (first | omega | (simp only [List.length_nil, fx, rs_len] <;> omega))); conv => whnf)
    | (refine nth_bs ?_ ?_ ?_; (focus (first | omega | (simp only [List.length_nil, fx, rs_len] <;> omega))); (focus (first | omega | (simp only [List.length_nil, fx, rs_len] <;> omega))); conv => whnf))
  · rw [eqLs_no (k := k) (by omega) (by omega) fun e => h2 (by rw [e])]
  · have hrl : (row A ((k : Int) + 1)).length = (row B ((k : Int) + 1)).length := by omega
    have hma : row A ((k : Int) + 1) ∈ A := by rw [row_at (by omega)]; exact List.getElem_mem _
    have hr1 := (hA _ hma).1
    refine loopUp [] [.kill 41, .kill 42, .kill 43, .kill 44, .kill 45, .kill 46, .kill 47, .kill 48, .kill 49, .kill 50, .kill 51, .kill 52, .kill 53, .kill 54, .kill 55, .kill 56, .kill 57, .kill 58, .kill 59, .kill 60, .kill 61, .kill 62, .kill 63, .kill 64, .kill 65, .kill 66, .kill 67] (fun j : Nat => [(6, .t (.int .i64 (j : Int)))]) (fun _ => []) (fun j => j ≤ (row A ((k : Int) + 1)).length ∧ (row A ((k : Int) + 1)).take j = (row B ((k : Int) + 1)).take j) (fun j => (row A ((k : Int) + 1)).length - j) 0 ⟨Nat.zero_le _, rfl⟩ ?_
    conv => whnf
    refine ⟨⟨rfl, rfl⟩, fun j hj C' hC' => ?_⟩
    obtain ⟨hj1, hj2⟩ := hj
    have hwj : IntKind.i64.wrap ((j : Int) + 1) = (j : Int) + 1 := wrap_i64 ⟨by omega, by omega⟩
    conv => whnf
    repeat' (first
      | (refine brK_true rfl ?_; conv => whnf)
      | (refine brK_false rfl ?_; conv => whnf)
      | (refine brK_true (by assumption) ?_; conv => whnf)
      | (refine brK_false (by assumption) ?_; conv => whnf)
      | (refine brK_true ?_ ?_; (focus (simp only [List.length_nil, fx, rs_len] <;> omega)); conv => whnf)
      | (refine brK_false ?_ ?_; (focus (simp only [List.length_nil, fx, rs_len] <;> omega)); conv => whnf)
      | ((refine brK_of (fun h => ?_) (fun h => ?_)) <;> (have h2 := h; (try simp only [List.length_nil, fx, rs_len] at h2); conv => whnf))
      | (refine reqK_of ?_ ?_; (focus (first | decide | omega | assumption | (simp only [List.length_nil, fx, rs_len] <;> omega) | (simp [keyNew, sameKey, kEq] <;> omega))); conv => whnf)
      | (refine reqK_of ?_ ?_; rotate_left; (conv => whnf); rotate_left)
      | (refine nth_rs ?_ ?_ ?_; (focus (first | omega | (simp only [List.length_nil, fx, rs_len] <;> omega))); (focus (first | omega | (simp only [List.length_nil, fx, rs_len] <;> omega))); conv => whnf)
      | (refine nth_us ?_ ?_ ?_; (focus (first | omega | (simp only [List.length_nil, fx, rs_len] <;> omega))); (focus (first | omega | (simp only [List.length_nil, fx, rs_len] <;> omega))); conv => whnf)
      | (refine nth_is ?_ ?_ ?_; (focus (first | omega | (simp only [List.length_nil, fx, rs_len] <;> omega))); (focus (first | omega | (simp only [List.length_nil, fx, rs_len] <;> omega))); conv => whnf)
      | (refine nth_bs ?_ ?_ ?_; (focus (first | omega | (simp only [List.length_nil, fx, rs_len] <;> omega))); (focus (first | omega | (simp only [List.length_nil, fx, rs_len] <;> omega))); conv => whnf))
    · rw [eqLs_no (k := k) (by omega) (by omega) fun e => absurd (by rw [e]) h2]
    · refine loopC (hC' (j + 1) ⟨by omega, take_nextI hj2 (by omega) (by omega) (by assumption)⟩ (by omega)) ?_
      rw [hwj, Int.natCast_succ]; rfl
    · have hj3 : j = (row A ((k : Int) + 1)).length := by omega
      have he : row A ((k : Int) + 1) = row B ((k : Int) + 1) := by
        rw [← List.take_length (l := row A ((k : Int) + 1)), ← hj3, hj2, hj3, hrl, List.take_length]
      refine loopC (hC (k + 1) ⟨by omega, take_nextL hk2 (by omega) (by omega) he⟩ (by omega)) ?_
      rw [hw, Int.natCast_succ]; rfl
  · have hk3 : k = A.length := by omega
    subst hk3
    have : A = B := by rw [← List.take_length (l := A), hk2, hlr, List.take_length]
    subst this
    rw [show eqLs A A = true by simp [eqLs]]
open Classical in
noncomputable def c28 : List T → Ans
  | [.agg [.int .i64 n, .list 1 xs], .agg [.int .i64 m, .list 1 ys]] => .req (IsH xs ∧ IsH ys) (.bool (hSame n m (rowsOf xs) (rowsOf ys)))
  | _ => .no
theorem got28 {vs : List T} {x : T} (h : Got (c28 vs) x) : FnOk Tryd.prog tgl 28 vs x := by
  unfold c28 at h
  split at h
  · obtain ⟨hq, e⟩ := got_req h; rw [e]; exact ok28 _ _ _ _ hq
  · exact (got_no h).elim
theorem nogl28 (vs : List T) (p : Prop) (d : Decidable p) (sz : Nat) (xs : List T) (h : c28 vs = @Ans.gl p d sz xs) : False := by
  unfold c28 at h
  split at h <;> cases h
theorem pk28 (vs : List T) (p : Prop) (d : Decidable p) (x : T) (h : c28 vs = @Ans.pk p d x) (hp : p) : FnOk Tryd.prog tgl 28 vs x := by
  unfold c28 at h
  split at h
  · cases h
  · cases h
end Go.Nx
end
section
set_option linter.unusedVariables false
set_option linter.unusedSimpArgs false
set_option maxRecDepth 20000
set_option maxHeartbeats 4000000
namespace Go.Nx
open Go Go.RowKit Go.Proofs

theorem agg_nil {n : Int} (S : Cells) (w : World) (u : Value) (h : RelT S w (.agg [.int .i64 n, .nils]) u) : RelT S w (.agg [.int .i64 n, .list 1 []]) u := by
  cases h with
  | agg cs arr hn h =>
    refine .agg _ arr hn fun i c v hc hv => ?_
    match i with
    | 0 => simp at hc; subst hc; exact h 0 _ v rfl hv
    | 1 => simp at hc; subst hc; exact nil_list 1 (h 1 .nils v rfl hv)
    | i + 2 => simp at hc
noncomputable def lH13 : List (Nat × (List T → Ans)) := (7, c7) :: (26, c26) :: (65, c65) :: (64, c64) :: lH6
noncomputable def iH13 : List (Nat × Pt) := iH6
noncomputable abbrev H13 : Env := En tgl lH13 iH13
theorem env_H13 : EnvOk Tryd.prog H13 := (env_fn (env_fn (env_fn (env_fn env_H6 (fun _ _ => got64) (fun vs p d sz xs h _ => (nogl64 vs p d sz xs h).elim) pk64) (fun _ _ => got65) (fun vs p d sz xs h _ => (nogl65 vs p d sz xs h).elim) pk65) (fun _ _ => got26) (fun vs p d sz xs h _ => (nogl26 vs p d sz xs h).elim) pk26) (fun _ _ => got7) (fun vs p d sz xs h _ => (nogl7 vs p d sz xs h).elim) pk7)
def dl (l : List Int) : List (List UInt8) := l.map fun v => (dig v).data.toList
def hPre (n : Int) (L : List (List Int)) (k : Nat) : ByteArray := ⟨((dig n).data.toList ++ ((L.take k).map fun l => 124 :: hRow l).flatten).toArray⟩
theorem ba_eta (b : ByteArray) : (⟨b.data.toList.toArray⟩ : ByteArray) = b := by cases b; rfl
theorem hPre_0 (n : Int) (L : List (List Int)) : hPre n L 0 = dig n := by
  unfold hPre; rw [List.take_zero, List.map_nil, List.flatten_nil, List.append_nil, ba_eta]
theorem ba_ext {a b : ByteArray} (h : a.data.toList = b.data.toList) : a = b := by
  obtain ⟨a⟩ := a
  obtain ⟨b⟩ := b
  congr 1
  exact Array.toList_inj.1 h
theorem ss_snoc {l : List Int} {j : Nat} (h : j < l.length) : ss (dl (l.take j)) ++ [T.str (dig (at0 l (j : Int)))] = ss (dl (l.take (j + 1))) := by
  have e : l[j]? = some (at0 l (j : Int)) := by simp [at0, h]
  unfold ss dl
  rw [List.take_add_one, e]
  simp only [Option.toList_some, List.map_append, List.map_cons, List.map_nil]
theorem join_row (l : List Int) : Lib.join (dl l) [44] = hRow l := by
  unfold hRow dl
  rw [jn_eq]; rfl
theorem hRow_len {l : List Int} (h : ∀ v ∈ l, 0 ≤ v ∧ v ≤ 64) : (hRow l).length ≤ l.length * 3 := by
  rw [← join_row]
  have := join_le (dl l) 2 fun x hx => by
    obtain ⟨v, hv, rfl⟩ := List.mem_map.1 hx
    exact dig_len (h v hv)
  unfold dl at this
  rw [List.length_map] at this
  exact this
theorem flat_len {m : Nat} : ∀ {L : List (List UInt8)}, (∀ l ∈ L, l.length ≤ m) → L.flatten.length ≤ L.length * m
  | [], h => by simp
  | x :: r, h => by
    have h1 := h x (by simp)
    have h2 := flat_len (L := r) fun l hl => h l (by simp [hl])
    rw [List.flatten_cons, List.length_append, List.length_cons, Nat.succ_mul]; omega
theorem hPre_size {n : Int} {L : List (List Int)} (hn : 0 ≤ n ∧ n ≤ 64) (h : ∀ l ∈ L, l.length ≤ 4 ∧ ∀ v ∈ l, 0 ≤ v ∧ v ≤ 64) (k : Nat) : (hPre n L k).size ≤ 2 + L.length * 13 := by
  have h1 := dig_len hn
  have h2 := flat_len (m := 13) (L := (L.take k).map fun l => 124 :: hRow l) fun x hx => by
    obtain ⟨l, hl, rfl⟩ := List.mem_map.1 hx
    have hm := h l (List.mem_of_mem_take hl)
    have := hRow_len hm.2
    rw [List.length_cons]; omega
  rw [List.length_map, List.length_take] at h2
  have h3 : min k L.length * 13 ≤ L.length * 13 := Nat.mul_le_mul_right _ (Nat.min_le_right _ _)
  show (List.toArray _).size ≤ _
  rw [List.size_toArray, List.length_append]
  omega
theorem hPre_succ {n : Int} {L : List (List Int)} {k : Nat} (h : k < L.length) : hPre n L k ++ ((⟨#[124]⟩ : ByteArray) ++ ⟨(hRow (row L ((k : Int) + 1))).toArray⟩) = hPre n L (k + 1) := by
  apply ba_ext
  rw [ByteArray.data_append, ByteArray.data_append, Array.toList_append, Array.toList_append]
  unfold hPre
  rw [row_at h, List.take_add_one, List.getElem?_eq_getElem h]
  show ((dig n).data.toList ++ ((L.take k).map fun l => 124 :: hRow l).flatten) ++ ([124] ++ hRow L[k]) = (dig n).data.toList ++ (((L.take k) ++ [L[k]]).map fun l => 124 :: hRow l).flatten
  rw [List.map_append, List.flatten_append, List.append_assoc]
  simp only [List.map_cons, List.map_nil, List.flatten_cons, List.flatten_nil, List.append_nil, List.singleton_append]
theorem hPre_all {n : Int} {L : List (List Int)} (hr : hRight n L = true) : hPre n L L.length = hTxt n L := by
  unfold hPre hTxt hCat
  rw [if_pos hr, List.take_length]
theorem ok29 (n : Int) (xs : List T) (hq : IsH xs) : FnOk Tryd.prog tgl 29 [.agg [.int .i64 n, .list 1 xs]] (.str (hTxt n (rowsOf xs))) := by
  refine fn_ok (Γ := H13) env_H13 Tryd.func29 low29 ?_
  obtain ⟨L, rfl, hl, hL⟩ := hq
  have hq1 : IsH (rs L) := ⟨L, rfl, hl, hL⟩
  rw [rowsOf_rs]
  cases hr : hRight n L
  · have hr' : hRight n (rowsOf (rs L)) = false := by rw [rowsOf_rs]; exact hr
    conv => whnf
    repeat' (first
      | (refine brK_true rfl ?_; conv => whnf)
      | (refine brK_false rfl ?_; conv => whnf)
      | (refine brK_true (by assumption) ?_; conv => whnf)
      | (refine brK_false (by assumption) ?_; conv => whnf)
      | (refine brK_true ?_ ?_; (focus (simp only [List.length_nil, fx, rs_len, hr'] <;> omega)); conv => whnf)
      | (refine brK_false ?_ ?_; (focus (simp only [List.length_nil, fx, rs_len, hr'] <;> omega)); conv => whnf)
      | ((refine brK_of (fun h => ?_) (fun h => ?_)) <;> (have h2 := h; (try simp only [List.length_nil, fx, rs_len, hr'] at h2); conv => whnf))
      | (refine reqK_of ?_ ?_; (focus (first | decide | omega | assumption | (simp only [List.length_nil, fx, rs_len, hr'] <;> omega) | (simp [keyNew, sameKey, kEq] <;> omega))); conv => whnf)
      | (refine reqK_of ?_ ?_; rotate_left; (conv => whnf); rotate_left)
      | (refine nth_us ?_ ?_ ?_; (focus (first | omega | (simp only [List.length_nil, fx, rs_len, hr'] <;> omega))); (focus (first | omega | (simp only [List.length_nil, fx, rs_len, hr'] <;> omega))); conv => whnf)
      | (refine nth_is ?_ ?_ ?_; (focus (first | omega | (simp only [List.length_nil, fx, rs_len, hr'] <;> omega))); (focus (first | omega | (simp only [List.length_nil, fx, rs_len, hr'] <;> omega))); conv => whnf)
      | (refine nth_bs ?_ ?_ ?_; (focus (first | omega | (simp only [List.length_nil, fx, rs_len, hr'] <;> omega))); (focus (first | omega | (simp only [List.length_nil, fx, rs_len, hr'] <;> omega))); conv => whnf))
    unfold hTxt; rw [if_neg (by rw [hr]; decide)]
  · have hr' : hRight n (rowsOf (rs L)) = true := by rw [rowsOf_rs]; exact hr
    obtain ⟨⟨h1, h2⟩, h3⟩ := right_le hr
    obtain ⟨⟨_, _, h64⟩, h4⟩ := hRight_iff.1 hr
    conv => whnf
    repeat' (first
      | (refine brK_true rfl ?_; conv => whnf)
      | (refine brK_false rfl ?_; conv => whnf)
      | (refine brK_true (by assumption) ?_; conv => whnf)
      | (refine brK_false (by assumption) ?_; conv => whnf)
      | (refine brK_true ?_ ?_; (focus (simp only [List.length_nil, fx, rs_len, hr'] <;> omega)); conv => whnf)
      | (refine brK_false ?_ ?_; (focus (simp only [List.length_nil, fx, rs_len, hr'] <;> omega)); conv => whnf)
      | ((refine brK_of (fun h => ?_) (fun h => ?_)) <;> (have h2 := h; (try simp only [List.length_nil, fx, rs_len, hr'] at h2); conv => whnf))
      | (refine reqK_of ?_ ?_; (focus (first | decide | omega | assumption | (simp only [List.length_nil, fx, rs_len, hr'] <;> omega) | (simp [keyNew, sameKey, kEq] <;> omega))); conv => whnf)
      | (refine reqK_of ?_ ?_; rotate_left; (conv => whnf); rotate_left)
      | (refine nth_us ?_ ?_ ?_; (focus (first | omega | (simp only [List.length_nil, fx, rs_len, hr'] <;> omega))); (focus (first | omega | (simp only [List.length_nil, fx, rs_len, hr'] <;> omega))); conv => whnf)
      | (refine nth_is ?_ ?_ ?_; (focus (first | omega | (simp only [List.length_nil, fx, rs_len, hr'] <;> omega))); (focus (first | omega | (simp only [List.length_nil, fx, rs_len, hr'] <;> omega))); conv => whnf)
      | (refine nth_bs ?_ ?_ ?_; (focus (first | omega | (simp only [List.length_nil, fx, rs_len, hr'] <;> omega))); (focus (first | omega | (simp only [List.length_nil, fx, rs_len, hr'] <;> omega))); conv => whnf))
    refine loopFn [] (fun s => [.kill 5, .kill 6, .kill 8, .kill 19, .kill 20, .kill 21, .kill 22, .kill 23, .kill 24, .kill 25, .kill 26, .kill 27, .kill 28, .kill 29, .kill 30, .kill 31, .kill 32, .kill 33, .kill 34, .kill 35, .kill 36, .kill 37, .kill 38, .kill 39, .keep [65]]) (fun k : Nat => [(3, .t (.str (hPre n L k))), (18, .t (.int .i64 (k : Int)))]) (fun _ => [(65, .cells [.t (.int .i64 n), .t (.list 1 (rs L))])]) (fun k => k ≤ L.length) (fun k => L.length - k) 0 (Nat.zero_le _) ?_
    conv => whnf
    refine ⟨⟨by rw [hPre_0]; rfl, rfl⟩, fun k hk C hC => ?_⟩
    have hw : IntKind.i64.wrap ((k : Int) + 1) = (k : Int) + 1 := wrap_i64 ⟨by omega, by omega⟩
    conv => whnf
    repeat' (first
      | (refine brK_true rfl ?_; conv => whnf)
      | (refine brK_false rfl ?_; conv => whnf)
      | (refine brK_true (by assumption) ?_; conv => whnf)
      | (refine brK_false (by assumption) ?_; conv => whnf)
      | (refine brK_true ?_ ?_; (focus (simp only [List.length_nil, fx, rs_len] <;> omega)); conv => whnf)
      | (refine brK_false ?_ ?_; (focus (simp only [List.length_nil, fx, rs_len] <;> omega)); conv => whnf)
      | ((refine brK_of (fun h => ?_) (fun h => ?_)) <;> (have h2 := h; (try simp only [List.length_nil, fx, rs_len] at h2); conv => whnf))
      | (refine reqK_of ?_ ?_; (focus (first | decide | omega | assumption | (simp only [List.length_nil, fx, rs_len] <;> omega) | (simp [keyNew, sameKey, kEq] <;> omega))); conv => whnf)
      | (refine reqK_of ?_ ?_; rotate_left; (conv => whnf); rotate_left)
      | (refine nth_rs ?_ ?_ ?_; (focus (first | omega | (simp only [List.length_nil, fx, rs_len] <;> omega))); (focus (first | omega | (simp only [List.length_nil, fx, rs_len] <;> omega))); conv => whnf)
      | (refine nth_us ?_ ?_ ?_; (focus (first | omega | (simp only [List.length_nil, fx, rs_len] <;> omega))); (focus (first | omega | (simp only [List.length_nil, fx, rs_len] <;> omega))); conv => whnf)
      | (refine nth_is ?_ ?_ ?_; (focus (first | omega | (simp only [List.length_nil, fx, rs_len] <;> omega))); (focus (first | omega | (simp only [List.length_nil, fx, rs_len] <;> omega))); conv => whnf)
      | (refine nth_bs ?_ ?_ ?_; (focus (first | omega | (simp only [List.length_nil, fx, rs_len] <;> omega))); (focus (first | omega | (simp only [List.length_nil, fx, rs_len] <;> omega))); conv => whnf))
    · have hm : row L ((k : Int) + 1) ∈ L := by rw [row_at (by omega)]; exact List.getElem_mem _
      have hv := (h3 _ hm).2
      have hln := (h4 _ hm).1
      refine loopFn [.adopt 6 1001 1] (fun s => [.kill 8, .kill 25, .kill 26, .kill 27, .kill 28, .kill 29, .kill 30, .kill 31, .kill 32, .kill 33, .keep [96, 65], .ren 96 1001]) (fun j : Nat => [(6, .sl 1001 0 none), (24, .t (.int .i64 (j : Int)))]) (fun j => [(1001, .lst 1 (ss (dl ((row L ((k : Int) + 1)).take j))) 1), (65, .cells [.t (.int .i64 n), .t (.list 1 (rs L))])]) (fun j => j ≤ (row L ((k : Int) + 1)).length) (fun j => (row L ((k : Int) + 1)).length - j) 0 (Nat.zero_le _) ?_
      conv => whnf
      refine ⟨⟨rfl, rfl⟩, fun j hj C' hC' => ?_⟩
      have hwj : IntKind.i64.wrap ((j : Int) + 1) = (j : Int) + 1 := wrap_i64 ⟨by omega, by omega⟩
      have hx : j < (row L ((k : Int) + 1)).length → 0 ≤ at0 (row L ((k : Int) + 1)) (j : Int) ∧ at0 (row L ((k : Int) + 1)) (j : Int) ≤ 64 := fun h => hv _ (at0_mem (by simpa using h))
      have hps := hPre_size (n := n) (L := L) ⟨by omega, by omega⟩ (fun l hl => ⟨by have := (h4 l hl).1; omega, (h3 l hl).2⟩) k
      have hrl := hRow_len hv
      have hu : (row L ((k : Int) + 1)).length ≤ j → Lib.join (unss (subL (ss (dl (List.take j (row L ((k : Int) + 1))))) 0 none)) (⟨#[44]⟩ : ByteArray).data.toList = hRow (row L ((k : Int) + 1)) := fun h => by
        rw [subL_00, unss_ss, List.take_of_length_le h]; exact join_row _
      conv => whnf
      repeat' (first
        | (refine brK_true rfl ?_; conv => whnf)
        | (refine brK_false rfl ?_; conv => whnf)
        | (refine brK_true (by assumption) ?_; conv => whnf)
        | (refine brK_false (by assumption) ?_; conv => whnf)
        | (refine brK_true ?_ ?_; (focus (simp only [List.length_nil, fx] <;> omega)); conv => whnf)
        | (refine brK_false ?_ ?_; (focus (simp only [List.length_nil, fx] <;> omega)); conv => whnf)
        | ((refine brK_of (fun h => ?_) (fun h => ?_)) <;> (have h2 := h; (try simp only [List.length_nil, fx] at h2); conv => whnf))
        | (refine reqK_of ?_ ?_; (focus (first | decide | omega | assumption | (simp only [List.length_nil, fx] <;> omega) | (simp [keyNew, sameKey, kEq] <;> omega))); conv => whnf)
        | (refine reqK_of ?_ ?_; rotate_left; (conv => whnf); rotate_left)
        | (refine nth_us ?_ ?_ ?_; (focus (first | omega | (simp only [List.length_nil, fx] <;> omega))); (focus (first | omega | (simp only [List.length_nil, fx] <;> omega))); conv => whnf)
        | (refine nth_is ?_ ?_ ?_; (focus (first | omega | (simp only [List.length_nil, fx] <;> omega))); (focus (first | omega | (simp only [List.length_nil, fx] <;> omega))); conv => whnf)
        | (refine nth_bs ?_ ?_ ?_; (focus (first | omega | (simp only [List.length_nil, fx] <;> omega))); (focus (first | omega | (simp only [List.length_nil, fx] <;> omega))); conv => whnf))
      · rw [ss_len]; unfold dl maxBytes; rw [List.length_map, List.length_take]; simp only [List.length_cons, List.length_nil]; omega
      · refine loopC (hC' (j + 1) (by omega) (by omega)) ?_
        rw [← ss_snoc (by omega), hwj, Int.natCast_succ]
        rfl
      · have hj' : (row L ((k : Int) + 1)).length ≤ j := by omega
        refine ⟨⟨_, rfl⟩, ?_, ?_⟩
        · rw [subL_00, ss_len]; unfold dl; rw [List.length_map, List.length_take]; omega
        · rw [hu hj']; omega
      · rw [hu (by omega)]
        show (1 : Nat) + (List.toArray _).size ≤ _
        rw [List.size_toArray]; omega
      · rw [hu (by omega), ByteArray.size_append]
        show _ + ((1 : Nat) + (List.toArray _).size) ≤ _
        rw [List.size_toArray]; omega
      · refine loopC (hC (k + 1) (by omega) (by omega)) ?_
        rw [hu (by omega), hPre_succ (by omega), hw, Int.natCast_succ]
        rfl
    · rw [show k = L.length by omega, hPre_all hr]
theorem ok29_2 (n : Int) : FnOk Tryd.prog tgl 29 [.agg [.int .i64 n, .nils]] (.str (hTxt n [])) := by
  exact FnOk.args (ok29 n [] isH_nil) rfl fun i c c' hc hc' S w u hu => by
    match i with
    | 0 => simp at hc hc'; subst hc hc'; exact agg_nil _ _ _ hu
    | i + 1 => simp at hc
open Classical in
noncomputable def c29 : List T → Ans
  | [.agg [.int .i64 n, .list 1 xs]] => .req (IsH xs) (.str (hTxt n (rowsOf xs)))
  | [.agg [.int .i64 n, .nils]] => .yes (.str (hTxt n []))
  | _ => .no
theorem got29 {vs : List T} {x : T} (h : Got (c29 vs) x) : FnOk Tryd.prog tgl 29 vs x := by
  unfold c29 at h
  split at h
  · obtain ⟨hq, e⟩ := got_req h; rw [e]; exact ok29 _ _ hq
  · rw [got_yes h]; exact ok29_2 _
  · exact (got_no h).elim
theorem nogl29 (vs : List T) (p : Prop) (d : Decidable p) (sz : Nat) (xs : List T) (h : c29 vs = @Ans.gl p d sz xs) : False := by
  unfold c29 at h
  split at h <;> cases h
theorem pk29 (vs : List T) (p : Prop) (d : Decidable p) (x : T) (h : c29 vs = @Ans.pk p d x) (hp : p) : FnOk Tryd.prog tgl 29 vs x := by
  unfold c29 at h
  split at h
  · cases h
  · cases h
  · cases h
end Go.Nx
end
section
set_option linter.unusedVariables false
set_option linter.unusedSimpArgs false
set_option maxRecDepth 20000
set_option maxHeartbeats 4000000
namespace Go.Nx
open Go Go.RowKit Go.Proofs

structure Dg where
  m : Nat
  s : List UInt8
theorem dec_step {m : Nat} (h : 9 < m) : Lib.decDigits m = Lib.decDigits (m / 10) ++ [UInt8.ofNat (48 + m % 10)] := by
  rw [Lib.decDigits, dif_neg (by omega)]
theorem dgt10 : ∀ d : Nat, d < 10 → UInt8.ofNat (IntKind.u8.wrap (IntKind.u64.wrap (48 + (d : Int)))).toNat = UInt8.ofNat (48 + d) := by decide +kernel
theorem ok66 (n : Int) (hq : 0 ≤ n ∧ n < 4611686018427387904) : FnOk Tryd.prog tgl 66 [.int .u64 n] (.str (dig n)) := by
  refine fn_ok (Γ := H13) env_H13 Tryd.func66 low66 ?_
  obtain ⟨k, rfl⟩ : ∃ k : Nat, n = k := ⟨n.toNat, by have := hq.1; omega⟩
  have hk : k < 4611686018427387904 := by have := hq.2; omega
  conv => whnf
  repeat' (first
    | (refine brK_true rfl ?_; conv => whnf)
    | (refine brK_false rfl ?_; conv => whnf)
    | (refine brK_true (by assumption) ?_; conv => whnf)
    | (refine brK_false (by assumption) ?_; conv => whnf)
    | (refine brK_true ?_ ?_; (focus (simp only [List.length_nil, fx] <;> omega)); conv => whnf)
    | (refine brK_false ?_ ?_; (focus (simp only [List.length_nil, fx] <;> omega)); conv => whnf)
    | ((refine brK_of (fun h => ?_) (fun h => ?_)) <;> (have h2 := h; (try simp only [List.length_nil, fx] at h2); conv => whnf))
    | (refine reqK_of ?_ ?_; (focus (first | decide | omega | assumption | (simp only [List.length_nil, fx] <;> omega) | (simp [keyNew, sameKey, kEq] <;> omega))); conv => whnf)
    | (refine reqK_of ?_ ?_; rotate_left; (conv => whnf); rotate_left)
    | (refine nth_us ?_ ?_ ?_; (focus (first | omega | (simp only [List.length_nil, fx] <;> omega))); (focus (first | omega | (simp only [List.length_nil, fx] <;> omega))); conv => whnf)
    | (refine nth_is ?_ ?_ ?_; (focus (first | omega | (simp only [List.length_nil, fx] <;> omega))); (focus (first | omega | (simp only [List.length_nil, fx] <;> omega))); conv => whnf)
    | (refine nth_bs ?_ ?_ ?_; (focus (first | omega | (simp only [List.length_nil, fx] <;> omega))); (focus (first | omega | (simp only [List.length_nil, fx] <;> omega))); conv => whnf))
  refine loopUp [] [.kill 4, .kill 5, .kill 6, .kill 7, .kill 8, .kill 9, .kill 10, .kill 11, .kill 12, .kill 13, .kill 14, .kill 15] (fun a : Dg => [(0, .t (.int .u64 (a.m : Int))), (3, .t (.str ⟨a.s.toArray⟩))]) (fun _ => []) (fun a => a.s.length + a.m ≤ k ∧ Lib.decDigits k = Lib.decDigits a.m ++ a.s) (fun a => a.m) ⟨k, []⟩ ⟨by simp, by simp⟩ ?_
  conv => whnf
  refine ⟨⟨rfl, rfl⟩, fun a ha C hC => ?_⟩
  obtain ⟨ha1, ha2⟩ := ha
  have hsz : ∀ x : UInt8, (⟨[x].toArray⟩ : ByteArray).size + (⟨a.s.toArray⟩ : ByteArray).size = 1 + a.s.length := fun x => rfl
  have hm : (a.m : Int).tmod 10 = ((a.m % 10 : Nat) : Int) := by rw [Int.tmod_eq_emod_of_nonneg (by omega)]; rfl
  have hd : (a.m : Int).tdiv 10 = ((a.m / 10 : Nat) : Int) := by rw [Int.tdiv_eq_ediv_of_nonneg (by omega)]; rfl
  conv => whnf
  repeat' (first
    | (refine brK_true rfl ?_; conv => whnf)
    | (refine brK_false rfl ?_; conv => whnf)
    | (refine brK_true (by assumption) ?_; conv => whnf)
    | (refine brK_false (by assumption) ?_; conv => whnf)
    | (refine brK_true ?_ ?_; (focus (simp only [List.length_nil, fx] <;> omega)); conv => whnf)
    | (refine brK_false ?_ ?_; (focus (simp only [List.length_nil, fx] <;> omega)); conv => whnf)
    | ((refine brK_of (fun h => ?_) (fun h => ?_)) <;> (have h2 := h; (try simp only [List.length_nil, fx] at h2); conv => whnf))
    | (refine reqK_of ?_ ?_; (focus (first | decide | omega | assumption | (simp only [List.length_nil, fx] <;> omega) | (simp [keyNew, sameKey, kEq] <;> omega))); conv => whnf)
    | (refine reqK_of ?_ ?_; rotate_left; (conv => whnf); rotate_left)
    | (refine nth_us ?_ ?_ ?_; (focus (first | omega | (simp only [List.length_nil, fx] <;> omega))); (focus (first | omega | (simp only [List.length_nil, fx] <;> omega))); conv => whnf)
    | (refine nth_is ?_ ?_ ?_; (focus (first | omega | (simp only [List.length_nil, fx] <;> omega))); (focus (first | omega | (simp only [List.length_nil, fx] <;> omega))); conv => whnf)
    | (refine nth_bs ?_ ?_ ?_; (focus (first | omega | (simp only [List.length_nil, fx] <;> omega))); (focus (first | omega | (simp only [List.length_nil, fx] <;> omega))); conv => whnf))
  · show (⟨[_].toArray⟩ : ByteArray).size + (⟨a.s.toArray⟩ : ByteArray).size ≤ _
    rw [hsz]; omega
  · refine loopC (hC ⟨a.m / 10, UInt8.ofNat (48 + a.m % 10) :: a.s⟩ ⟨?_, ?_⟩ (by simp only; omega)) ?_
    · simp only [List.length_cons]; omega
    · rw [ha2, dec_step (by omega)]; simp
    · have e : (⟨(List.map (fun n : Int => UInt8.ofNat n.toNat) [IntKind.u8.wrap (IntKind.u64.wrap (48 + ((a.m % 10 : Nat) : Int)))]).toArray⟩ : ByteArray) ++ (⟨a.s.toArray⟩ : ByteArray) = ⟨(UInt8.ofNat (48 + a.m % 10) :: a.s).toArray⟩ := by
        apply ba_ext
        rw [ByteArray.data_append, Array.toList_append]
        show [UInt8.ofNat _] ++ a.s = _
        rw [dgt10 _ (Nat.mod_lt _ (by decide))]; rfl
      rw [hm, hd, wrap_u64 (n := ((a.m / 10 : Nat) : Int)) ⟨by omega, by omega⟩, e]
      rfl
  · show (⟨[_].toArray⟩ : ByteArray).size + (⟨a.s.toArray⟩ : ByteArray).size ≤ _
    rw [hsz]; omega
  · congr 1
    unfold dig
    apply ba_ext
    rw [ByteArray.data_append, Array.toList_append]
    show [UInt8.ofNat _] ++ a.s = Lib.decDigits _
    rw [Int.toNat_natCast, ha2, Lib.decDigits_one (by omega), dgt10 _ (by omega)]
open Classical in
noncomputable def c66 : List T → Ans
  | [.int .u64 n] => .req (0 ≤ n ∧ n < 4611686018427387904) (.str (dig n))
  | _ => .no
theorem got66 {vs : List T} {x : T} (h : Got (c66 vs) x) : FnOk Tryd.prog tgl 66 vs x := by
  unfold c66 at h
  split at h
  · obtain ⟨hq, e⟩ := got_req h; rw [e]; exact ok66 _ hq
  · exact (got_no h).elim
theorem nogl66 (vs : List T) (p : Prop) (d : Decidable p) (sz : Nat) (xs : List T) (h : c66 vs = @Ans.gl p d sz xs) : False := by
  unfold c66 at h
  split at h <;> cases h
theorem pk66 (vs : List T) (p : Prop) (d : Decidable p) (x : T) (h : c66 vs = @Ans.pk p d x) (hp : p) : FnOk Tryd.prog tgl 66 vs x := by
  unfold c66 at h
  split at h
  · cases h
  · cases h
noncomputable def lH14 : List (Nat × (List T → Ans)) := (66, c66) :: lH13
noncomputable def iH14 : List (Nat × Pt) := iH13
noncomputable abbrev H14 : Env := En tgl lH14 iH14
theorem env_H14 : EnvOk Tryd.prog H14 := (env_fn env_H13 (fun _ _ => got66) (fun vs p d sz xs h _ => (nogl66 vs p d sz xs h).elim) pk66)
def rPre (l : List Int) (j : Nat) : List UInt8 := hRow (l.take j)
theorem rPre_1 {l : List Int} (h : 0 < l.length) : rPre l 1 = (dig (at0 l 0)).data.toList := by
  cases l with
  | nil => simp at h
  | cons x r => simp [rPre, hRow, jn, at0]
theorem jn_snoc (c : UInt8) : ∀ (l : List (List UInt8)) (x : List UInt8), l ≠ [] → jn c (l ++ [x]) = jn c l ++ c :: x
  | [], x, h => absurd rfl h
  | [y], x, h => rfl
  | y :: z :: r, x, h => by
    have ih := jn_snoc c (z :: r) x (by simp)
    rw [List.cons_append, jn_cons c y (by simp), ih, jn_cons c y (by simp)]
    simp
theorem rPre_succ {l : List Int} {j : Nat} (h : j < l.length) (h0 : 0 < j) : rPre l (j + 1) = rPre l j ++ 44 :: (dig (at0 l (j : Int))).data.toList := by
  unfold rPre hRow
  have e : l[j]? = some (at0 l (j : Int)) := by simp [at0, h]
  rw [List.take_add_one, e, Option.toList_some, List.map_append, List.map_cons, List.map_nil, jn_snoc]
  intro e; have := congrArg List.length e; rw [List.length_map, List.length_take, List.length_nil] at this; omega
def tPre (n : Int) (L : List (List Int)) (k j : Nat) : ByteArray := ⟨((hPre n L k).data.toList ++ 124 :: rPre (row L ((k : Int) + 1)) j).toArray⟩
theorem tPre_size {n : Int} {L : List (List Int)} (hn : 0 ≤ n ∧ n ≤ 64) (h : ∀ l ∈ L, l.length ≤ 4 ∧ ∀ v ∈ l, 0 ≤ v ∧ v ≤ 64) {k : Nat} (hk : k < L.length) (j : Nat) : (tPre n L k j).size ≤ 20 + L.length * 13 := by
  have h1 := hPre_size hn h k
  have hm : row L ((k : Int) + 1) ∈ L := by rw [row_at hk]; exact List.getElem_mem _
  have h2 := hRow_len (l := (row L ((k : Int) + 1)).take j) fun v hv => (h _ hm).2 v (List.mem_of_mem_take hv)
  have h3 := (h _ hm).1
  have h4 : (hPre n L k).data.toList.length = (hPre n L k).size := by rw [Array.length_toList]; rfl
  show (List.toArray _).size ≤ _
  rw [List.size_toArray, List.length_append, List.length_cons, h4]
  unfold rPre
  rw [List.length_take] at h2
  omega
theorem tPre_0 (n : Int) (L : List (List Int)) (k : Nat) : hPre n L k ++ (⟨#[124]⟩ : ByteArray) = tPre n L k 0 := by
  apply ba_ext
  rw [ByteArray.data_append, Array.toList_append]
  rfl
theorem tPre_1 {n : Int} {L : List (List Int)} {k : Nat} (h : 0 < (row L ((k : Int) + 1)).length) : tPre n L k 0 ++ dig (at0 (row L ((k : Int) + 1)) 0) = tPre n L k 1 := by
  apply ba_ext
  rw [ByteArray.data_append, Array.toList_append]
  unfold tPre
  rw [rPre_1 h]
  show ((hPre n L k).data.toList ++ 124 :: []) ++ (dig _).data.toList = (hPre n L k).data.toList ++ 124 :: (dig _).data.toList
  rw [List.append_assoc]; rfl
theorem tPre_succ {n : Int} {L : List (List Int)} {k j : Nat} (h : j < (row L ((k : Int) + 1)).length) (h0 : 0 < j) : tPre n L k j ++ (⟨#[44]⟩ : ByteArray) ++ dig (at0 (row L ((k : Int) + 1)) (j : Int)) = tPre n L k (j + 1) := by
  apply ba_ext
  rw [ByteArray.data_append, Array.toList_append, ByteArray.data_append, Array.toList_append]
  unfold tPre
  rw [rPre_succ h h0]
  show (((hPre n L k).data.toList ++ 124 :: rPre _ j) ++ [44]) ++ (dig _).data.toList = (hPre n L k).data.toList ++ 124 :: (rPre _ j ++ 44 :: (dig _).data.toList)
  simp only [List.append_assoc, List.cons_append, List.nil_append]
theorem tPre_all {n : Int} {L : List (List Int)} {k j : Nat} (hk : k < L.length) (h : (row L ((k : Int) + 1)).length ≤ j) : tPre n L k j = hPre n L (k + 1) := by
  rw [← hPre_succ hk]
  apply ba_ext
  rw [ByteArray.data_append, ByteArray.data_append, Array.toList_append, Array.toList_append]
  unfold tPre rPre
  rw [List.take_of_length_le h]; rfl
theorem ok30 (n : Int) (xs : List T) (hq : IsH xs) : FnOk Tryd.prog tgl 30 [.agg [.int .i64 n, .list 1 xs]] (.str (hTxt n (rowsOf xs))) := by
  refine fn_ok (Γ := H14) env_H14 Tryd.func30 low30 ?_
  obtain ⟨L, rfl, hl, hL⟩ := hq
  have hq1 : IsH (rs L) := ⟨L, rfl, hl, hL⟩
  rw [rowsOf_rs]
  cases hr : hRight n L
  · have hr' : hRight n (rowsOf (rs L)) = false := by rw [rowsOf_rs]; exact hr
    conv => whnf
    repeat' (first
      | (refine brK_true rfl ?_; conv => whnf)
      | (refine brK_false rfl ?_; conv => whnf)
      | (refine brK_true (by assumption) ?_; conv => whnf)
      | (refine brK_false (by assumption) ?_; conv => whnf)
      | (refine brK_true ?_ ?_; (focus (simp only [List.length_nil, fx, rs_len, hr'] <;> omega)); conv => whnf)
      | (refine brK_false ?_ ?_; (focus (simp only [List.length_nil, fx, rs_len, hr'] <;> omega)); conv => whnf)
      | ((refine brK_of (fun h => ?_) (fun h => ?_)) <;> (have h2 := h; (try simp only [List.length_nil, fx, rs_len, hr'] at h2); conv => whnf))
      | (refine reqK_of ?_ ?_; (focus (first | decide | omega | assumption | (simp only [List.length_nil, fx, rs_len, hr'] <;> omega) | (simp [keyNew, sameKey, kEq] <;> omega))); conv => whnf)
      | (refine reqK_of ?_ ?_; rotate_left; (conv => whnf); rotate_left)
      | (refine nth_us ?_ ?_ ?_; (focus (first | omega | (simp only [List.length_nil, fx, rs_len, hr'] <;> omega))); (focus (first | omega | (simp only [List.length_nil, fx, rs_len, hr'] <;> omega))); conv => whnf)
      | (refine nth_is ?_ ?_ ?_; (focus (first | omega | (simp only [List.length_nil, fx, rs_len, hr'] <;> omega))); (focus (first | omega | (simp only [List.length_nil, fx, rs_len, hr'] <;> omega))); conv => whnf)
      | (refine nth_bs ?_ ?_ ?_; (focus (first | omega | (simp only [List.length_nil, fx, rs_len, hr'] <;> omega))); (focus (first | omega | (simp only [List.length_nil, fx, rs_len, hr'] <;> omega))); conv => whnf))
    unfold hTxt; rw [if_neg (by rw [hr]; decide)]
  · have hr' : hRight n (rowsOf (rs L)) = true := by rw [rowsOf_rs]; exact hr
    obtain ⟨⟨h1, h2⟩, h3⟩ := right_le hr
    obtain ⟨⟨_, _, h64⟩, h4⟩ := hRight_iff.1 hr
    have hwn : IntKind.u64.wrap n = n := wrap_u64 (by unfold R64; omega)
    conv => whnf
    repeat' (first
      | (refine brK_true rfl ?_; conv => whnf)
      | (refine brK_false rfl ?_; conv => whnf)
      | (refine brK_true (by assumption) ?_; conv => whnf)
      | (refine brK_false (by assumption) ?_; conv => whnf)
      | (refine brK_true ?_ ?_; (focus (simp only [List.length_nil, fx, rs_len, hr', hwn] <;> omega)); conv => whnf)
      | (refine brK_false ?_ ?_; (focus (simp only [List.length_nil, fx, rs_len, hr', hwn] <;> omega)); conv => whnf)
      | ((refine brK_of (fun h => ?_) (fun h => ?_)) <;> (have h2 := h; (try simp only [List.length_nil, fx, rs_len, hr', hwn] at h2); conv => whnf))
      | (refine reqK_of ?_ ?_; (focus (first | decide | omega | assumption | (simp only [List.length_nil, fx, rs_len, hr', hwn] <;> omega) | (simp [keyNew, sameKey, kEq] <;> omega))); conv => whnf)
      | (refine reqK_of ?_ ?_; rotate_left; (conv => whnf); rotate_left)
      | (refine nth_us ?_ ?_ ?_; (focus (first | omega | (simp only [List.length_nil, fx, rs_len, hr', hwn] <;> omega))); (focus (first | omega | (simp only [List.length_nil, fx, rs_len, hr', hwn] <;> omega))); conv => whnf)
      | (refine nth_is ?_ ?_ ?_; (focus (first | omega | (simp only [List.length_nil, fx, rs_len, hr', hwn] <;> omega))); (focus (first | omega | (simp only [List.length_nil, fx, rs_len, hr', hwn] <;> omega))); conv => whnf)
      | (refine nth_bs ?_ ?_ ?_; (focus (first | omega | (simp only [List.length_nil, fx, rs_len, hr', hwn] <;> omega))); (focus (first | omega | (simp only [List.length_nil, fx, rs_len, hr', hwn] <;> omega))); conv => whnf))
    refine loopUp [] [.kill 5, .kill 13, .kill 14, .kill 15, .kill 16, .kill 17, .kill 18, .kill 19, .kill 20, .kill 21, .kill 22, .kill 23, .kill 24, .kill 25, .kill 26, .kill 27, .kill 28, .kill 29, .kill 30, .kill 31, .kill 32, .kill 33, .kill 34, .kill 35, .kill 36, .kill 37, .kill 38, .kill 39, .kill 40, .kill 41, .kill 42, .kill 43, .kill 44, .kill 45, .kill 46, .kill 47] (fun k : Nat => [(3, .t (.str (hPre n L k))), (4, .t (.int .i64 (k : Int)))]) (fun _ => []) (fun k => k ≤ L.length) (fun k => L.length - k) 0 (Nat.zero_le _) ?_
    conv => whnf
    refine ⟨⟨by rw [hPre_0, hwn]; rfl, rfl⟩, fun k hk C hC => ?_⟩
    have hw : IntKind.i64.wrap ((k : Int) + 1) = (k : Int) + 1 := wrap_i64 ⟨by omega, by omega⟩
    have hps := hPre_size (n := n) (L := L) ⟨by omega, by omega⟩ (fun l hl => ⟨by have := (h4 l hl).1; omega, (h3 l hl).2⟩) k
    have e1 : (⟨#[124]⟩ : ByteArray).size = 1 := rfl
    have e2 : (⟨#[44]⟩ : ByteArray).size = 1 := rfl
    conv => whnf
    repeat' (first
      | (refine brK_true rfl ?_; conv => whnf)
      | (refine brK_false rfl ?_; conv => whnf)
      | (refine brK_true (by assumption) ?_; conv => whnf)
      | (refine brK_false (by assumption) ?_; conv => whnf)
      | (refine brK_true ?_ ?_; (focus (simp only [List.length_nil, fx, rs_len] <;> omega)); conv => whnf)
      | (refine brK_false ?_ ?_; (focus (simp only [List.length_nil, fx, rs_len] <;> omega)); conv => whnf)
      | ((refine brK_of (fun h => ?_) (fun h => ?_)) <;> (have h2 := h; (try simp only [List.length_nil, fx, rs_len] at h2); conv => whnf))
      | (refine reqK_of ?_ ?_; (focus (first | decide | omega | assumption | (simp only [List.length_nil, fx, rs_len] <;> omega) | (simp [keyNew, sameKey, kEq] <;> omega))); conv => whnf)
      | (refine reqK_of ?_ ?_; rotate_left; (conv => whnf); rotate_left)
      | (refine nth_rs ?_ ?_ ?_; (focus (first | omega | (simp only [List.length_nil, fx, rs_len] <;> omega))); (focus (first | omega | (simp only [List.length_nil, fx, rs_len] <;> omega))); conv => whnf)
      | (refine nth_us ?_ ?_ ?_; (focus (first | omega | (simp only [List.length_nil, fx, rs_len] <;> omega))); (focus (first | omega | (simp only [List.length_nil, fx, rs_len] <;> omega))); conv => whnf)
      | (refine nth_is ?_ ?_ ?_; (focus (first | omega | (simp only [List.length_nil, fx, rs_len] <;> omega))); (focus (first | omega | (simp only [List.length_nil, fx, rs_len] <;> omega))); conv => whnf)
      | (refine nth_bs ?_ ?_ ?_; (focus (first | omega | (simp only [List.length_nil, fx, rs_len] <;> omega))); (focus (first | omega | (simp only [List.length_nil, fx, rs_len] <;> omega))); conv => whnf))
    · have hm : row L ((k : Int) + 1) ∈ L := by rw [row_at (by omega)]; exact List.getElem_mem _
      have hv := (h3 _ hm).2
      have hln := (h4 _ hm).1
      refine loopUp [] [.kill 22, .kill 23, .kill 24, .kill 25, .kill 26, .kill 27, .kill 28, .kill 29, .kill 30, .kill 31, .kill 32, .kill 33, .kill 34, .kill 35, .kill 36, .kill 37, .kill 38, .kill 39, .kill 40, .kill 41, .kill 42, .kill 43, .kill 44, .kill 45, .kill 46, .kill 47] (fun j : Nat => [(3, .t (.str (tPre n L k j))), (5, .t (.int .i64 (j : Int)))]) (fun _ => []) (fun j => j ≤ (row L ((k : Int) + 1)).length) (fun j => (row L ((k : Int) + 1)).length - j) 0 (Nat.zero_le _) ?_
      conv => whnf
      refine ⟨⟨by rw [← tPre_0]; rfl, rfl⟩, fun j hj C' hC' => ?_⟩
      have hwj : IntKind.i64.wrap ((j : Int) + 1) = (j : Int) + 1 := wrap_i64 ⟨by omega, by omega⟩
      have hts := tPre_size (n := n) (L := L) ⟨by omega, by omega⟩ (fun l hl => ⟨by have := (h4 l hl).1; omega, (h3 l hl).2⟩) (k := k) (by omega) j
      have hx : j < (row L ((k : Int) + 1)).length → 0 ≤ at0 (row L ((k : Int) + 1)) (j : Int) ∧ at0 (row L ((k : Int) + 1)) (j : Int) ≤ 64 := fun h => hv _ (at0_mem (by simpa using h))
      have hwx : j < (row L ((k : Int) + 1)).length → IntKind.u64.wrap (at0 (row L ((k : Int) + 1)) (j : Int)) = at0 (row L ((k : Int) + 1)) (j : Int) := fun h => wrap_u64 (by have := hx h; unfold R64; omega)
      have hds : j < (row L ((k : Int) + 1)).length → (dig (at0 (row L ((k : Int) + 1)) (j : Int))).size ≤ 2 := fun h => by
        have := dig_len (hx h)
        show (dig _).data.size ≤ 2
        rw [← Array.length_toList]; exact this
      conv => whnf
      repeat' (first
        | (refine brK_true rfl ?_; conv => whnf)
        | (refine brK_false rfl ?_; conv => whnf)
        | (refine brK_true (by assumption) ?_; conv => whnf)
        | (refine brK_false (by assumption) ?_; conv => whnf)
        | (refine brK_true ?_ ?_; (focus (simp only [List.length_nil, fx, rs_len] <;> omega)); conv => whnf)
        | (refine brK_false ?_ ?_; (focus (simp only [List.length_nil, fx, rs_len] <;> omega)); conv => whnf)
        | ((refine brK_of (fun h => ?_) (fun h => ?_)) <;> (have h2 := h; (try simp only [List.length_nil, fx, rs_len] at h2); conv => whnf))
        | (refine reqK_of ?_ ?_; (focus (first | decide | omega | assumption | (simp only [List.length_nil, fx, rs_len] <;> omega) | (simp [keyNew, sameKey, kEq] <;> omega))); conv => whnf)
        | (refine reqK_of ?_ ?_; rotate_left; (conv => whnf); rotate_left)
        | (refine nth_rs ?_ ?_ ?_; (focus (first | omega | (simp only [List.length_nil, fx, rs_len] <;> omega))); (focus (first | omega | (simp only [List.length_nil, fx, rs_len] <;> omega))); conv => whnf)
        | (refine nth_us ?_ ?_ ?_; (focus (first | omega | (simp only [List.length_nil, fx, rs_len] <;> omega))); (focus (first | omega | (simp only [List.length_nil, fx, rs_len] <;> omega))); conv => whnf)
        | (refine nth_is ?_ ?_ ?_; (focus (first | omega | (simp only [List.length_nil, fx, rs_len] <;> omega))); (focus (first | omega | (simp only [List.length_nil, fx, rs_len] <;> omega))); conv => whnf)
        | (refine nth_bs ?_ ?_ ?_; (focus (first | omega | (simp only [List.length_nil, fx, rs_len] <;> omega))); (focus (first | omega | (simp only [List.length_nil, fx, rs_len] <;> omega))); conv => whnf))
      · rw [hwx (by omega), ByteArray.size_append, e2]; have := hds (by omega); omega
      · refine loopC (hC' (j + 1) (by omega) (by omega)) ?_
        rw [hwx (by omega), tPre_succ (by omega) (by omega), hwj, Int.natCast_succ]
        rfl
      · rw [hwx (by omega)]; have := hds (by omega); omega
      · obtain rfl : j = 0 := by omega
        refine loopC (hC' 1 (by omega) (by omega)) ?_
        rw [hwx (by omega), show (((0 : Nat)) : Int) = 0 from rfl, tPre_1 (by omega)]
        rfl
      · refine loopC (hC (k + 1) (by omega) (by omega)) ?_
        rw [tPre_all (by omega) (by omega), hw, Int.natCast_succ]
        rfl
    · rw [show k = L.length by omega, hPre_all hr]
theorem ok30_2 (n : Int) : FnOk Tryd.prog tgl 30 [.agg [.int .i64 n, .nils]] (.str (hTxt n [])) := by
  exact FnOk.args (ok30 n [] isH_nil) rfl fun i c c' hc hc' S w u hu => by
    match i with
    | 0 => simp at hc hc'; subst hc hc'; exact agg_nil _ _ _ hu
    | i + 1 => simp at hc
open Classical in
noncomputable def c30 : List T → Ans
  | [.agg [.int .i64 n, .list 1 xs]] => .req (IsH xs) (.str (hTxt n (rowsOf xs)))
  | [.agg [.int .i64 n, .nils]] => .yes (.str (hTxt n []))
  | _ => .no
theorem got30 {vs : List T} {x : T} (h : Got (c30 vs) x) : FnOk Tryd.prog tgl 30 vs x := by
  unfold c30 at h
  split at h
  · obtain ⟨hq, e⟩ := got_req h; rw [e]; exact ok30 _ _ hq
  · rw [got_yes h]; exact ok30_2 _
  · exact (got_no h).elim
theorem nogl30 (vs : List T) (p : Prop) (d : Decidable p) (sz : Nat) (xs : List T) (h : c30 vs = @Ans.gl p d sz xs) : False := by
  unfold c30 at h
  split at h <;> cases h
theorem pk30 (vs : List T) (p : Prop) (d : Decidable p) (x : T) (h : c30 vs = @Ans.pk p d x) (hp : p) : FnOk Tryd.prog tgl 30 vs x := by
  unfold c30 at h
  split at h
  · cases h
  · cases h
  · cases h
end Go.Nx
end
