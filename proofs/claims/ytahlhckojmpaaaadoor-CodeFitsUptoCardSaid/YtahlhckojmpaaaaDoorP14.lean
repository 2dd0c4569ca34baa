/-
  A part of the machine, and of what is walked.
-/
import Derived.Test.YtahlhckojmpaaaaDoorP13
import Derived.Shelf.Strings.Builder1
import Derived.Shelf.Strings.Builder2
import Derived.Shelf.Strings.OnBuilder
import Derived.Shelf.Small.Strs
import Derived.Shelf.Utf8.RuneCount
import Derived.Shelf.Strconv.Atoi
import Derived.Shelf.Strconv.Itoa0
import Derived.Shelf.Strconv.Itoa1
import Derived.Shelf.LaysM
import Derived.Shelf.Strconv.Itoa2
import Derived.Shelf.Strconv.Itoa3
import Derived.Shelf.Strconv.AtoiErrFast
import Derived.Shelf.Strconv.ParseIntEmpty
import Derived.Shelf.Strconv.AtoiFail
import Derived.Shelf.Strconv.Clone
import Derived.Shelf.Strconv.SyntaxError
import Derived.Shelf.LaysC
import Derived.Shelf.Strconv.ToError
import Derived.Shelf.Strconv.AtoiErr
import Derived.Shelf.Strconv.Lower
import Derived.Shelf.Strconv.ParseUint10
import Derived.Shelf.Strconv.ParseUint10Empty
import Derived.Shelf.Strconv.ParseUint10Any
import Derived.Shelf.Strconv.ParseInt10
import Derived.Shelf.Strconv.AtoiLong
import Derived.Shelf.Strconv.AtoiInnerAll
import Derived.Shelf.Strconv.RangeError
import Derived.Shelf.Strconv.ToErrorRange
import Derived.Shelf.Strconv.AtoiAll
import Derived.Shelf.Strings.Search1
import Derived.Shelf.Strings.Search2
import Derived.Shelf.Strings.Search3
import Derived.Shelf.Strings.Cut
import Derived.Shelf.Strings.Count
import Derived.Shelf.Strings.Shaped
import Derived.Shelf.Strings.Split
import Derived.Shelf.Strings.SplitShaped
import Derived.Shelf.Unicode.Decode
import Derived.Shelf.Strings.RuneCount
import Derived.Shelf.Strings.Explode
import Derived.Shelf.Unicode.DecodeSlow
import Derived.Shelf.Unicode.DecodeAny
import Derived.Ground.Names2Prog
import Derived.Shelf.Slices.Clone
import Derived.Ground.SlgnProg
import Derived.Shelf.SlicesE.Clone
import Derived.Shelf.Strings.SplitCore
import Derived.Lib.SplitLaws
section
set_option linter.unusedVariables false
set_option linter.unusedSimpArgs false
namespace Go.Proofs
open Go.Shelf
def Tryd.lays156_ren : Go.Shelf.Ren := ⟨fun | 156 => 56 | 165 => 78 | 166 => 79 | 169 => 80 | 240 => 88 | 241 => 89 | 276 => 101 | 277 => 102 | n => n, fun | 31 => 85 | 9 => 9 | 3 => 3 | 4 => 4 | 0 => 0 | 20 => 20 | 72 => 117 | 76 => 121 | 70 => 115 | 37 => 46 | 75 => 120 | 127 => 139 | 164 => 149 | 5 => 5 | 80 => 123 | n => n, fun | n => n⟩
theorem Tryd.lays156 : Go.Proofs.Lays.n156 Tryd.prog Tryd.lays156_ren := {
  mixed := by kernel_rfl
  f156 := Tryd.func56.trans (congrArg some (by kernel_rfl))
  f165 := Tryd.func78.trans (congrArg some (by kernel_rfl))
  f166 := Tryd.func79.trans (congrArg some (by kernel_rfl))
  f169 := Tryd.func80.trans (congrArg some (by kernel_rfl))
  f240 := Tryd.func88.trans (congrArg some (by kernel_rfl))
  f241 := Tryd.func89.trans (congrArg some (by kernel_rfl))
  f276 := Tryd.func101.trans (congrArg some (by kernel_rfl))
  f277 := Tryd.func102.trans (congrArg some (by kernel_rfl))
  t0 := Tryd.underlying0
  a0 := Tryd.isAgg0
  z0 := Tryd.sizeOf0
  v0 := Tryd.zeroValue0
  t3 := Tryd.underlying3
  a3 := Tryd.isAgg3
  z3 := Tryd.sizeOf3
  v3 := Tryd.zeroValue3
  t4 := Tryd.underlying4
  a4 := Tryd.isAgg4
  z4 := Tryd.sizeOf4
  v4 := Tryd.zeroValue4
  t9 := Tryd.underlying9
  a9 := Tryd.isAgg9
  z9 := Tryd.sizeOf9
  v9 := Tryd.zeroValue9
  t20 := Tryd.underlying20
  a20 := Tryd.isAgg20
  z20 := Tryd.sizeOf20
  v20 := Tryd.zeroValue20
  t31 := Tryd.underlying85
  a31 := Tryd.isAgg85
  z31 := Tryd.sizeOf85
  v31 := Tryd.zeroValue85
  t37 := Tryd.underlying46
  a37 := Tryd.isAgg46
  z37 := Tryd.sizeOf46
  v37 := Tryd.zeroValue46
  t70 := Tryd.underlying115
  a70 := Tryd.isAgg115
  z70 := Tryd.sizeOf115
  v70 := Tryd.zeroValue115
  t72 := Tryd.underlying117
  a72 := Tryd.isAgg117
  z72 := Tryd.sizeOf117
  v72 := Tryd.zeroValue117
  t75 := Tryd.underlying120
  a75 := Tryd.isAgg120
  z75 := Tryd.sizeOf120
  v75 := Tryd.zeroValue120
  t76 := Tryd.underlying121
  a76 := Tryd.isAgg121
  z76 := Tryd.sizeOf121
  v76 := Tryd.zeroValue121
  t127 := Tryd.underlying139
  a127 := Tryd.isAgg139
  z127 := Tryd.sizeOf139
  v127 := Tryd.zeroValue139
  t164 := Tryd.underlying149
  a164 := Tryd.isAgg149
  z164 := Tryd.sizeOf149
  v164 := Tryd.zeroValue149 }
theorem Tryd.Builder_Extra_156 : Builder.Extra Tryd.prog Tryd.lays156_ren := {
  sizeBuilder := by kernel_rfl
  liesBuilder := by kernel_rfl
  t5 := Tryd.underlying5
  a5 := Tryd.isAgg5
  z5 := Tryd.sizeOf5
  v5 := Tryd.zeroValue5
  infoByte := by kernel_rfl
  cellsByte := by kernel_rfl
  sizeByte := by kernel_rfl
  neB5 := by decide }
open Go.RowKit in
theorem Tryd.strings_Join_none (a : Option Addr) (c : Nat) (sep : ByteArray) (w : World) :
    Calls Tryd.prog 56 #[.slice a 0 c, .string sep] w fun e w' => e = .returned (.string ⟨#[]⟩) ∧ w' = w := Any.strings_Join_none Tryd.lays156 Tryd.Builder_Extra_156 a c sep w
open Go.RowKit in
theorem Tryd.strings_Join (bk o c : Nat) (xs : List ByteArray) (sep : ByteArray) (w : World) (hcells : ∀ (j : Nat) x, xs[j]? = some x → w.cell? ⟨bk, o + j, none⟩ = some (.string x)) (hbk : bk < w.heap.size) (hN : xs.length ≤ 140737488355328) (hcap : xs.length ≤ c) (hlen : (Lib.join (xs.map (·.data.toList)) sep.data.toList).length ≤ 140737488355328) :
    Calls Tryd.prog 56 #[.slice (some ⟨bk, o, none⟩) xs.length c, .string sep] w fun e w' => e = .returned (.string ⟨(Lib.join (xs.map (·.data.toList)) sep.data.toList).toArray⟩) ∧ Below w.heap.size w w' := Any.strings_Join Tryd.lays156 Tryd.Builder_Extra_156 bk o c xs sep w hcells hbk hN hcap hlen
def Tryd.lays137_ren : Go.Shelf.Ren := ⟨fun | 137 => 96 | 217 => 112 | 266 => 125 | n => n, fun | 9 => 9 | 5 => 5 | 3 => 3 | n => n, fun | n => n⟩
theorem Tryd.lays137 : Go.Proofs.Lays.n137 Tryd.prog Tryd.lays137_ren := {
  mixed := by kernel_rfl
  f137 := Tryd.func96.trans (congrArg some (by kernel_rfl))
  f217 := Tryd.func112.trans (congrArg some (by kernel_rfl))
  f266 := Tryd.func125.trans (congrArg some (by kernel_rfl))
  t3 := Tryd.underlying3
  a3 := Tryd.isAgg3
  z3 := Tryd.sizeOf3
  v3 := Tryd.zeroValue3
  t5 := Tryd.underlying5
  a5 := Tryd.isAgg5
  z5 := Tryd.sizeOf5
  v5 := Tryd.zeroValue5
  t9 := Tryd.underlying9
  a9 := Tryd.isAgg9
  z9 := Tryd.sizeOf9
  v9 := Tryd.zeroValue9 }
open Go.RowKit in
theorem Tryd.strings_IndexByte (s : ByteArray) (c : Int) (w : World) :
    Calls Tryd.prog 96 #[.string s, .int .u8 c] w fun e w' => e = .returned (.int .i64 (Lib.indexByte s.data.toList c.toNat.toUInt8)) ∧ w' = w := Any.strings_IndexByte Tryd.lays137 s c w
def Tryd.lays171_ren : Go.Shelf.Ren := ⟨fun | 171 => 54 | 243 => 77 | 246 => 87 | 283 => 97 | 284 => 98 | 285 => 99 | 286 => 100 | 129 => 114 | 317 => 113 | 318 => 115 | 319 => 116 | 320 => 117 | 337 => 126 | 338 => 127 | n => n, fun | 3 => 3 | 9 => 9 | 2 => 2 | 4 => 4 | 171 => 144 | 0 => 0 | 53 => 112 | 37 => 46 | 5 => 5 | 173 => 147 | 212 => 162 | 51 => 163 | 20 => 20 | 213 => 164 | 46 => 165 | 232 => 184 | 233 => 185 | n => n, fun | 17 => 0 | 18 => 6 | 19 => 7 | n => n⟩
theorem Tryd.lays171 : Go.Proofs.Lays.n171 Tryd.prog Tryd.lays171_ren := {
  mixed := by kernel_rfl
  f129 := Tryd.func114.trans (congrArg some (by kernel_rfl))
  f171 := Tryd.func54.trans (congrArg some (by kernel_rfl))
  f243 := Tryd.func77.trans (congrArg some (by kernel_rfl))
  f246 := Tryd.func87.trans (congrArg some (by kernel_rfl))
  f283 := Tryd.func97.trans (congrArg some (by kernel_rfl))
  f284 := Tryd.func98.trans (congrArg some (by kernel_rfl))
  f285 := Tryd.func99.trans (congrArg some (by kernel_rfl))
  f286 := Tryd.func100.trans (congrArg some (by kernel_rfl))
  f317 := Tryd.func113.trans (congrArg some (by kernel_rfl))
  f318 := Tryd.func115.trans (congrArg some (by kernel_rfl))
  f319 := Tryd.func116.trans (congrArg some (by kernel_rfl))
  f320 := Tryd.func117.trans (congrArg some (by kernel_rfl))
  f337 := Tryd.func126.trans (congrArg some (by kernel_rfl))
  f338 := Tryd.func127.trans (congrArg some (by kernel_rfl))
  t0 := Tryd.underlying0
  a0 := Tryd.isAgg0
  z0 := Tryd.sizeOf0
  v0 := Tryd.zeroValue0
  t2 := Tryd.underlying2
  a2 := Tryd.isAgg2
  z2 := Tryd.sizeOf2
  v2 := Tryd.zeroValue2
  t3 := Tryd.underlying3
  a3 := Tryd.isAgg3
  z3 := Tryd.sizeOf3
  v3 := Tryd.zeroValue3
  t4 := Tryd.underlying4
  a4 := Tryd.isAgg4
  z4 := Tryd.sizeOf4
  v4 := Tryd.zeroValue4
  t5 := Tryd.underlying5
  a5 := Tryd.isAgg5
  z5 := Tryd.sizeOf5
  v5 := Tryd.zeroValue5
  t9 := Tryd.underlying9
  a9 := Tryd.isAgg9
  z9 := Tryd.sizeOf9
  v9 := Tryd.zeroValue9
  t20 := Tryd.underlying20
  a20 := Tryd.isAgg20
  z20 := Tryd.sizeOf20
  v20 := Tryd.zeroValue20
  t37 := Tryd.underlying46
  a37 := Tryd.isAgg46
  z37 := Tryd.sizeOf46
  v37 := Tryd.zeroValue46
  t46 := Tryd.underlying165
  a46 := Tryd.isAgg165
  z46 := Tryd.sizeOf165
  v46 := Tryd.zeroValue165
  t51 := Tryd.underlying163
  a51 := Tryd.isAgg163
  z51 := Tryd.sizeOf163
  v51 := Tryd.zeroValue163
  t53 := Tryd.underlying112
  a53 := Tryd.isAgg112
  z53 := Tryd.sizeOf112
  v53 := Tryd.zeroValue112
  t171 := Tryd.underlying144
  a171 := Tryd.isAgg144
  z171 := Tryd.sizeOf144
  v171 := Tryd.zeroValue144
  t173 := Tryd.underlying147
  a173 := Tryd.isAgg147
  z173 := Tryd.sizeOf147
  v173 := Tryd.zeroValue147
  t212 := Tryd.underlying162
  a212 := Tryd.isAgg162
  z212 := Tryd.sizeOf162
  v212 := Tryd.zeroValue162
  t213 := Tryd.underlying164
  a213 := Tryd.isAgg164
  z213 := Tryd.sizeOf164
  t232 := Tryd.underlying184
  a232 := Tryd.isAgg184
  z232 := Tryd.sizeOf184
  v232 := Tryd.zeroValue184
  t233 := Tryd.underlying185
  a233 := Tryd.isAgg185
  z233 := Tryd.sizeOf185
  v233 := Tryd.zeroValue185
  g17 := by kernel_rfl
  g18 := by kernel_rfl
  g19 := by kernel_rfl }
open Go.RowKit Go.Sort Go.Lib in
theorem Tryd.strconv_Itoa_small (i : Nat) (hi : i < 100) (w : World) :
    Calls Tryd.prog 54 #[.int .i64 i] w fun e w' => e = .returned (.string ⟨(Lib.decDigits i).toArray⟩) ∧ w' = w := Any.strconv_Itoa_small Tryd.lays171 i hi w
def Tryd.laysC172_ren : Go.Shelf.Ren := ⟨fun | 172 => 82 | 244 => 93 | 245 => 94 | 247 => 107 | 279 => 108 | 280 => 109 | 281 => 110 | 282 => 111 | 287 => 122 | 316 => 123 | 171 => 54 | 205 => 124 | 321 => 129 | 322 => 130 | 243 => 77 | 246 => 87 | 283 => 97 | 284 => 98 | 285 => 99 | 286 => 100 | 129 => 114 | 317 => 113 | 318 => 115 | 319 => 116 | 320 => 117 | 337 => 126 | 338 => 127 | n => n, fun | 9 => 9 | 3 => 3 | 75 => 120 | 76 => 121 | 4 => 4 | 5 => 5 | 167 => 154 | 37 => 46 | 0 => 0 | 85 => 155 | 2 => 2 | 168 => 157 | 53 => 112 | 175 => 167 | 46 => 165 | 210 => 171 | 127 => 139 | 145 => 183 | 143 => 181 | 21 => 21 | 171 => 144 | 173 => 147 | 212 => 162 | 51 => 163 | 20 => 20 | 213 => 164 | 232 => 184 | 233 => 185 | 80 => 123 | n => n, fun | 15 => 2 | 16 => 3 | 17 => 0 | 18 => 6 | 19 => 7 | n => n⟩
theorem Tryd.laysC172 : Go.Proofs.LaysC.n172 Tryd.prog Tryd.laysC172_ren := {
  mixed := by kernel_rfl
  f129 := Tryd.func114.trans (congrArg some (by kernel_rfl))
  f171 := Tryd.func54.trans (congrArg some (by kernel_rfl))
  f172 := Tryd.func82.trans (congrArg some (by kernel_rfl))
  f205 := Tryd.func124.trans (congrArg some (by kernel_rfl))
  f243 := Tryd.func77.trans (congrArg some (by kernel_rfl))
  f244 := Tryd.func93.trans (congrArg some (by kernel_rfl))
  f245 := Tryd.func94.trans (congrArg some (by kernel_rfl))
  f246 := Tryd.func87.trans (congrArg some (by kernel_rfl))
  f247 := Tryd.func107.trans (congrArg some (by kernel_rfl))
  f279 := Tryd.func108.trans (congrArg some (by kernel_rfl))
  f280 := Tryd.func109.trans (congrArg some (by kernel_rfl))
  f281 := Tryd.func110.trans (congrArg some (by kernel_rfl))
  f282 := Tryd.func111.trans (congrArg some (by kernel_rfl))
  f283 := Tryd.func97.trans (congrArg some (by kernel_rfl))
  f284 := Tryd.func98.trans (congrArg some (by kernel_rfl))
  f285 := Tryd.func99.trans (congrArg some (by kernel_rfl))
  f286 := Tryd.func100.trans (congrArg some (by kernel_rfl))
  f287 := Tryd.func122.trans (congrArg some (by kernel_rfl))
  f316 := Tryd.func123.trans (congrArg some (by kernel_rfl))
  f317 := Tryd.func113.trans (congrArg some (by kernel_rfl))
  f318 := Tryd.func115.trans (congrArg some (by kernel_rfl))
  f319 := Tryd.func116.trans (congrArg some (by kernel_rfl))
  f320 := Tryd.func117.trans (congrArg some (by kernel_rfl))
  f321 := Tryd.func129.trans (congrArg some (by kernel_rfl))
  f322 := Tryd.func130.trans (congrArg some (by kernel_rfl))
  f337 := Tryd.func126.trans (congrArg some (by kernel_rfl))
  f338 := Tryd.func127.trans (congrArg some (by kernel_rfl))
  t0 := Tryd.underlying0
  a0 := Tryd.isAgg0
  z0 := Tryd.sizeOf0
  v0 := Tryd.zeroValue0
  t2 := Tryd.underlying2
  a2 := Tryd.isAgg2
  z2 := Tryd.sizeOf2
  v2 := Tryd.zeroValue2
  t3 := Tryd.underlying3
  a3 := Tryd.isAgg3
  z3 := Tryd.sizeOf3
  v3 := Tryd.zeroValue3
  t4 := Tryd.underlying4
  a4 := Tryd.isAgg4
  z4 := Tryd.sizeOf4
  v4 := Tryd.zeroValue4
  t5 := Tryd.underlying5
  a5 := Tryd.isAgg5
  z5 := Tryd.sizeOf5
  v5 := Tryd.zeroValue5
  t9 := Tryd.underlying9
  a9 := Tryd.isAgg9
  z9 := Tryd.sizeOf9
  v9 := Tryd.zeroValue9
  t20 := Tryd.underlying20
  a20 := Tryd.isAgg20
  z20 := Tryd.sizeOf20
  v20 := Tryd.zeroValue20
  t21 := Tryd.underlying21
  a21 := Tryd.isAgg21
  z21 := Tryd.sizeOf21
  v21 := Tryd.zeroValue21
  t37 := Tryd.underlying46
  a37 := Tryd.isAgg46
  z37 := Tryd.sizeOf46
  v37 := Tryd.zeroValue46
  t46 := Tryd.underlying165
  a46 := Tryd.isAgg165
  z46 := Tryd.sizeOf165
  v46 := Tryd.zeroValue165
  t51 := Tryd.underlying163
  a51 := Tryd.isAgg163
  z51 := Tryd.sizeOf163
  v51 := Tryd.zeroValue163
  t53 := Tryd.underlying112
  a53 := Tryd.isAgg112
  z53 := Tryd.sizeOf112
  v53 := Tryd.zeroValue112
  t75 := Tryd.underlying120
  a75 := Tryd.isAgg120
  z75 := Tryd.sizeOf120
  v75 := Tryd.zeroValue120
  t76 := Tryd.underlying121
  a76 := Tryd.isAgg121
  z76 := Tryd.sizeOf121
  v76 := Tryd.zeroValue121
  t85 := Tryd.underlying155
  a85 := Tryd.isAgg155
  z85 := Tryd.sizeOf155
  v85 := Tryd.zeroValue155
  t127 := Tryd.underlying139
  a127 := Tryd.isAgg139
  z127 := Tryd.sizeOf139
  v127 := Tryd.zeroValue139
  t143 := Tryd.underlying181
  a143 := Tryd.isAgg181
  z143 := Tryd.sizeOf181
  v143 := Tryd.zeroValue181
  t145 := Tryd.underlying183
  a145 := Tryd.isAgg183
  z145 := Tryd.sizeOf183
  v145 := Tryd.zeroValue183
  t167 := Tryd.underlying154
  a167 := Tryd.isAgg154
  z167 := Tryd.sizeOf154
  v167 := Tryd.zeroValue154
  t168 := Tryd.underlying157
  a168 := Tryd.isAgg157
  z168 := Tryd.sizeOf157
  v168 := Tryd.zeroValue157
  t171 := Tryd.underlying144
  a171 := Tryd.isAgg144
  z171 := Tryd.sizeOf144
  v171 := Tryd.zeroValue144
  t173 := Tryd.underlying147
  a173 := Tryd.isAgg147
  z173 := Tryd.sizeOf147
  v173 := Tryd.zeroValue147
  t175 := Tryd.underlying167
  a175 := Tryd.isAgg167
  z175 := Tryd.sizeOf167
  v175 := Tryd.zeroValue167
  t210 := Tryd.underlying171
  a210 := Tryd.isAgg171
  z210 := Tryd.sizeOf171
  v210 := Tryd.zeroValue171
  t212 := Tryd.underlying162
  a212 := Tryd.isAgg162
  z212 := Tryd.sizeOf162
  v212 := Tryd.zeroValue162
  t213 := Tryd.underlying164
  a213 := Tryd.isAgg164
  z213 := Tryd.sizeOf164
  t232 := Tryd.underlying184
  a232 := Tryd.isAgg184
  z232 := Tryd.sizeOf184
  v232 := Tryd.zeroValue184
  t233 := Tryd.underlying185
  a233 := Tryd.isAgg185
  z233 := Tryd.sizeOf185
  v233 := Tryd.zeroValue185
  g15 := by kernel_rfl
  g16 := by kernel_rfl
  g17 := by kernel_rfl
  g18 := by kernel_rfl
  g19 := by kernel_rfl
  t80 := Tryd.underlying123
  a80 := Tryd.isAgg123
  z80 := Tryd.sizeOf123
  v80 := Tryd.zeroValue123
  i0 := by kernel_rfl
  i2 := by kernel_rfl
  i3 := by kernel_rfl
  i4 := by kernel_rfl
  i5 := by kernel_rfl
  i9 := by kernel_rfl
  i20 := by kernel_rfl
  i21 := by kernel_rfl
  i37 := by kernel_rfl
  i46 := by kernel_rfl
  i51 := by kernel_rfl
  i53 := by kernel_rfl
  i75 := by kernel_rfl
  i76 := by kernel_rfl
  i80 := by kernel_rfl
  i85 := by kernel_rfl
  i127 := by kernel_rfl
  i143 := by kernel_rfl
  i145 := by kernel_rfl
  i167 := by kernel_rfl
  i168 := by kernel_rfl
  i171 := by kernel_rfl
  i173 := by kernel_rfl
  i175 := by kernel_rfl
  i210 := by kernel_rfl
  i212 := by kernel_rfl
  i232 := by kernel_rfl
  i233 := by kernel_rfl
  m15 := by kernel_rfl
  m16 := by kernel_rfl
  m17 := by kernel_rfl
  m18 := by kernel_rfl
  m19 := by kernel_rfl
  c0 := by kernel_rfl
  c2 := by kernel_rfl
  c3 := by kernel_rfl
  c4 := by kernel_rfl
  c5 := by kernel_rfl
  c9 := by kernel_rfl
  c20 := by kernel_rfl
  c21 := by kernel_rfl
  c37 := by kernel_rfl
  c46 := by kernel_rfl
  c51 := by kernel_rfl
  c53 := by kernel_rfl
  c75 := by kernel_rfl
  c76 := by kernel_rfl
  c80 := by kernel_rfl
  c85 := by kernel_rfl
  c127 := by kernel_rfl
  c143 := by kernel_rfl
  c145 := by kernel_rfl
  c167 := by kernel_rfl
  c168 := by kernel_rfl
  c171 := by kernel_rfl
  c173 := by kernel_rfl
  c175 := by kernel_rfl
  c210 := by kernel_rfl
  c212 := by kernel_rfl
  c213 := by kernel_rfl
  c232 := by kernel_rfl
  c233 := by kernel_rfl }
open Go.RowKit in
theorem Tryd.strconv_Atoi_ok (s : ByteArray) (hmax : s.size ≤ 9223372036854775806) (v : Int) (h : Lib.atoiAll s.data.toList = .ok v) (w : World) :
    Calls Tryd.prog 82 #[.string s] w fun e w' => e = .returned (.tuple #[.int .i64 v, .nilIface]) ∧ (w' = w ∨ ∃ t, w' = Lib.bytesWorld w 5 t) := Any.strconv_Atoi_ok Tryd.laysC172 s hmax v h w
open Go.RowKit in
theorem Tryd.strconv_Atoi_range (s : ByteArray) (hlim : s.size ≤ 281474976710656) (h : Lib.atoiAll s.data.toList = .range) (ev : Value) (w : World) (hv : w.cell? ⟨3, 0, none⟩ = some ev) (hev : ev = .nilIface ∨ ∃ te pe, ev = .iface te pe) :
    Calls Tryd.prog 82 #[.string s] w fun e w' => ∃ N, e = .returned (.tuple #[.int .i64 (Lib.atoiSat s.data.toList), .iface 157 (.pointer (some ⟨N, 0, none⟩))]) ∧ w.heap.size ≤ N ∧ w'.heap[N]? = some (.cells #[.string ⟨#[65, 116, 111, 105]⟩, .string s, ev] 171 (0, 0)) ∧ Below w.heap.size w w' := Any.strconv_Atoi_range Tryd.laysC172 s hlim h ev w hv hev
def Tryd.lays143_ren : Go.Shelf.Ren := ⟨fun | 143 => 92 | 219 => 106 | 217 => 112 | 225 => 119 | 224 => 120 | 267 => 121 | 266 => 125 | 314 => 128 | n => n, fun | 9 => 9 | 3 => 3 | 4 => 4 | 5 => 5 | 46 => 165 | 146 => 178 | 51 => 163 | n => n, fun | 1 => 1 | n => n⟩
theorem Tryd.lays143 : Go.Proofs.Lays.n143 Tryd.prog Tryd.lays143_ren := {
  mixed := by kernel_rfl
  f143 := Tryd.func92.trans (congrArg some (by kernel_rfl))
  f217 := Tryd.func112.trans (congrArg some (by kernel_rfl))
  f219 := Tryd.func106.trans (congrArg some (by kernel_rfl))
  f224 := Tryd.func120.trans (congrArg some (by kernel_rfl))
  f225 := Tryd.func119.trans (congrArg some (by kernel_rfl))
  f266 := Tryd.func125.trans (congrArg some (by kernel_rfl))
  f267 := Tryd.func121.trans (congrArg some (by kernel_rfl))
  f314 := Tryd.func128.trans (congrArg some (by kernel_rfl))
  t3 := Tryd.underlying3
  a3 := Tryd.isAgg3
  z3 := Tryd.sizeOf3
  v3 := Tryd.zeroValue3
  t4 := Tryd.underlying4
  a4 := Tryd.isAgg4
  z4 := Tryd.sizeOf4
  v4 := Tryd.zeroValue4
  t5 := Tryd.underlying5
  a5 := Tryd.isAgg5
  z5 := Tryd.sizeOf5
  v5 := Tryd.zeroValue5
  t9 := Tryd.underlying9
  a9 := Tryd.isAgg9
  z9 := Tryd.sizeOf9
  v9 := Tryd.zeroValue9
  t46 := Tryd.underlying165
  a46 := Tryd.isAgg165
  z46 := Tryd.sizeOf165
  v46 := Tryd.zeroValue165
  t51 := Tryd.underlying163
  a51 := Tryd.isAgg163
  z51 := Tryd.sizeOf163
  v51 := Tryd.zeroValue163
  t146 := Tryd.underlying178
  a146 := Tryd.isAgg178
  z146 := Tryd.sizeOf178
  v146 := Tryd.zeroValue178
  g1 := by kernel_rfl }
open Go.RowKit Go.Lib in
theorem Tryd.strings_Index_one (s : ByteArray) (c : UInt8) (w : World) :
    Calls Tryd.prog 92 #[.string s, .string ⟨#[c]⟩] w fun e w' => e = .returned (.int .i64 (Lib.indexByte s.data.toList c)) ∧ w' = w := Any.strings_Index_one Tryd.lays143 s c w
def Tryd.lays145_ren : Go.Shelf.Ren := ⟨fun | 145 => 85 | 220 => 95 | 219 => 106 | 217 => 112 | 225 => 119 | 224 => 120 | 267 => 121 | 266 => 125 | 314 => 128 | n => n, fun | 9 => 9 | 4 => 4 | 59 => 127 | 3 => 3 | 5 => 5 | 46 => 165 | 146 => 178 | 51 => 163 | n => n, fun | 1 => 1 | n => n⟩
theorem Tryd.lays145 : Go.Proofs.Lays.n145 Tryd.prog Tryd.lays145_ren := {
  mixed := by kernel_rfl
  f145 := Tryd.func85.trans (congrArg some (by kernel_rfl))
  f217 := Tryd.func112.trans (congrArg some (by kernel_rfl))
  f219 := Tryd.func106.trans (congrArg some (by kernel_rfl))
  f220 := Tryd.func95.trans (congrArg some (by kernel_rfl))
  f224 := Tryd.func120.trans (congrArg some (by kernel_rfl))
  f225 := Tryd.func119.trans (congrArg some (by kernel_rfl))
  f266 := Tryd.func125.trans (congrArg some (by kernel_rfl))
  f267 := Tryd.func121.trans (congrArg some (by kernel_rfl))
  f314 := Tryd.func128.trans (congrArg some (by kernel_rfl))
  t3 := Tryd.underlying3
  a3 := Tryd.isAgg3
  z3 := Tryd.sizeOf3
  v3 := Tryd.zeroValue3
  t4 := Tryd.underlying4
  a4 := Tryd.isAgg4
  z4 := Tryd.sizeOf4
  v4 := Tryd.zeroValue4
  t5 := Tryd.underlying5
  a5 := Tryd.isAgg5
  z5 := Tryd.sizeOf5
  v5 := Tryd.zeroValue5
  t9 := Tryd.underlying9
  a9 := Tryd.isAgg9
  z9 := Tryd.sizeOf9
  v9 := Tryd.zeroValue9
  t46 := Tryd.underlying165
  a46 := Tryd.isAgg165
  z46 := Tryd.sizeOf165
  v46 := Tryd.zeroValue165
  t51 := Tryd.underlying163
  a51 := Tryd.isAgg163
  z51 := Tryd.sizeOf163
  v51 := Tryd.zeroValue163
  t59 := Tryd.underlying127
  a59 := Tryd.isAgg127
  z59 := Tryd.sizeOf127
  v59 := Tryd.zeroValue127
  t146 := Tryd.underlying178
  a146 := Tryd.isAgg178
  z146 := Tryd.sizeOf178
  v146 := Tryd.zeroValue178
  g1 := by kernel_rfl }
open Go.RowKit Go.Lib in
theorem Tryd.strings_Cut (s sep : ByteArray) (m : Int) (w : World) (hs : s.size < 4294967281) (hm : w.cell? ⟨1, 0, none⟩ = some (.int .i64 m)) :
    Calls Tryd.prog 85 #[.string s, .string sep] w fun e w' => e = .returned (.tuple #[.string ⟨(Lib.cut s.data.toList sep.data.toList).1.toArray⟩, .string ⟨(Lib.cut s.data.toList sep.data.toList).2.1.toArray⟩, .bool (Lib.cut s.data.toList sep.data.toList).2.2]) ∧ ∃ n, w' = w.drewN n := Any.strings_Cut Tryd.lays145 s sep m w hs hm
def Tryd.lays138_ren : Go.Shelf.Ren := ⟨fun | 138 => 91 | 195 => 103 | 218 => 105 | 143 => 92 | 219 => 106 | 217 => 112 | 225 => 119 | 224 => 120 | 267 => 121 | 266 => 125 | 314 => 128 | n => n, fun | 9 => 9 | 3 => 3 | 4 => 4 | 5 => 5 | 0 => 0 | 46 => 165 | 146 => 178 | 51 => 163 | n => n, fun | 1 => 1 | n => n⟩
theorem Tryd.lays138 : Go.Proofs.Lays.n138 Tryd.prog Tryd.lays138_ren := {
  mixed := by kernel_rfl
  f138 := Tryd.func91.trans (congrArg some (by kernel_rfl))
  f143 := Tryd.func92.trans (congrArg some (by kernel_rfl))
  f195 := Tryd.func103.trans (congrArg some (by kernel_rfl))
  f217 := Tryd.func112.trans (congrArg some (by kernel_rfl))
  f218 := Tryd.func105.trans (congrArg some (by kernel_rfl))
  f219 := Tryd.func106.trans (congrArg some (by kernel_rfl))
  f224 := Tryd.func120.trans (congrArg some (by kernel_rfl))
  f225 := Tryd.func119.trans (congrArg some (by kernel_rfl))
  f266 := Tryd.func125.trans (congrArg some (by kernel_rfl))
  f267 := Tryd.func121.trans (congrArg some (by kernel_rfl))
  f314 := Tryd.func128.trans (congrArg some (by kernel_rfl))
  t0 := Tryd.underlying0
  a0 := Tryd.isAgg0
  z0 := Tryd.sizeOf0
  v0 := Tryd.zeroValue0
  t3 := Tryd.underlying3
  a3 := Tryd.isAgg3
  z3 := Tryd.sizeOf3
  v3 := Tryd.zeroValue3
  t4 := Tryd.underlying4
  a4 := Tryd.isAgg4
  z4 := Tryd.sizeOf4
  v4 := Tryd.zeroValue4
  t5 := Tryd.underlying5
  a5 := Tryd.isAgg5
  z5 := Tryd.sizeOf5
  v5 := Tryd.zeroValue5
  t9 := Tryd.underlying9
  a9 := Tryd.isAgg9
  z9 := Tryd.sizeOf9
  v9 := Tryd.zeroValue9
  t46 := Tryd.underlying165
  a46 := Tryd.isAgg165
  z46 := Tryd.sizeOf165
  v46 := Tryd.zeroValue165
  t51 := Tryd.underlying163
  a51 := Tryd.isAgg163
  z51 := Tryd.sizeOf163
  v51 := Tryd.zeroValue163
  t146 := Tryd.underlying178
  a146 := Tryd.isAgg178
  z146 := Tryd.sizeOf178
  v146 := Tryd.zeroValue178
  g1 := by kernel_rfl }
open Go.RowKit Go.Lib in
theorem Tryd.strings_Count_one (s : ByteArray) (c : UInt8) (w : World) :
    Calls Tryd.prog 91 #[.string s, .string ⟨#[c]⟩] w fun e w' => e = .returned (.int .i64 (Lib.countByte s.data.toList c)) ∧ w' = w := Any.strings_Count_one Tryd.lays138 s c w
def Tryd.lays221_ren : Go.Shelf.Ren := ⟨fun | 221 => 81 | 268 => 90 | 138 => 91 | 143 => 92 | 195 => 103 | 197 => 104 | 218 => 105 | 219 => 106 | 260 => 118 | 217 => 112 | 225 => 119 | 224 => 120 | 267 => 121 | 266 => 125 | 314 => 128 | n => n, fun | 9 => 9 | 3 => 3 | 31 => 85 | 4 => 4 | 0 => 0 | 105 => 152 | 21 => 21 | 5 => 5 | 46 => 165 | 119 => 174 | 139 => 177 | 138 => 176 | 146 => 178 | 51 => 163 | n => n, fun | 1 => 1 | 3 => 4 | 4 => 5 | n => n⟩
theorem Tryd.lays221 : Go.Proofs.Lays.n221 Tryd.prog Tryd.lays221_ren := {
  mixed := by kernel_rfl
  f138 := Tryd.func91.trans (congrArg some (by kernel_rfl))
  f143 := Tryd.func92.trans (congrArg some (by kernel_rfl))
  f195 := Tryd.func103.trans (congrArg some (by kernel_rfl))
  f197 := Tryd.func104.trans (congrArg some (by kernel_rfl))
  f217 := Tryd.func112.trans (congrArg some (by kernel_rfl))
  f218 := Tryd.func105.trans (congrArg some (by kernel_rfl))
  f219 := Tryd.func106.trans (congrArg some (by kernel_rfl))
  f221 := Tryd.func81.trans (congrArg some (by kernel_rfl))
  f224 := Tryd.func120.trans (congrArg some (by kernel_rfl))
  f225 := Tryd.func119.trans (congrArg some (by kernel_rfl))
  f260 := Tryd.func118.trans (congrArg some (by kernel_rfl))
  f266 := Tryd.func125.trans (congrArg some (by kernel_rfl))
  f267 := Tryd.func121.trans (congrArg some (by kernel_rfl))
  f268 := Tryd.func90.trans (congrArg some (by kernel_rfl))
  f314 := Tryd.func128.trans (congrArg some (by kernel_rfl))
  t0 := Tryd.underlying0
  a0 := Tryd.isAgg0
  z0 := Tryd.sizeOf0
  v0 := Tryd.zeroValue0
  t3 := Tryd.underlying3
  a3 := Tryd.isAgg3
  z3 := Tryd.sizeOf3
  v3 := Tryd.zeroValue3
  t4 := Tryd.underlying4
  a4 := Tryd.isAgg4
  z4 := Tryd.sizeOf4
  v4 := Tryd.zeroValue4
  t5 := Tryd.underlying5
  a5 := Tryd.isAgg5
  z5 := Tryd.sizeOf5
  v5 := Tryd.zeroValue5
  t9 := Tryd.underlying9
  a9 := Tryd.isAgg9
  z9 := Tryd.sizeOf9
  v9 := Tryd.zeroValue9
  t21 := Tryd.underlying21
  a21 := Tryd.isAgg21
  z21 := Tryd.sizeOf21
  v21 := Tryd.zeroValue21
  t31 := Tryd.underlying85
  a31 := Tryd.isAgg85
  z31 := Tryd.sizeOf85
  v31 := Tryd.zeroValue85
  t46 := Tryd.underlying165
  a46 := Tryd.isAgg165
  z46 := Tryd.sizeOf165
  v46 := Tryd.zeroValue165
  t51 := Tryd.underlying163
  a51 := Tryd.isAgg163
  z51 := Tryd.sizeOf163
  v51 := Tryd.zeroValue163
  t105 := Tryd.underlying152
  a105 := Tryd.isAgg152
  z105 := Tryd.sizeOf152
  v105 := Tryd.zeroValue152
  t119 := Tryd.underlying174
  a119 := Tryd.isAgg174
  z119 := Tryd.sizeOf174
  t138 := Tryd.underlying176
  a138 := Tryd.isAgg176
  z138 := Tryd.sizeOf176
  v138 := Tryd.zeroValue176
  t139 := Tryd.underlying177
  a139 := Tryd.isAgg177
  z139 := Tryd.sizeOf177
  v139 := Tryd.zeroValue177
  t146 := Tryd.underlying178
  a146 := Tryd.isAgg178
  z146 := Tryd.sizeOf178
  v146 := Tryd.zeroValue178
  g1 := by kernel_rfl
  g3 := by kernel_rfl
  g4 := by kernel_rfl }
open Go.RowKit Go.Lib in
theorem Tryd.strings_genSplit (s sep : ByteArray) (sv : Nat) (n : Int) (N : Nat) (m : Int) (w : World) (hs : s.size < 4294967281) (hm : w.cell? ⟨1, 0, none⟩ = some (.int .i64 m)) (h1 : 1 ≤ sep.size) (hsv : sv ≤ sep.size) (hn0 : n ≠ 0) (hn63 : n ≤ 9223372036854775807) (hN : (N : Int) = min (if n < 0 then (Lib.countB s sep : Int) + 1 else n) ((s.size : Int) + 1)) :
    Calls Tryd.prog 81 #[.string s, .string sep, .int .i64 sv, .int .i64 n] w fun e w' =>
      e = .returned (.slice (some ⟨w.heap.size, 0, none⟩) (Lib.splitB sep sv (N - 1) s).length N) ∧ w' = w.alloc (.cells (Lib.cellsOf (Lib.splitB sep sv (N - 1) s) N) 9) := Any.strings_genSplit Tryd.lays221 (by kernel_rfl) s sep sv n N m w hs hm h1 hsv hn0 hn63 hN
def Tryd.lays146_ren : Go.Shelf.Ren := ⟨fun | 146 => 64 | 221 => 81 | 268 => 90 | 138 => 91 | 143 => 92 | 195 => 103 | 197 => 104 | 218 => 105 | 219 => 106 | 260 => 118 | 217 => 112 | 225 => 119 | 224 => 120 | 267 => 121 | 266 => 125 | 314 => 128 | n => n, fun | 9 => 9 | 31 => 85 | 3 => 3 | 4 => 4 | 0 => 0 | 105 => 152 | 21 => 21 | 5 => 5 | 46 => 165 | 119 => 174 | 139 => 177 | 138 => 176 | 146 => 178 | 51 => 163 | n => n, fun | 1 => 1 | 3 => 4 | 4 => 5 | n => n⟩
theorem Tryd.lays146 : Go.Proofs.Lays.n146 Tryd.prog Tryd.lays146_ren := {
  mixed := by kernel_rfl
  f138 := Tryd.func91.trans (congrArg some (by kernel_rfl))
  f143 := Tryd.func92.trans (congrArg some (by kernel_rfl))
  f146 := Tryd.func64.trans (congrArg some (by kernel_rfl))
  f195 := Tryd.func103.trans (congrArg some (by kernel_rfl))
  f197 := Tryd.func104.trans (congrArg some (by kernel_rfl))
  f217 := Tryd.func112.trans (congrArg some (by kernel_rfl))
  f218 := Tryd.func105.trans (congrArg some (by kernel_rfl))
  f219 := Tryd.func106.trans (congrArg some (by kernel_rfl))
  f221 := Tryd.func81.trans (congrArg some (by kernel_rfl))
  f224 := Tryd.func120.trans (congrArg some (by kernel_rfl))
  f225 := Tryd.func119.trans (congrArg some (by kernel_rfl))
  f260 := Tryd.func118.trans (congrArg some (by kernel_rfl))
  f266 := Tryd.func125.trans (congrArg some (by kernel_rfl))
  f267 := Tryd.func121.trans (congrArg some (by kernel_rfl))
  f268 := Tryd.func90.trans (congrArg some (by kernel_rfl))
  f314 := Tryd.func128.trans (congrArg some (by kernel_rfl))
  t0 := Tryd.underlying0
  a0 := Tryd.isAgg0
  z0 := Tryd.sizeOf0
  v0 := Tryd.zeroValue0
  t3 := Tryd.underlying3
  a3 := Tryd.isAgg3
  z3 := Tryd.sizeOf3
  v3 := Tryd.zeroValue3
  t4 := Tryd.underlying4
  a4 := Tryd.isAgg4
  z4 := Tryd.sizeOf4
  v4 := Tryd.zeroValue4
  t5 := Tryd.underlying5
  a5 := Tryd.isAgg5
  z5 := Tryd.sizeOf5
  v5 := Tryd.zeroValue5
  t9 := Tryd.underlying9
  a9 := Tryd.isAgg9
  z9 := Tryd.sizeOf9
  v9 := Tryd.zeroValue9
  t21 := Tryd.underlying21
  a21 := Tryd.isAgg21
  z21 := Tryd.sizeOf21
  v21 := Tryd.zeroValue21
  t31 := Tryd.underlying85
  a31 := Tryd.isAgg85
  z31 := Tryd.sizeOf85
  v31 := Tryd.zeroValue85
  t46 := Tryd.underlying165
  a46 := Tryd.isAgg165
  z46 := Tryd.sizeOf165
  v46 := Tryd.zeroValue165
  t51 := Tryd.underlying163
  a51 := Tryd.isAgg163
  z51 := Tryd.sizeOf163
  v51 := Tryd.zeroValue163
  t105 := Tryd.underlying152
  a105 := Tryd.isAgg152
  z105 := Tryd.sizeOf152
  v105 := Tryd.zeroValue152
  t119 := Tryd.underlying174
  a119 := Tryd.isAgg174
  z119 := Tryd.sizeOf174
  t138 := Tryd.underlying176
  a138 := Tryd.isAgg176
  z138 := Tryd.sizeOf176
  v138 := Tryd.zeroValue176
  t139 := Tryd.underlying177
  a139 := Tryd.isAgg177
  z139 := Tryd.sizeOf177
  v139 := Tryd.zeroValue177
  t146 := Tryd.underlying178
  a146 := Tryd.isAgg178
  z146 := Tryd.sizeOf178
  v146 := Tryd.zeroValue178
  g1 := by kernel_rfl
  g3 := by kernel_rfl
  g4 := by kernel_rfl }
open Go.RowKit Go.Lib in
theorem Tryd.strings_Split (s sep : ByteArray) (m : Int) (w : World) (hs : s.size < 4294967281) (hm : w.cell? ⟨1, 0, none⟩ = some (.int .i64 m)) (h1 : 1 ≤ sep.size) :
    Calls Tryd.prog 64 #[.string s, .string sep] w fun e w' =>
      e = .returned (.slice (some ⟨w.heap.size, 0, none⟩) (Lib.countB s sep + 1) (Lib.countB s sep + 1)) ∧ w' = w.alloc (.cells ((Lib.splitB sep 0 (Lib.countB s sep) s).map Value.string).toArray 9) := Any.strings_Split Tryd.lays146 (by kernel_rfl) s sep m w hs hm h1
def Tryd.laysSlE041_f59_ren : Go.Shelf.Ren := ⟨fun | 41 => 59 | n => n, fun | 22 => 53 | 23 => 95 | 4 => 4 | n => n, fun | n => n⟩
theorem Tryd.laysSlE041_f59 : Go.Proofs.SlLaysE0.n41 Tryd.prog Tryd.laysSlE041_f59_ren := {
  mixed := by kernel_rfl
  f41 := ⟨Tryd.f59.name, by decide, Tryd.func59.trans (congrArg some (by kernel_rfl))⟩
  t4 := Tryd.underlying4
  a4 := Tryd.isAgg4
  z4 := Tryd.sizeOf4
  v4 := Tryd.zeroValue4
  t22 := Tryd.underlying53
  a22 := Tryd.isAgg53
  z22 := Tryd.sizeOf53
  v22 := Tryd.zeroValue53 }
open Go.RowKit Go.Lib in
theorem Tryd.slices_Clone_f59 (i0 : TypeInfo) (z : Value) (size bytes : Nat) (hi : Tryd.prog.info? 95 = some i0) (hz0 : i0.zero = some z) (hz1 : i0.size = size) (hz2 : i0.bytes = bytes) (hzs : z.cells.size = size) (hsz : 0 < size) (z23 : ∀ w, (Go.sizeOf 95).run Tryd.prog w = .ok size w) (b off n c : Nat) (news : List Value) (w : World) (hl : news.length = n * size) (hn : n ≤ maxLen) (hbig : n * bytes ≤ 140737488355328) (hc : ∀ j u, news[j]? = some u → w.cell? ⟨b, off + j, none⟩ = some u) (h1 : ∀ u ∈ news, u.oneCell' = true) :
    Calls Tryd.prog 59 #[.slice (some ⟨b, off, none⟩) n c] w fun e w' => ∃ v', e = .returned v' ∧ w'.ownsRow w.heap.size 95 size v' n news ∧ v' ≠ .slice none 0 0 ∧ Below w.heap.size w w' := AnyE.slices_Clone Tryd.laysSlE041_f59 i0 z size bytes hi hz0 hz1 hz2 hzs hsz z23 b off n c news w hl hn hbig hc h1
def Tryd.laysSlE041_f60_ren : Go.Shelf.Ren := ⟨fun | 41 => 60 | n => n, fun | 22 => 95 | 23 => 3 | 4 => 4 | n => n, fun | n => n⟩
theorem Tryd.laysSlE041_f60 : Go.Proofs.SlLaysE0.n41 Tryd.prog Tryd.laysSlE041_f60_ren := {
  mixed := by kernel_rfl
  f41 := ⟨Tryd.f60.name, by decide, Tryd.func60.trans (congrArg some (by kernel_rfl))⟩
  t4 := Tryd.underlying4
  a4 := Tryd.isAgg4
  z4 := Tryd.sizeOf4
  v4 := Tryd.zeroValue4
  t22 := Tryd.underlying95
  a22 := Tryd.isAgg95
  z22 := Tryd.sizeOf95
  v22 := Tryd.zeroValue95 }
open Go.RowKit Go.Lib in
theorem Tryd.slices_Clone_f60 (i0 : TypeInfo) (z : Value) (size bytes : Nat) (hi : Tryd.prog.info? 3 = some i0) (hz0 : i0.zero = some z) (hz1 : i0.size = size) (hz2 : i0.bytes = bytes) (hzs : z.cells.size = size) (hsz : 0 < size) (z23 : ∀ w, (Go.sizeOf 3).run Tryd.prog w = .ok size w) (b off n c : Nat) (news : List Value) (w : World) (hl : news.length = n * size) (hn : n ≤ maxLen) (hbig : n * bytes ≤ 140737488355328) (hc : ∀ j u, news[j]? = some u → w.cell? ⟨b, off + j, none⟩ = some u) (h1 : ∀ u ∈ news, u.oneCell' = true) :
    Calls Tryd.prog 60 #[.slice (some ⟨b, off, none⟩) n c] w fun e w' => ∃ v', e = .returned v' ∧ w'.ownsRow w.heap.size 3 size v' n news ∧ v' ≠ .slice none 0 0 ∧ Below w.heap.size w w' := AnyE.slices_Clone Tryd.laysSlE041_f60 i0 z size bytes hi hz0 hz1 hz2 hzs hsz z23 b off n c news w hl hn hbig hc h1
open Go.RowKit Go.Lib in
theorem Tryd.slices_Clone_nil_f59 (n c : Nat) (w : World) :
    Calls Tryd.prog 59 #[.slice none n c] w fun e w' => e = .returned (.slice none 0 0) ∧ w' = w := AnyE.slices_Clone_nil Tryd.laysSlE041_f59 n c w
open Go.RowKit Go.Lib in
theorem Tryd.slices_Clone_nil_f60 (n c : Nat) (w : World) :
    Calls Tryd.prog 60 #[.slice none n c] w fun e w' => e = .returned (.slice none 0 0) ∧ w' = w := AnyE.slices_Clone_nil Tryd.laysSlE041_f60 n c w
end Go.Proofs

namespace Go.Nx
open Go Go.RowKit Go.Shelf Go.Proofs
def tgl (_ : Nat) : Option (List T) := none
theorem genSplit_calls (s : ByteArray) (c : UInt8) (w : World) (hs : s.size ≤ 1048576) :
    Calls Tryd.prog 81 #[.string s, .string ⟨#[c]⟩, .int .i64 0, .int .i64 (-1)] w fun e w' =>
      e = .returned (.slice (some ⟨w.heap.size, 0, none⟩) (spl c s.data.toList).length (spl c s.data.toList).length) ∧ w' = w.alloc (.cells ((spl c s.data.toList).map fun p => Value.string ⟨p.toArray⟩).toArray 9) := by
  have hle := Lib.countB_le ⟨#[c]⟩ (Nat.le_refl 1) s.size s (Nat.le_refl _)
  have hlen := Lib.splitB_all ⟨#[c]⟩ (Nat.le_refl 1) 0 _ s rfl
  have h := Any.strings_genSplit_core Tryd.lays221 (by kernel_rfl) s ⟨#[c]⟩ 0 (-1) (Lib.countB s ⟨#[c]⟩ + 1) w (by omega) (Nat.le_refl 1) (Nat.zero_le _)
    (fun x cs hx => (Tryd.strings_Index_one x c _).mono fun e w' ⟨he, hw⟩ => ⟨by rw [he, indexB_one], hw⟩)
    ((Tryd.strings_Count_one s c w).mono fun e w' ⟨he, hw⟩ => ⟨by rw [he]; exact congrArg (fun n : Nat => Ending.returned (Value.int .i64 (n : Int))) (Lib.count_one c s.data.toList).symm, hw⟩) (by decide) (by decide) (by rw [if_pos (by decide)]; omega)
  rw [Nat.add_sub_cancel] at h
  have e2 : Lib.cellsOf (Lib.splitB ⟨#[c]⟩ 0 (Lib.countB s ⟨#[c]⟩) s) (Lib.countB s ⟨#[c]⟩ + 1) = ((spl c s.data.toList).map fun p => Value.string ⟨p.toArray⟩).toArray := by
    rw [← hlen, Lib.cellsOf_full, splitB_spl, List.map_map]; rfl
  rw [e2, hlen, show Lib.countB s ⟨#[c]⟩ + 1 = (spl c s.data.toList).length by rw [← hlen, splitB_spl, List.length_map]] at h
  exact h
theorem gl81_ok (s : ByteArray) (c : UInt8) (hs : s.size ≤ 1048576) : FnGl Tryd.prog tgl 81 [.str s, .str ⟨#[c]⟩, .int .i64 0, .int .i64 (-1)] 1 (ss (spl c s.data.toList)) := by
  refine ⟨⟨_, Tryd.func81, rfl, by decide⟩, fun S w args hS hgl hsz hrel => ?_⟩
  have hz : args.size = 4 := hsz
  obtain rfl : args = #[.string s, .string ⟨#[c]⟩, .int .i64 0, .int .i64 (-1)] := four_arg hz (by rw [Array.getElem?_eq_getElem (by omega)]; exact congrArg some (RelT.str_of (hrel 0 _ (args[0]'(by omega)) rfl (by simp))))
    (by rw [Array.getElem?_eq_getElem (by omega)]; exact congrArg some (RelT.str_of (hrel 1 _ (args[1]'(by omega)) rfl (by simp))))
    (by rw [Array.getElem?_eq_getElem (by omega)]; exact congrArg some (RelT.int_of (hrel 2 _ (args[2]'(by omega)) rfl (by simp))))
    (by rw [Array.getElem?_eq_getElem (by omega)]; exact congrArg some (RelT.int_of (hrel 3 _ (args[3]'(by omega)) rfl (by simp))))
  refine (genSplit_calls s c w hs).mono ?_
  rintro e W' ⟨rfl, rfl⟩
  have hl := spl_len c s.data.toList
  have hc : s.data.toList.count c ≤ s.size := by have := List.count_le_length (a := c) (l := s.data.toList); rw [Array.length_toList] at this; exact this
  have hrow := row_new w 9 ((spl c s.data.toList).map fun p => Value.string ⟨p.toArray⟩) (by rw [List.length_map]; unfold maxLen; omega)
  rw [List.length_map] at hrow
  refine ⟨_, rfl, (Below.refl _ w).alloc (Nat.le_refl _) _, row_gl (e := 9) hS (us := (spl c s.data.toList).map fun p => Value.string ⟨p.toArray⟩) (by rw [ss_len]; exact hrow) flat_ss fun i x u hx hu c' hc' S' _ => ?_⟩
  unfold ss at hx
  rw [List.getElem?_map] at hx hu
  cases hh : (spl c s.data.toList)[i]? with
  | none => rw [hh] at hx; cases hx
  | some n =>
    rw [hh] at hx hu
    simp at hx hu; subst hx hu
    simp [T.cells] at hc'; subst hc'
    exact .str _
open Classical in
noncomputable def c81 : List T → Ans
  | [.str s, .str u, .int .i64 a, .int .i64 b] => .gl (s.size ≤ 1048576 ∧ u = ⟨#[sep1 u]⟩ ∧ a = 0 ∧ b = -1) 1 (ss (spl (sep1 u) s.data.toList))
  | _ => .no
theorem got81 {vs : List T} {x : T} (h : Got (c81 vs) x) : FnOk Tryd.prog tgl 81 vs x := by
  unfold c81 at h
  split at h
  · exact (got_gl h).elim
  · exact (got_no h).elim
theorem gl81 (vs : List T) (p : Prop) (d : Decidable p) (sz : Nat) (xs : List T) (h : c81 vs = @Ans.gl p d sz xs) (hp : p) : FnGl Tryd.prog tgl 81 vs sz xs := by
  unfold c81 at h
  split at h
  · rename_i s u a b
    cases h
    obtain ⟨h1, h2, rfl, rfl⟩ := hp
    have := gl81_ok s (sep1 u) h1
    rw [← h2] at this
    exact this
  · cases h
theorem pk81 (vs : List T) (p : Prop) (d : Decidable p) (x : T) (h : c81 vs = @Ans.pk p d x) (hp : p) : FnOk Tryd.prog tgl 81 vs x := by
  unfold c81 at h
  split at h <;> cases h
end Go.Nx
end
section
set_option linter.unusedVariables false
set_option linter.unusedSimpArgs false
set_option maxRecDepth 20000
set_option maxHeartbeats 4000000
namespace Go.Nx
open Go Go.RowKit Go.Proofs

noncomputable def lH0 : List (Nat × (List T → Ans)) := []
noncomputable def iH0 : List (Nat × Pt) := []
noncomputable abbrev H0 : Env := En tgl lH0 iH0
theorem env_H0 : EnvOk Tryd.prog H0 := env_nil
def unss (xs : List T) : List (List UInt8) := xs.map fun
  | .str s => s.data.toList
  | _ => []
@[simp] theorem unss_ss (l : List (List UInt8)) : unss (ss l) = l := by simp [unss, ss, Function.comp_def]
theorem ok54 (n : Int) (hq : 0 ≤ n ∧ n < 100) : FnOk Tryd.prog tgl 54 [.int .i64 n] (.str (dig n)) := by
  obtain ⟨k, rfl⟩ : ∃ k : Nat, n = k := ⟨n.toNat, by omega⟩
  refine ⟨⟨_, Tryd.func54, rfl, by decide⟩, fun S w args hS hgl hsz hrel => ?_⟩
  have hz : args.size = 1 := hsz
  obtain rfl : args = #[.int .i64 (k : Int)] := one_arg hz (by rw [Array.getElem?_eq_getElem (by omega)]; exact congrArg some (RelT.int_of (hrel 0 _ (args[0]'(by omega)) rfl (by simp))))
  refine (Tryd.strconv_Itoa_small k (by omega) w).mono ?_
  rintro e W' ⟨rfl, rfl⟩
  exact ⟨_, rfl, .str _, Below.refl _ _⟩
open Classical in
noncomputable def c54 : List T → Ans
  | [.int .i64 n] => .req (0 ≤ n ∧ n < 100) (.str (dig n))
  | _ => .no
theorem got54 {vs : List T} {x : T} (h : Got (c54 vs) x) : FnOk Tryd.prog tgl 54 vs x := by
  unfold c54 at h
  split at h
  · obtain ⟨hq, e⟩ := got_req h; rw [e]; exact ok54 _ hq
  · exact (got_no h).elim
theorem nogl54 (vs : List T) (p : Prop) (d : Decidable p) (sz : Nat) (xs : List T) (h : c54 vs = @Ans.gl p d sz xs) : False := by
  unfold c54 at h
  split at h <;> cases h
theorem pk54 (vs : List T) (p : Prop) (d : Decidable p) (x : T) (h : c54 vs = @Ans.pk p d x) (hp : p) : FnOk Tryd.prog tgl 54 vs x := by
  unfold c54 at h
  split at h
  · cases h
  · cases h
theorem ss_get {l : List (List UInt8)} {j : Nat} {p : List UInt8} (h : l[j]? = some p) : (ss l)[j]? = some (.str ⟨p.toArray⟩) := by simp [ss, h]
theorem okJ (l : List (List UInt8)) (u : ByteArray) (h1 : l.length ≤ 140737488355328) (h2 : (Lib.join l u.data.toList).length ≤ 140737488355328) : FnOk Tryd.prog tgl 56 [.list 1 (ss l), .str u] (.str ⟨(Lib.join l u.data.toList).toArray⟩) := by
  refine ⟨⟨_, Tryd.func56, rfl, by decide⟩, fun S w args hS hgl hsz hrel => ?_⟩
  have hz : args.size = 2 := hsz
  have hr0 := hrel 0 _ (args[0]'(by omega)) rfl (by simp)
  generalize hv : args[0]'(by omega) = v at hr0
  obtain rfl : args = #[v, .string u] := two_arg hz (by rw [Array.getElem?_eq_getElem (by omega), hv]) (by rw [Array.getElem?_eq_getElem (by omega)]; exact congrArg some (RelT.str_of (hrel 1 _ (args[1]'(by omega)) rfl (by simp))))
  cases hr0 with
  | list _ _ a cap f hcap ha hfl hr =>
    rw [ss_len] at hcap ⊢
    cases l with
    | nil =>
      refine (Tryd.strings_Join_none a cap u w).mono ?_
      rintro e W' ⟨rfl, rfl⟩
      exact ⟨_, rfl, .str _, Below.refl _ _⟩
    | cons x r =>
      obtain ⟨b, o, rfl, hc⟩ := ha (by simp [ss])
      rw [ss_len] at hc
      have hcell : ∀ (j : Nat) (p : List UInt8), (x :: r)[j]? = some p → S b (o + j) ∧ w.cell? ⟨b, o + j, none⟩ = some (.string ⟨p.toArray⟩) := fun j p hj => by
        have hlt := (List.getElem?_eq_some_iff.1 hj).1
        obtain ⟨q1, q2⟩ := hc j 0 hlt (by omega)
        have q3 := RelT.str_of (hr j _ (ss_get hj) 0 _ rfl)
        rw [q3] at q2
        simp only [Nat.mul_one, Nat.add_zero] at q1 q2
        exact ⟨q1, q2⟩
      have hb : b < w.heap.size := hS _ _ (hcell 0 x rfl).1
      have hm : ((x :: r).map fun p => (⟨p.toArray⟩ : ByteArray)).map (·.data.toList) = x :: r := by simp [Function.comp_def]
      have hJ := Tryd.strings_Join b o cap ((x :: r).map fun p => ⟨p.toArray⟩) u w (fun j y hj => by
        rw [List.getElem?_map] at hj
        cases hq : (x :: r)[j]? with
        | none => rw [hq] at hj; cases hj
        | some p => rw [hq] at hj; simp at hj; subst hj; exact (hcell j p hq).2) hb (by rw [List.length_map]; exact h1) (by rw [List.length_map]; exact hcap) (by rw [hm]; exact h2)
      rw [hm, List.length_map] at hJ
      refine hJ.mono ?_
      rintro e W' ⟨rfl, hbl⟩
      exact ⟨_, rfl, .str _, hbl⟩
theorem ok56 (xs : List T) (u : ByteArray) (hq : (∃ l, xs = ss l) ∧ xs.length ≤ 140737488355328 ∧ (Lib.join (unss xs) u.data.toList).length ≤ 140737488355328) : FnOk Tryd.prog tgl 56 [.list 1 xs, .str u] (.str ⟨(Lib.join (unss xs) u.data.toList).toArray⟩) := by
  obtain ⟨⟨l, rfl⟩, h1, h2⟩ := hq
  rw [unss_ss] at h2 ⊢
  rw [ss_len] at h1
  exact okJ l u h1 h2
theorem ok56_2 (u : ByteArray) (hq : u.size ≤ 1048576) : FnOk Tryd.prog tgl 56 [.nils, .str u] (.str ⟨#[]⟩) := by
  refine ⟨⟨_, Tryd.func56, rfl, by decide⟩, fun S w args hS hgl hsz hrel => ?_⟩
  have hz : args.size = 2 := hsz
  have hr0 := hrel 0 _ (args[0]'(by omega)) rfl (by simp)
  generalize hv : args[0]'(by omega) = v at hr0
  obtain rfl : args = #[v, .string u] := two_arg hz (by rw [Array.getElem?_eq_getElem (by omega), hv]) (by rw [Array.getElem?_eq_getElem (by omega)]; exact congrArg some (RelT.str_of (hrel 1 _ (args[1]'(by omega)) rfl (by simp))))
  cases hr0
  refine (Tryd.strings_Join_none none 0 u w).mono ?_
  rintro e W' ⟨rfl, rfl⟩
  exact ⟨_, rfl, .str _, Below.refl _ _⟩
open Classical in
noncomputable def c56 : List T → Ans
  | [.list 1 xs, .str u] => .req ((∃ l, xs = ss l) ∧ xs.length ≤ 140737488355328 ∧ (Lib.join (unss xs) u.data.toList).length ≤ 140737488355328) (.str ⟨(Lib.join (unss xs) u.data.toList).toArray⟩)
  | [.nils, .str u] => .req (u.size ≤ 1048576) (.str ⟨#[]⟩)
  | _ => .no
theorem got56 {vs : List T} {x : T} (h : Got (c56 vs) x) : FnOk Tryd.prog tgl 56 vs x := by
  unfold c56 at h
  split at h
  · obtain ⟨hq, e⟩ := got_req h; rw [e]; exact ok56 _ _ hq
  · obtain ⟨hq, e⟩ := got_req h; rw [e]; exact ok56_2 _ hq
  · exact (got_no h).elim
theorem nogl56 (vs : List T) (p : Prop) (d : Decidable p) (sz : Nat) (xs : List T) (h : c56 vs = @Ans.gl p d sz xs) : False := by
  unfold c56 at h
  split at h <;> cases h
theorem pk56 (vs : List T) (p : Prop) (d : Decidable p) (x : T) (h : c56 vs = @Ans.pk p d x) (hp : p) : FnOk Tryd.prog tgl 56 vs x := by
  unfold c56 at h
  split at h
  · cases h
  · cases h
  · cases h
noncomputable def lH1 : List (Nat × (List T → Ans)) := (81, c81) :: lH0
noncomputable def iH1 : List (Nat × Pt) := iH0
noncomputable abbrev H1 : Env := En tgl lH1 iH1
theorem env_H1 : EnvOk Tryd.prog H1 := (env_fn env_H0 (fun _ _ => got81) gl81 pk81)
theorem ok64 (s u : ByteArray) (hq : s.size ≤ 1048576 ∧ u = ⟨#[sep1 u]⟩) : FnGl Tryd.prog tgl 64 [.str s, .str u] 1 (ss (spl (sep1 u) s.data.toList)) := by
  refine fnG_ok (Γ := H1) env_H1 Tryd.func64 low64 ?_
  conv => whnf
  repeat' (first
    | (refine brK_true rfl ?_; conv => whnf)
    | (refine brK_false rfl ?_; conv => whnf)
    | (refine brK_true (by assumption) ?_; conv => whnf)
    | (refine brK_false (by assumption) ?_; conv => whnf)
    | (refine brK_true ?_ ?_; (focus (simp only [List.length_nil, fx] <;> omega)); conv => whnf)
    | (refine brK_false ?_ ?_; (focus (simp only [List.length_nil, fx] <;> omega)); conv => whnf)
    | ((refine brK_of (fun h => ?_) (fun h => ?_)) <;> (have h2 := h; (try simp only [List.length_nil, fx] at h2); conv => whnf))
    | (refine reqK_of ?_ ?_; (focus (first | decide | omega | assumption | (simp only [List.length_nil, fx] <;> omega) | (simp [keyNew, sameKey, kEq] <;> omega))); conv => whnf)
    | (refine reqK_of ?_ ?_; rotate_left; (conv => whnf); rotate_left)
    | (refine nth_us ?_ ?_ ?_; (focus (first | omega | (simp only [List.length_nil, fx] <;> omega))); (focus (first | omega | (simp only [List.length_nil, fx] <;> omega))); conv => whnf)
    | (refine nth_is ?_ ?_ ?_; (focus (first | omega | (simp only [List.length_nil, fx] <;> omega))); (focus (first | omega | (simp only [List.length_nil, fx] <;> omega))); conv => whnf)
    | (refine nth_bs ?_ ?_ ?_; (focus (first | omega | (simp only [List.length_nil, fx] <;> omega))); (focus (first | omega | (simp only [List.length_nil, fx] <;> omega))); conv => whnf))
open Classical in
noncomputable def c64 : List T → Ans
  | [.str s, .str u] => .gl (s.size ≤ 1048576 ∧ u = ⟨#[sep1 u]⟩) 1 (ss (spl (sep1 u) s.data.toList))
  | _ => .no
theorem got64 {vs : List T} {x : T} (h : Got (c64 vs) x) : FnOk Tryd.prog tgl 64 vs x := by
  unfold c64 at h
  split at h
  · exact (got_gl h).elim
  · exact (got_no h).elim
theorem gl64 (vs : List T) (p : Prop) (d : Decidable p) (sz : Nat) (xs : List T) (h : c64 vs = @Ans.gl p d sz xs) (hp : p) : FnGl Tryd.prog tgl 64 vs sz xs := by
  unfold c64 at h
  split at h
  · cases h; exact ok64 _ _ hp
  · cases h
theorem pk64 (vs : List T) (p : Prop) (d : Decidable p) (x : T) (h : c64 vs = @Ans.pk p d x) (hp : p) : FnOk Tryd.prog tgl 64 vs x := by
  unfold c64 at h
  split at h <;> cases h
end Go.Nx
end
section
set_option linter.unusedVariables false
set_option linter.unusedSimpArgs false
set_option maxRecDepth 20000
namespace Go.Nx
open Go.RowKit

structure COp where
  k : Int
  r : Int
  a : Int
  s : Int
  deriving DecidableEq
def opT (o : COp) : T := .agg [.int .i64 o.k, .int .i64 o.r, .int .i64 o.a, .int .i64 o.s]
def os (l : List COp) : List T := l.map opT
@[simp] theorem os_len (l : List COp) : (os l).length = l.length := by simp [os]
def opOf : T → COp
  | .agg [.int _ k, .int _ r, .int _ a, .int _ s] => ⟨k, r, a, s⟩
  | _ => ⟨0, 0, 0, 0⟩
def opsOf (xs : List T) : List COp := xs.map opOf
@[simp] theorem opsOf_os (l : List COp) : opsOf (os l) = l := by
  unfold opsOf os
  rw [List.map_map]
  exact List.map_id' l
def OpI (o : COp) : Prop := I64 o.k ∧ I64 o.r ∧ I64 o.a ∧ I64 o.s
def IsO (xs : List T) : Prop := ∃ l, xs = os l ∧ l.length ≤ 4194304 ∧ ∀ o ∈ l, OpI o
def cOk (k r a s n m : Int) : Prop := ((k = 1 ∨ k = 2) ∧ 0 ≤ r ∧ r < n ∧ 0 ≤ a ∧ a < n ∧ 0 ≤ s ∧ s < m) ∨ (k = 4 ∧ 0 ≤ r ∧ r < n ∧ 0 ≤ a ∧ a < n ∧ s = 0) ∨ ((k = 3 ∨ k = 5) ∧ 0 ≤ r ∧ r < n ∧ a = 0 ∧ s = 0)
instance (k r a s n m : Int) : Decidable (cOk k r a s n m) := by unfold cOk; infer_instance
def cRight (o : COp) (regs slots : Int) : Bool := decide (cOk o.k o.r o.a o.s (minI regs 4) (minI slots 4))
theorem minI_44 : minI 4 4 = 4 := by rw [minI_def]; rfl
def cR4 (o : COp) : Bool := decide (cOk o.k o.r o.a o.s 4 4)
theorem cRight_44 (o : COp) : cRight o 4 4 = cR4 o := by unfold cRight cR4; rw [minI_44]
theorem cR4_iff {o : COp} : cR4 o = true ↔ cOk o.k o.r o.a o.s 4 4 := by unfold cR4; exact decide_eq_true_iff
def bt (n : Int) : UInt8 := UInt8.ofNat n.toNat
def cB (o : COp) : List UInt8 :=
  if o.k = 1 then [bt (65 + o.r), 61, bt (65 + o.a), 46, bt (48 + o.s)]
  else if o.k = 2 then [bt (65 + o.a), 46, bt (48 + o.s), 61, bt (65 + o.r)]
  else if o.k = 3 then [bt (65 + o.r), 61, 110, 101, 119]
  else if o.k = 4 then [bt (65 + o.r), 61, bt (65 + o.a)]
  else [bt (65 + o.r), 61, 48]
def cT (o : COp) : List UInt8 := if cR4 o then cB o else [63]
def cTxt (o : COp) : ByteArray := ⟨(cT o).toArray⟩
def allOps : List COp := (List.range 5).flatMap fun k : Nat => (List.range 4).flatMap fun r : Nat => (List.range 4).flatMap fun a : Nat => (List.range 4).map fun s : Nat => ⟨(k : Int) + 1, (r : Int), (a : Int), (s : Int)⟩
theorem mem_all {o : COp} (h : cOk o.k o.r o.a o.s 4 4) : o ∈ allOps := by
  obtain ⟨k, r, a, s⟩ := o
  dsimp only at h
  have hk : 1 ≤ k ∧ k ≤ 5 ∧ 0 ≤ r ∧ r < 4 ∧ 0 ≤ a ∧ a < 4 ∧ 0 ≤ s ∧ s < 4 := by unfold cOk at h; omega
  obtain ⟨h1, h2, h3, h4, h5, h6, h7, h8⟩ := hk
  unfold allOps
  refine List.mem_flatMap.2 ⟨(k - 1).toNat, List.mem_range.2 (by omega), List.mem_flatMap.2 ⟨r.toNat, List.mem_range.2 (by omega), List.mem_flatMap.2 ⟨a.toNat, List.mem_range.2 (by omega), List.mem_map.2 ⟨s.toNat, List.mem_range.2 (by omega), ?_⟩⟩⟩⟩
  rw [show (((k - 1).toNat : Int)) + 1 = k by omega, show ((r.toNat : Int)) = r by omega, show ((a.toNat : Int)) = a by omega, show ((s.toNat : Int)) = s by omega]
def letters : List UInt8 := [65, 66, 67, 68]
inductive Sd where
  | reg (a : Int)
  | slot (a s : Int)
  | word (w : List UInt8)
  deriving DecidableEq
def ltr (l : List UInt8) : Int := Lib.indexByte letters ((l ++ [63]).headD 0)
def rd (l : List UInt8) : Sd := match l with
  | [b] => if 0 ≤ Lib.indexByte letters b then .reg (Lib.indexByte letters b) else .word l
  | [b, d, c] => if 0 ≤ Lib.indexByte letters b ∧ d = 46 ∧ 48 ≤ c ∧ c < 52 then .slot (Lib.indexByte letters b) ((c.toNat : Int) - 48) else .word l
  | _ => .word l
def kindOf (w : List UInt8) : Int := if w = [110, 101, 119] then 3 else if w = [48] then 5 else 0
def cutE : List UInt8 → List UInt8 × List UInt8
  | [] => ([], [])
  | b :: l => if b = 61 then ([], l) else (b :: (cutE l).1, (cutE l).2)
def one2 (x y : Sd) : Option COp := match x, y with
  | .slot a s, .reg r => some ⟨2, r, a, s⟩
  | .reg r, .slot a s => some ⟨1, r, a, s⟩
  | .reg r, .reg a => some ⟨4, r, a, 0⟩
  | .reg r, .word w => some ⟨kindOf w, r, 0, 0⟩
  | _, _ => none
def oneO (l : List UInt8) : Option COp := one2 (rd (cutE l).1) (rd (cutE l).2)
theorem all_one : ∀ o ∈ allOps, cR4 o = true → oneO (cB o) = some o ∧ cB o ≠ [63] ∧ cB o ≠ [45] ∧ (59 : UInt8) ∉ cB o ∧ (cB o).length ≤ 5 := by decide +kernel
theorem right_one {o : COp} (h : cR4 o = true) : oneO (cB o) = some o := (all_one o (mem_all (cR4_iff.1 h)) h).1
theorem right_no {o : COp} (h : cR4 o = true) : cB o ≠ [63] ∧ cB o ≠ [45] ∧ (59 : UInt8) ∉ cB o ∧ (cB o).length ≤ 5 := (all_one o (mem_all (cR4_iff.1 h)) h).2
theorem one_q : oneO [63] = none := by decide +kernel
theorem cT_inj {o p : COp} (h1 : cR4 o = true) (h2 : cR4 p = true) (h : cT o = cT p) : o = p := by
  unfold cT at h
  rw [if_pos h1, if_pos h2] at h
  have e1 := right_one h1
  rw [h, right_one h2] at e1
  exact (Option.some.inj e1).symm
theorem cT_q {o : COp} : cT o = [63] ↔ cR4 o = false := by
  cases h : cR4 o
  · unfold cT; rw [h]; simp
  · unfold cT; rw [h]; simp; exact (right_no h).1
theorem one_text {l : List UInt8} {o : COp} (h : oneO l = some o) (ht : cT o = l) : cR4 o = true := by
  cases hr : cR4 o
  · rw [cT_q.2 hr] at ht; subst ht; rw [one_q] at h; cases h
  · rfl
theorem cT_no (o : COp) : (59 : UInt8) ∉ cT o := by
  unfold cT
  split
  · rename_i h; exact (right_no h).2.2.1
  · decide
def cP (l : List COp) : List UInt8 := if l = [] then [45] else jn 59 (l.map cT)
def cPrint (l : List COp) : ByteArray := ⟨(cP l).toArray⟩
def allSome : List (Option COp) → Option (List COp)
  | [] => some []
  | x :: r => match x, allSome r with
    | some o, some l => some (o :: l)
    | _, _ => none
theorem allSome_map : ∀ l : List COp, allSome (l.map some) = some l
  | [] => rfl
  | x :: r => by rw [List.map_cons]; unfold allSome; rw [allSome_map r]
theorem allSome_iff : ∀ {xs : List (Option COp)} {l : List COp}, allSome xs = some l ↔ xs = l.map some
  | [], l => by cases l <;> simp [allSome]
  | x :: r, l => by
    unfold allSome
    cases x with
    | none => cases l <;> simp
    | some o =>
      cases h : allSome r with
      | none =>
        cases l with
        | nil => simp
        | cons p l =>
          simp
          intro _ e
          have := allSome_iff.2 e
          rw [h] at this; cases this
      | some l' =>
        have := allSome_iff.1 h
        subst this
        cases l with
        | nil => simp
        | cons p l =>
          simp
          intro _
          constructor
          · intro e; rw [e]
          · intro e
            have := congrArg (List.filterMap id) e
            simpa using this
def opsO (t : List UInt8) : Option (List COp) := match allSome ((spl 59 t).map oneO) with
  | some l => if cP l = t then some l else none
  | none => none
theorem opsO_iff {t : List UInt8} {l : List COp} : opsO t = some l ↔ l ≠ [] ∧ (∀ o ∈ l, cR4 o = true) ∧ cP l = t := by
  unfold opsO
  constructor
  · intro h
    split at h
    · rename_i l' h1
      split at h
      · rename_i h2
        cases h
        have h3 := allSome_iff.1 h1
        have hne : l ≠ [] := fun e => by
          subst e
          have := congrArg List.length h3
          rw [List.length_map, spl_len] at this
          simp at this
        refine ⟨hne, ?_, h2⟩
        unfold cP at h2
        rw [if_neg hne] at h2
        have h4 : spl 59 t = l.map cT := by
          rw [← h2, spl_jn (by simpa using hne)]
          intro p hp
          obtain ⟨o, _, rfl⟩ := List.mem_map.1 hp
          exact cT_no o
        intro o ho
        obtain ⟨i, hi, rfl⟩ := List.mem_iff_getElem.1 ho
        have h5 := congrArg (fun x => x[i]?) h3
        rw [h4] at h5
        simp [hi] at h5
        exact one_text h5 rfl
      · cases h
    · cases h
  · rintro ⟨hne, hr, ht⟩
    have h4 : spl 59 t = l.map cT := by
      rw [← ht]
      unfold cP
      rw [if_neg hne, spl_jn (by simpa using hne)]
      intro p hp
      obtain ⟨o, _, rfl⟩ := List.mem_map.1 hp
      exact cT_no o
    have h5 : (spl 59 t).map oneO = l.map some := by
      rw [h4, List.map_map]
      refine List.map_congr_left fun o ho => ?_
      have := hr o ho
      show oneO (cT o) = some o
      unfold cT
      rw [if_pos this]
      exact right_one this
    rw [h5, allSome_map]
    simp [ht]
def cParse (t : List UInt8) : List COp × Int := if t = [45] then ([], 0) else match opsO t with
  | some l => if l.length ≤ 64 then (l, 0) else ([], 3)
  | none => ([], 2)
theorem env_ptK {P : Program} {gl : Nat → Option (List T)} {pl : List (Nat × (List T → AnsP))} {l : List (Nat × (List T → Ans))} {il : List (Nat × Pt)} {n : Nat} {g : Pt} (h : EnvOk P (EnP pl gl l il)) (hg : ∀ base args own R, g base args own R → FnV P gl n args own R) : EnvOk P (EnP pl gl l ((n, g) :: il)) := by
  refine ⟨h.fn, h.gl, h.pk, fun f base args own R hi hR => ?_, h.pn⟩
  have hR' : ptL ((n, g) :: il) f base args own R := hR
  have hi' : isL ((n, g) :: il) f = true := hi
  simp only [ptL] at hR'
  simp only [isL] at hi'
  cases e : Nat.beq n f with
  | true =>
    rw [e] at hR'
    rw [← Nat.eq_of_beq_eq_true e]
    exact hg base args own R hR'
  | false =>
    rw [e] at hR' hi'
    exact h.pt f base args own R hi' hR'
def atO (l : List COp) (i : Int) : COp := l[i.toNat]?.getD ⟨0, 0, 0, 0⟩
theorem os_get {l : List COp} {i : Int} (h : i.toNat < l.length) : (os l)[i.toNat]? = some (opT (atO l i)) := by simp [os, atO, h]
theorem nth_os {l : List COp} {i : Int} {K : T → Prop} (h0 : 0 ≤ i) (h1 : i < l.length) (h : K (opT (atO l i))) : nthK (os l) i K := nthK_of (opT (atO l i)) h0 (os_get (by omega)) h
theorem atO_mem {l : List COp} {i : Int} (h : i.toNat < l.length) : atO l i ∈ l := by
  unfold atO
  rw [List.getElem?_eq_getElem h]
  exact List.getElem_mem _
theorem atO_at {l : List COp} {k : Nat} (h : k < l.length) : atO l (k : Int) = l[k] := by simp [atO, h]
def cFits (l : List COp) (n m : Int) : Bool := decide (l.length ≤ 64) && l.all fun o => cRight o n m
def cWrites (l : List COp) : Int := (l.countP fun o => decide (o.k = 2) : Nat)
theorem wr_take {l : List COp} {k : Nat} (h : k < l.length) : cWrites (l.take (k + 1)) = cWrites (l.take k) + (if (atO l (k : Int)).k = 2 then 1 else 0) := by
  unfold cWrites
  rw [List.take_add_one, List.countP_append, atO_at h, List.getElem?_eq_getElem h, Option.toList_some, List.countP_singleton]
  by_cases e : l[k].k = 2 <;> simp [e]
theorem wr_le (l : List COp) : 0 ≤ cWrites l ∧ cWrites l ≤ l.length := by
  unfold cWrites
  have := List.countP_le_length (p := fun o : COp => decide (o.k = 2)) (l := l)
  omega
theorem wr_app (a b : List COp) : cWrites (a ++ b) = cWrites a + cWrites b := by
  unfold cWrites
  rw [List.countP_append]; omega
def ba (l : List UInt8) : ByteArray := ⟨l.toArray⟩
theorem ba_app (l m : List UInt8) : ba l ++ ba m = ba (l ++ m) := by
  unfold ba
  show ByteArray.append _ _ = _
  have : ((⟨l.toArray⟩ : ByteArray) ++ ⟨m.toArray⟩).data = (l ++ m).toArray := by rw [ByteArray.data_append]; simp
  cases h : ((⟨l.toArray⟩ : ByteArray) ++ ⟨m.toArray⟩) with
  | mk d => rw [h] at this; dsimp only at this; rw [this] at h; exact h
theorem ba_size (l : List UInt8) : (ba l).size = l.length := by unfold ba; simp [ByteArray.size]
theorem lit_63 : (⟨#[63]⟩ : ByteArray) = ba [63] := rfl
theorem lit_61 : (⟨#[61]⟩ : ByteArray) = ba [61] := rfl
theorem lit_46 : (⟨#[46]⟩ : ByteArray) = ba [46] := rfl
theorem lit_new : (⟨#[61, 110, 101, 119]⟩ : ByteArray) = ba [61, 110, 101, 119] := rfl
theorem lit_0 : (⟨#[61, 48]⟩ : ByteArray) = ba [61, 48] := rfl
theorem ext4 {r : Int} (h : 0 ≤ r ∧ r < 4) : (⟨#[65, 66, 67, 68]⟩ : ByteArray).extract r.toNat (IntKind.i64.wrap (r + 1)).toNat = ba [bt (65 + r)] := by
  have h' : r = 0 ∨ r = 1 ∨ r = 2 ∨ r = 3 := by omega
  rcases h' with rfl | rfl | rfl | rfl <;> decide +kernel
theorem dig4 {s : Int} (h : 0 ≤ s ∧ s < 4) : dig s = ba [bt (48 + s)] := by
  have h' : s = 0 ∨ s = 1 ∨ s = 2 ∨ s = 3 := by omega
  rcases h' with rfl | rfl | rfl | rfl <;> decide +kernel
theorem ltr4 {r : Int} (h : 0 ≤ r ∧ r < 4) : UInt8.ofNat (IntKind.u8.wrap (IntKind.i64.wrap (65 + r))).toNat = bt (65 + r) := by
  have h' : r = 0 ∨ r = 1 ∨ r = 2 ∨ r = 3 := by omega
  rcases h' with rfl | rfl | rfl | rfl <;> decide +kernel
theorem dgt4 {r : Int} (h : 0 ≤ r ∧ r < 4) : UInt8.ofNat (IntKind.u8.wrap (IntKind.i64.wrap (48 + r))).toNat = bt (48 + r) := by
  have h' : r = 0 ∨ r = 1 ∨ r = 2 ∨ r = 3 := by omega
  rcases h' with rfl | rfl | rfl | rfl <;> decide +kernel
theorem cTxt_ba (o : COp) : cTxt o = ba (cT o) := rfl
theorem cT_1 {r a s : Int} (h : cR4 ⟨1, r, a, s⟩ = true) : cT ⟨1, r, a, s⟩ = [bt (65 + r), 61, bt (65 + a), 46, bt (48 + s)] := by unfold cT; rw [if_pos h]; rfl
theorem cT_2 {r a s : Int} (h : cR4 ⟨2, r, a, s⟩ = true) : cT ⟨2, r, a, s⟩ = [bt (65 + a), 46, bt (48 + s), 61, bt (65 + r)] := by unfold cT; rw [if_pos h]; rfl
theorem cT_3 {r a s : Int} (h : cR4 ⟨3, r, a, s⟩ = true) : cT ⟨3, r, a, s⟩ = [bt (65 + r), 61, 110, 101, 119] := by unfold cT; rw [if_pos h]; rfl
theorem cT_4 {r a s : Int} (h : cR4 ⟨4, r, a, s⟩ = true) : cT ⟨4, r, a, s⟩ = [bt (65 + r), 61, bt (65 + a)] := by unfold cT; rw [if_pos h]; rfl
theorem cT_5 {r a s : Int} (h : cR4 ⟨5, r, a, s⟩ = true) : cT ⟨5, r, a, s⟩ = [bt (65 + r), 61, 48] := by unfold cT; rw [if_pos h]; rfl
theorem cT_len (o : COp) : (cT o).length ≤ 5 := by
  unfold cT
  split
  · rename_i h; exact (right_no h).2.2.2
  · decide
end Go.Nx
end
section
set_option linter.unusedVariables false
set_option linter.unusedSimpArgs false
set_option maxRecDepth 200000
set_option maxHeartbeats 4000000
namespace Go.Nx
open Go Go.RowKit Go.Proofs

noncomputable def lK1 : List (Nat × (List T → Ans)) := lH0
noncomputable def iK1 : List (Nat × Pt) := (51, inl H0 m51) :: iH0
noncomputable abbrev K1 : Env := En tgl lK1 iK1
theorem env_K1 : EnvOk Tryd.prog K1 := (env_in env_H0 env_H0 Tryd.func51 low51)
theorem cr_f {k r a s n m : Int} (h : ¬ cOk k r a s (minI n 4) (minI m 4)) : T.bool false = T.bool (cRight ⟨k, r, a, s⟩ n m) := congrArg T.bool (decide_eq_false h).symm
theorem cr_t {k r a s n m : Int} (h : cOk k r a s (minI n 4) (minI m 4)) : T.bool true = T.bool (cRight ⟨k, r, a, s⟩ n m) := congrArg T.bool (decide_eq_true h).symm
theorem cr_l {k r a s n m x y : Int} (h : x < y ↔ cOk k r a s (minI n 4) (minI m 4)) : T.bool (ltI x y) = T.bool (cRight ⟨k, r, a, s⟩ n m) := by rw [ltI_def]; exact congrArg T.bool (decide_eq_decide.2 h)
theorem cr_e {k r a s n m x y : Int} (h : x = y ↔ cOk k r a s (minI n 4) (minI m 4)) : T.bool (eqI x y) = T.bool (cRight ⟨k, r, a, s⟩ n m) := by
  rw [eqI_def]
  refine congrArg T.bool ?_
  rw [Bool.eq_iff_iff, beq_iff_eq, h]
  exact decide_eq_true_iff.symm
theorem ok20 (k r a s n m : Int) : FnOk Tryd.prog tgl 20 [.agg [.int .i64 k, .int .i64 r, .int .i64 a, .int .i64 s], .int .i64 n, .int .i64 m] (.bool (cRight ⟨k, r, a, s⟩ n m)) := by
  refine fn_ok (Γ := K1) env_K1 Tryd.func20 low20 ?_
  conv => whnf
  repeat' (first
    | (refine brK_true rfl ?_; conv => whnf)
    | (refine brK_false rfl ?_; conv => whnf)
    | (refine brK_true (by assumption) ?_; conv => whnf)
    | (refine brK_false (by assumption) ?_; conv => whnf)
    | (refine brK_true ?_ ?_; (focus (simp only [List.length_nil, fx] <;> omega)); conv => whnf)
    | (refine brK_false ?_ ?_; (focus (simp only [List.length_nil, fx] <;> omega)); conv => whnf)
    | ((refine brK_of (fun h => ?_) (fun h => ?_)) <;> (have h2 := h; (try simp only [List.length_nil, fx] at h2); conv => whnf))
    | (refine reqK_of ?_ ?_; (focus (first | decide | omega | assumption | (simp only [List.length_nil, fx] <;> omega) | (simp [keyNew, sameKey, kEq] <;> omega))); conv => whnf)
    | (refine reqK_of ?_ ?_; rotate_left; (conv => whnf); rotate_left)
    | (refine nth_us ?_ ?_ ?_; (focus (first | omega | (simp only [List.length_nil, fx] <;> omega))); (focus (first | omega | (simp only [List.length_nil, fx] <;> omega))); conv => whnf)
    | (refine nth_is ?_ ?_ ?_; (focus (first | omega | (simp only [List.length_nil, fx] <;> omega))); (focus (first | omega | (simp only [List.length_nil, fx] <;> omega))); conv => whnf)
    | (refine nth_bs ?_ ?_ ?_; (focus (first | omega | (simp only [List.length_nil, fx] <;> omega))); (focus (first | omega | (simp only [List.length_nil, fx] <;> omega))); conv => whnf))
  all_goals first
    | (refine cr_f ?_; unfold cOk; omega)
    | (refine cr_t ?_; unfold cOk; omega)
    | (refine cr_l ?_; unfold cOk; omega)
    | (refine cr_e ?_; unfold cOk; omega)
open Classical in
noncomputable def c20 : List T → Ans
  | [.agg [.int .i64 k, .int .i64 r, .int .i64 a, .int .i64 s], .int .i64 n, .int .i64 m] => .yes (.bool (cRight ⟨k, r, a, s⟩ n m))
  | _ => .no
theorem got20 {vs : List T} {x : T} (h : Got (c20 vs) x) : FnOk Tryd.prog tgl 20 vs x := by
  unfold c20 at h
  split at h
  · rw [got_yes h]; exact ok20 _ _ _ _ _ _
  · exact (got_no h).elim
theorem nogl20 (vs : List T) (p : Prop) (d : Decidable p) (sz : Nat) (xs : List T) (h : c20 vs = @Ans.gl p d sz xs) : False := by
  unfold c20 at h
  split at h <;> cases h
theorem pk20 (vs : List T) (p : Prop) (d : Decidable p) (x : T) (h : c20 vs = @Ans.pk p d x) (hp : p) : FnOk Tryd.prog tgl 20 vs x := by
  unfold c20 at h
  split at h
  · cases h
  · cases h
theorem ok21 (k r a s n m : Int) : FnOk Tryd.prog tgl 21 [.agg [.int .i64 k, .int .i64 r, .int .i64 a, .int .i64 s], .int .i64 n, .int .i64 m] (.bool (cRight ⟨k, r, a, s⟩ n m)) := by
  refine fn_ok (Γ := H0) env_H0 Tryd.func21 low21 ?_
  conv => whnf
  repeat' (first
    | (refine brK_true rfl ?_; conv => whnf)
    | (refine brK_false rfl ?_; conv => whnf)
    | (refine brK_true (by assumption) ?_; conv => whnf)
    | (refine brK_false (by assumption) ?_; conv => whnf)
    | (refine brK_true ?_ ?_; (focus (simp only [List.length_nil, fx] <;> omega)); conv => whnf)
    | (refine brK_false ?_ ?_; (focus (simp only [List.length_nil, fx] <;> omega)); conv => whnf)
    | ((refine brK_of (fun h => ?_) (fun h => ?_)) <;> (have h2 := h; (try simp only [List.length_nil, fx] at h2); conv => whnf))
    | (refine reqK_of ?_ ?_; (focus (first | decide | omega | assumption | (simp only [List.length_nil, fx] <;> omega) | (simp [keyNew, sameKey, kEq] <;> omega))); conv => whnf)
    | (refine reqK_of ?_ ?_; rotate_left; (conv => whnf); rotate_left)
    | (refine nth_us ?_ ?_ ?_; (focus (first | omega | (simp only [List.length_nil, fx] <;> omega))); (focus (first | omega | (simp only [List.length_nil, fx] <;> omega))); conv => whnf)
    | (refine nth_is ?_ ?_ ?_; (focus (first | omega | (simp only [List.length_nil, fx] <;> omega))); (focus (first | omega | (simp only [List.length_nil, fx] <;> omega))); conv => whnf)
    | (refine nth_bs ?_ ?_ ?_; (focus (first | omega | (simp only [List.length_nil, fx] <;> omega))); (focus (first | omega | (simp only [List.length_nil, fx] <;> omega))); conv => whnf))
  all_goals first
    | (refine cr_f ?_; unfold cOk; omega)
    | (refine cr_t ?_; unfold cOk; omega)
    | (refine cr_l ?_; unfold cOk; omega)
    | (refine cr_e ?_; unfold cOk; omega)
open Classical in
noncomputable def c21 : List T → Ans
  | [.agg [.int .i64 k, .int .i64 r, .int .i64 a, .int .i64 s], .int .i64 n, .int .i64 m] => .yes (.bool (cRight ⟨k, r, a, s⟩ n m))
  | _ => .no
theorem got21 {vs : List T} {x : T} (h : Got (c21 vs) x) : FnOk Tryd.prog tgl 21 vs x := by
  unfold c21 at h
  split at h
  · rw [got_yes h]; exact ok21 _ _ _ _ _ _
  · exact (got_no h).elim
theorem nogl21 (vs : List T) (p : Prop) (d : Decidable p) (sz : Nat) (xs : List T) (h : c21 vs = @Ans.gl p d sz xs) : False := by
  unfold c21 at h
  split at h <;> cases h
theorem pk21 (vs : List T) (p : Prop) (d : Decidable p) (x : T) (h : c21 vs = @Ans.pk p d x) (hp : p) : FnOk Tryd.prog tgl 21 vs x := by
  unfold c21 at h
  split at h
  · cases h
  · cases h
noncomputable def lK2 : List (Nat × (List T → Ans)) := (20, c20) :: (21, c21) :: lK1
noncomputable def iK2 : List (Nat × Pt) := iK1
noncomputable abbrev K2 : Env := En tgl lK2 iK2
theorem env_K2 : EnvOk Tryd.prog K2 := (env_fn (env_fn env_K1 (fun _ _ => got21) (fun vs p d sz xs h _ => (nogl21 vs p d sz xs h).elim) pk21) (fun _ _ => got20) (fun vs p d sz xs h _ => (nogl20 vs p d sz xs h).elim) pk20)
noncomputable def lK3 : List (Nat × (List T → Ans)) := lK2
noncomputable def iK3 : List (Nat × Pt) := (53, inl K2 m53) :: iK2
noncomputable abbrev K3 : Env := En tgl lK3 iK3
theorem env_K3 : EnvOk Tryd.prog K3 := (env_in env_K2 env_K2 Tryd.func53 low53)
theorem inl_ixc {l : List COp} {n m : Int} (hl : l.length ≤ 4194304) {R : V → Own → Prop}
    (h0 : (∀ o ∈ l, cRight o n m = true) → ∀ z, z = -1 → R (.t (.int .i64 z)) [(69, .cells [.t (.int .i64 m)]), (68, .cells [.t (.int .i64 n)])])
    (h1 : ∀ z : Int, 0 ≤ z → (∃ o ∈ l, cRight o n m = false) → R (.t (.int .i64 z)) [(69, .cells [.t (.int .i64 m)]), (68, .cells [.t (.int .i64 n)])]) :
    inl K3 m76 0 [.t (.list 4 (os l)), .fn (.func 53) [] [.ptr 68 0, .ptr 69 0]] [(69, .cells [.t (.int .i64 m)]), (68, .cells [.t (.int .i64 n)])] R := by
  unfold inl
  conv => whnf
  repeat' (first
    | (refine brK_true rfl ?_; conv => whnf)
    | (refine brK_false rfl ?_; conv => whnf)
    | (refine brK_true (by assumption) ?_; conv => whnf)
    | (refine brK_false (by assumption) ?_; conv => whnf)
    | (refine brK_true ?_ ?_; (focus (simp only [List.length_nil, fx, os_len] <;> omega)); conv => whnf)
    | (refine brK_false ?_ ?_; (focus (simp only [List.length_nil, fx, os_len] <;> omega)); conv => whnf)
    | ((refine brK_of (fun h => ?_) (fun h => ?_)) <;> (have h2 := h; (try simp only [List.length_nil, fx, os_len] at h2); conv => whnf))
    | (refine reqK_of ?_ ?_; (focus (first | decide | omega | assumption | (simp only [List.length_nil, fx, os_len] <;> omega) | (simp [keyNew, sameKey, kEq] <;> omega))); conv => whnf)
    | (refine reqK_of ?_ ?_; rotate_left; (conv => whnf); rotate_left)
    | (refine nth_us ?_ ?_ ?_; (focus (first | omega | (simp only [List.length_nil, fx, os_len] <;> omega))); (focus (first | omega | (simp only [List.length_nil, fx, os_len] <;> omega))); conv => whnf)
    | (refine nth_is ?_ ?_ ?_; (focus (first | omega | (simp only [List.length_nil, fx, os_len] <;> omega))); (focus (first | omega | (simp only [List.length_nil, fx, os_len] <;> omega))); conv => whnf)
    | (refine nth_bs ?_ ?_ ?_; (focus (first | omega | (simp only [List.length_nil, fx, os_len] <;> omega))); (focus (first | omega | (simp only [List.length_nil, fx, os_len] <;> omega))); conv => whnf))
  refine loopFn [] (fun s => [.kill 5, .kill 9, .kill 10, .kill 11, .kill 12, .kill 13, .kill 14, .kill 15, .kill 16, .kill 17, .kill 18]) (fun k : Nat => [(8, .t (.int .i64 (k : Int)))]) (fun _ => [(69, .cells [.t (.int .i64 m)]), (68, .cells [.t (.int .i64 n)])]) (fun k => k ≤ l.length ∧ ∀ j : Nat, j < k → cRight (atO l j) n m = true) (fun k => l.length - k) 0 ⟨Nat.zero_le _, fun j h => by omega⟩ ?_
  conv => whnf
  refine ⟨⟨rfl, rfl⟩, fun k hk C hC => ?_⟩
  obtain ⟨hk1, hk2⟩ := hk
  have hw : IntKind.i64.wrap ((k : Int) + 1) = (k : Int) + 1 := wrap_i64 ⟨by omega, by omega⟩
  conv => whnf
  repeat' (first
    | (refine brK_true rfl ?_; conv => whnf)
    | (refine brK_false rfl ?_; conv => whnf)
    | (refine brK_true (by assumption) ?_; conv => whnf)
    | (refine brK_false (by assumption) ?_; conv => whnf)
    | (refine brK_true ?_ ?_; (focus (simp only [List.length_nil, fx, os_len] <;> omega)); conv => whnf)
    | (refine brK_false ?_ ?_; (focus (simp only [List.length_nil, fx, os_len] <;> omega)); conv => whnf)
    | ((refine brK_of (fun h => ?_) (fun h => ?_)) <;> (have h2 := h; (try simp only [List.length_nil, fx, os_len] at h2); conv => whnf))
    | (refine reqK_of ?_ ?_; (focus (first | decide | omega | assumption | (simp only [List.length_nil, fx, os_len] <;> omega) | (simp [keyNew, sameKey, kEq] <;> omega))); conv => whnf)
    | (refine reqK_of ?_ ?_; rotate_left; (conv => whnf); rotate_left)
    | (refine nth_os ?_ ?_ ?_; (focus (first | omega | (simp only [List.length_nil, fx, os_len] <;> omega))); (focus (first | omega | (simp only [List.length_nil, fx, os_len] <;> omega))); conv => whnf)
    | (refine nth_us ?_ ?_ ?_; (focus (first | omega | (simp only [List.length_nil, fx, os_len] <;> omega))); (focus (first | omega | (simp only [List.length_nil, fx, os_len] <;> omega))); conv => whnf)
    | (refine nth_is ?_ ?_ ?_; (focus (first | omega | (simp only [List.length_nil, fx, os_len] <;> omega))); (focus (first | omega | (simp only [List.length_nil, fx, os_len] <;> omega))); conv => whnf)
    | (refine nth_bs ?_ ?_ ?_; (focus (first | omega | (simp only [List.length_nil, fx, os_len] <;> omega))); (focus (first | omega | (simp only [List.length_nil, fx, os_len] <;> omega))); conv => whnf))
  · exact h1 _ (by omega) ⟨atO l (k : Int), atO_mem (by simpa using show k < l.length by omega), by assumption⟩
  · refine loopC (hC (k + 1) ⟨by omega, fun j hj => ?_⟩ (by omega)) ?_
    · rcases Nat.lt_succ_iff_lt_or_eq.1 hj with h | h
      · exact hk2 j h
      · subst h; assumption
    · rw [hw, Int.natCast_succ]; rfl
  · refine h0 (fun o ho => ?_) _ rfl
    obtain ⟨j, hj, rfl⟩ := List.mem_iff_getElem.1 ho
    have := hk2 j (by omega)
    rw [atO_at hj] at this
    exact this
def ptIxc : Pt := fun _ args own R => ∃ l n m, args = [.t (.list 4 (os l)), .fn (.func 53) [] [.ptr 68 0, .ptr 69 0]] ∧ own = [(69, .cells [.t (.int .i64 m)]), (68, .cells [.t (.int .i64 n)])] ∧ l.length ≤ 4194304 ∧
  ((∀ o ∈ l, cRight o n m = true) → ∀ z, z = -1 → R (.t (.int .i64 z)) own) ∧ (∀ z : Int, 0 ≤ z → (∃ o ∈ l, cRight o n m = false) → R (.t (.int .i64 z)) own)
theorem ptIxc_ok (base : Nat) (args : List V) (own : Own) (R : V → Own → Prop) (h : ptIxc base args own R) : FnV Tryd.prog tgl 76 args own R := by
  obtain ⟨l, n, m, rfl, rfl, h1, h2, h3⟩ := h
  exact inl_ok (base := 0) env_K3 Tryd.func76 low76 (inl_ixc h1 h2 h3)
noncomputable def lK4 : List (Nat × (List T → Ans)) := lK2
noncomputable def iK4 : List (Nat × Pt) := (76, ptIxc) :: iK2
noncomputable abbrev K4 : Env := En tgl lK4 iK4
theorem env_K4 : EnvOk Tryd.prog K4 := env_ptK env_K2 ptIxc_ok
noncomputable def lK5 : List (Nat × (List T → Ans)) := lK4
noncomputable def iK5 : List (Nat × Pt) := (52, inl K4 m52) :: iK4
noncomputable abbrev K5 : Env := En tgl lK5 iK5
theorem env_K5 : EnvOk Tryd.prog K5 := (env_in env_K4 env_K4 Tryd.func52 low52)
theorem fits_f {l : List COp} {n m : Int} (h : ¬ l.length ≤ 64) : cFits l n m = false := by unfold cFits; rw [decide_eq_false h]; rfl
theorem fits_all {l : List COp} {n m : Int} (h : l.length ≤ 64) : cFits l n m = l.all fun o => cRight o n m := by unfold cFits; rw [decide_eq_true h]; rfl
theorem ok22 (xs : List T) (n m : Int) (hq : IsO xs) : FnOk Tryd.prog tgl 22 [.list 4 xs, .int .i64 n, .int .i64 m] (.bool (cFits (opsOf xs) n m)) := by
  refine fn_ok (Γ := K5) env_K5 Tryd.func22 low22 ?_
  obtain ⟨l, rfl, hl, hL⟩ := hq
  rw [opsOf_os]
  conv => whnf
  repeat' (first
    | (refine brK_true rfl ?_; conv => whnf)
    | (refine brK_false rfl ?_; conv => whnf)
    | (refine brK_true (by assumption) ?_; conv => whnf)
    | (refine brK_false (by assumption) ?_; conv => whnf)
    | (refine brK_true ?_ ?_; (focus (simp only [List.length_nil, fx, os_len] <;> omega)); conv => whnf)
    | (refine brK_false ?_ ?_; (focus (simp only [List.length_nil, fx, os_len] <;> omega)); conv => whnf)
    | ((refine brK_of (fun h => ?_) (fun h => ?_)) <;> (have h2 := h; (try simp only [List.length_nil, fx, os_len] at h2); conv => whnf))
    | (refine reqK_of ?_ ?_; (focus (first | decide | omega | assumption | (simp only [List.length_nil, fx, os_len] <;> omega) | (simp [keyNew, sameKey, kEq] <;> omega))); conv => whnf)
    | (refine reqK_of ?_ ?_; rotate_left; (conv => whnf); rotate_left)
    | (refine nth_us ?_ ?_ ?_; (focus (first | omega | (simp only [List.length_nil, fx, os_len] <;> omega))); (focus (first | omega | (simp only [List.length_nil, fx, os_len] <;> omega))); conv => whnf)
    | (refine nth_is ?_ ?_ ?_; (focus (first | omega | (simp only [List.length_nil, fx, os_len] <;> omega))); (focus (first | omega | (simp only [List.length_nil, fx, os_len] <;> omega))); conv => whnf)
    | (refine nth_bs ?_ ?_ ?_; (focus (first | omega | (simp only [List.length_nil, fx, os_len] <;> omega))); (focus (first | omega | (simp only [List.length_nil, fx, os_len] <;> omega))); conv => whnf))
  · refine ⟨l, n, m, rfl, rfl, hl, fun hall z hz => ?_, fun z hz hex => ?_⟩
    · have hz0 : leI 0 z = false := by rw [leI_def, decide_eq_false (by omega)]
      conv => whnf
      repeat' (first
        | (refine brK_true rfl ?_; conv => whnf)
        | (refine brK_false rfl ?_; conv => whnf)
        | (refine brK_true (by assumption) ?_; conv => whnf)
        | (refine brK_false (by assumption) ?_; conv => whnf)
        | (refine brK_true ?_ ?_; (focus (simp only [List.length_nil, fx] <;> omega)); conv => whnf)
        | (refine brK_false ?_ ?_; (focus (simp only [List.length_nil, fx] <;> omega)); conv => whnf)
        | ((refine brK_of (fun h => ?_) (fun h => ?_)) <;> (have h2 := h; (try simp only [List.length_nil, fx] at h2); conv => whnf))
        | (refine reqK_of ?_ ?_; (focus (first | decide | omega | assumption | (simp only [List.length_nil, fx] <;> omega) | (simp [keyNew, sameKey, kEq] <;> omega))); conv => whnf)
        | (refine reqK_of ?_ ?_; rotate_left; (conv => whnf); rotate_left)
        | (refine nth_us ?_ ?_ ?_; (focus (first | omega | (simp only [List.length_nil, fx] <;> omega))); (focus (first | omega | (simp only [List.length_nil, fx] <;> omega))); conv => whnf)
        | (refine nth_is ?_ ?_ ?_; (focus (first | omega | (simp only [List.length_nil, fx] <;> omega))); (focus (first | omega | (simp only [List.length_nil, fx] <;> omega))); conv => whnf)
        | (refine nth_bs ?_ ?_ ?_; (focus (first | omega | (simp only [List.length_nil, fx] <;> omega))); (focus (first | omega | (simp only [List.length_nil, fx] <;> omega))); conv => whnf))
      rw [hz0, fits_all (by omega), List.all_eq_true.2 hall]; rfl
    · have hz0 : leI 0 z = true := by rw [leI_def, decide_eq_true hz]
      conv => whnf
      repeat' (first
        | (refine brK_true rfl ?_; conv => whnf)
        | (refine brK_false rfl ?_; conv => whnf)
        | (refine brK_true (by assumption) ?_; conv => whnf)
        | (refine brK_false (by assumption) ?_; conv => whnf)
        | (refine brK_true ?_ ?_; (focus (simp only [List.length_nil, fx] <;> omega)); conv => whnf)
        | (refine brK_false ?_ ?_; (focus (simp only [List.length_nil, fx] <;> omega)); conv => whnf)
        | ((refine brK_of (fun h => ?_) (fun h => ?_)) <;> (have h2 := h; (try simp only [List.length_nil, fx] at h2); conv => whnf))
        | (refine reqK_of ?_ ?_; (focus (first | decide | omega | assumption | (simp only [List.length_nil, fx] <;> omega) | (simp [keyNew, sameKey, kEq] <;> omega))); conv => whnf)
        | (refine reqK_of ?_ ?_; rotate_left; (conv => whnf); rotate_left)
        | (refine nth_us ?_ ?_ ?_; (focus (first | omega | (simp only [List.length_nil, fx] <;> omega))); (focus (first | omega | (simp only [List.length_nil, fx] <;> omega))); conv => whnf)
        | (refine nth_is ?_ ?_ ?_; (focus (first | omega | (simp only [List.length_nil, fx] <;> omega))); (focus (first | omega | (simp only [List.length_nil, fx] <;> omega))); conv => whnf)
        | (refine nth_bs ?_ ?_ ?_; (focus (first | omega | (simp only [List.length_nil, fx] <;> omega))); (focus (first | omega | (simp only [List.length_nil, fx] <;> omega))); conv => whnf))
      obtain ⟨o, ho, hf⟩ := hex
      have : (l.all fun o => cRight o n m) = false := by
        rw [← Bool.not_eq_true]; intro ha
        rw [List.all_eq_true.1 ha o ho] at hf; cases hf
      rw [hz0, fits_all (by omega), this]; rfl
  all_goals rw [fits_f (by omega)]
open Classical in
noncomputable def c22 : List T → Ans
  | [.list 4 xs, .int .i64 n, .int .i64 m] => .req (IsO xs) (.bool (cFits (opsOf xs) n m))
  | _ => .no
theorem got22 {vs : List T} {x : T} (h : Got (c22 vs) x) : FnOk Tryd.prog tgl 22 vs x := by
  unfold c22 at h
  split at h
  · obtain ⟨hq, e⟩ := got_req h; rw [e]; exact ok22 _ _ _ hq
  · exact (got_no h).elim
theorem nogl22 (vs : List T) (p : Prop) (d : Decidable p) (sz : Nat) (xs : List T) (h : c22 vs = @Ans.gl p d sz xs) : False := by
  unfold c22 at h
  split at h <;> cases h
theorem pk22 (vs : List T) (p : Prop) (d : Decidable p) (x : T) (h : c22 vs = @Ans.pk p d x) (hp : p) : FnOk Tryd.prog tgl 22 vs x := by
  unfold c22 at h
  split at h
  · cases h
  · cases h
theorem ok24 (xs : List T) (hq : IsO xs) : FnOk Tryd.prog tgl 24 [.list 4 xs] (.int .i64 (cWrites (opsOf xs))) := by
  refine fn_ok (Γ := K2) env_K2 Tryd.func24 low24 ?_
  obtain ⟨l, rfl, hl, hL⟩ := hq
  rw [opsOf_os]
  conv => whnf
  repeat' (first
    | (refine brK_true rfl ?_; conv => whnf)
    | (refine brK_false rfl ?_; conv => whnf)
    | (refine brK_true (by assumption) ?_; conv => whnf)
    | (refine brK_false (by assumption) ?_; conv => whnf)
    | (refine brK_true ?_ ?_; (focus (simp only [List.length_nil, fx, os_len] <;> omega)); conv => whnf)
    | (refine brK_false ?_ ?_; (focus (simp only [List.length_nil, fx, os_len] <;> omega)); conv => whnf)
    | ((refine brK_of (fun h => ?_) (fun h => ?_)) <;> (have h2 := h; (try simp only [List.length_nil, fx, os_len] at h2); conv => whnf))
    | (refine reqK_of ?_ ?_; (focus (first | decide | omega | assumption | (simp only [List.length_nil, fx, os_len] <;> omega) | (simp [keyNew, sameKey, kEq] <;> omega))); conv => whnf)
    | (refine reqK_of ?_ ?_; rotate_left; (conv => whnf); rotate_left)
    | (refine nth_us ?_ ?_ ?_; (focus (first | omega | (simp only [List.length_nil, fx, os_len] <;> omega))); (focus (first | omega | (simp only [List.length_nil, fx, os_len] <;> omega))); conv => whnf)
    | (refine nth_is ?_ ?_ ?_; (focus (first | omega | (simp only [List.length_nil, fx, os_len] <;> omega))); (focus (first | omega | (simp only [List.length_nil, fx, os_len] <;> omega))); conv => whnf)
    | (refine nth_bs ?_ ?_ ?_; (focus (first | omega | (simp only [List.length_nil, fx, os_len] <;> omega))); (focus (first | omega | (simp only [List.length_nil, fx, os_len] <;> omega))); conv => whnf))
  refine loopUp [] [.kill 5, .kill 9, .kill 10, .kill 11, .kill 12, .kill 13, .kill 14, .kill 15, .kill 16, .kill 17, .kill 18, .keep []] (fun k : Nat => [(8, .t (.int .i64 (k : Int))), (3, .t (.int .i64 (cWrites (l.take k))))]) (fun _ => []) (fun k => k ≤ l.length) (fun k => l.length - k) 0 (Nat.zero_le _) ?_
  conv => whnf
  refine ⟨⟨rfl, rfl⟩, fun k hk C hC => ?_⟩
  have hw : IntKind.i64.wrap ((k : Int) + 1) = (k : Int) + 1 := wrap_i64 ⟨by omega, by omega⟩
  have hb := wr_le (l.take k)
  rw [List.length_take] at hb
  have hw2 : IntKind.i64.wrap (cWrites (l.take k) + 1) = cWrites (l.take k) + 1 := wrap_i64 ⟨by omega, by omega⟩
  conv => whnf
  repeat' (first
    | (refine brK_true rfl ?_; conv => whnf)
    | (refine brK_false rfl ?_; conv => whnf)
    | (refine brK_true (by assumption) ?_; conv => whnf)
    | (refine brK_false (by assumption) ?_; conv => whnf)
    | (refine brK_true ?_ ?_; (focus (simp only [List.length_nil, fx, os_len] <;> omega)); conv => whnf)
    | (refine brK_false ?_ ?_; (focus (simp only [List.length_nil, fx, os_len] <;> omega)); conv => whnf)
    | ((refine brK_of (fun h => ?_) (fun h => ?_)) <;> (have h2 := h; (try simp only [List.length_nil, fx, os_len] at h2); conv => whnf))
    | (refine reqK_of ?_ ?_; (focus (first | decide | omega | assumption | (simp only [List.length_nil, fx, os_len] <;> omega) | (simp [keyNew, sameKey, kEq] <;> omega))); conv => whnf)
    | (refine reqK_of ?_ ?_; rotate_left; (conv => whnf); rotate_left)
    | (refine nth_os ?_ ?_ ?_; (focus (first | omega | (simp only [List.length_nil, fx, os_len] <;> omega))); (focus (first | omega | (simp only [List.length_nil, fx, os_len] <;> omega))); conv => whnf)
    | (refine nth_us ?_ ?_ ?_; (focus (first | omega | (simp only [List.length_nil, fx, os_len] <;> omega))); (focus (first | omega | (simp only [List.length_nil, fx, os_len] <;> omega))); conv => whnf)
    | (refine nth_is ?_ ?_ ?_; (focus (first | omega | (simp only [List.length_nil, fx, os_len] <;> omega))); (focus (first | omega | (simp only [List.length_nil, fx, os_len] <;> omega))); conv => whnf)
    | (refine nth_bs ?_ ?_ ?_; (focus (first | omega | (simp only [List.length_nil, fx, os_len] <;> omega))); (focus (first | omega | (simp only [List.length_nil, fx, os_len] <;> omega))); conv => whnf))
  · refine loopC (hC (k + 1) (by omega) (by omega)) ?_
    rw [hw, hw2, wr_take (by omega), if_pos (by assumption), Int.natCast_succ]; rfl
  · refine loopC (hC (k + 1) (by omega) (by omega)) ?_
    rw [hw, wr_take (by omega), if_neg (by assumption), Int.natCast_succ, Int.add_zero]; rfl
  · rw [List.take_of_length_le (by omega)]
open Classical in
noncomputable def c24 : List T → Ans
  | [.list 4 xs] => .req (IsO xs) (.int .i64 (cWrites (opsOf xs)))
  | _ => .no
theorem got24 {vs : List T} {x : T} (h : Got (c24 vs) x) : FnOk Tryd.prog tgl 24 vs x := by
  unfold c24 at h
  split at h
  · obtain ⟨hq, e⟩ := got_req h; rw [e]; exact ok24 _ hq
  · exact (got_no h).elim
theorem nogl24 (vs : List T) (p : Prop) (d : Decidable p) (sz : Nat) (xs : List T) (h : c24 vs = @Ans.gl p d sz xs) : False := by
  unfold c24 at h
  split at h <;> cases h
theorem pk24 (vs : List T) (p : Prop) (d : Decidable p) (x : T) (h : c24 vs = @Ans.pk p d x) (hp : p) : FnOk Tryd.prog tgl 24 vs x := by
  unfold c24 at h
  split at h
  · cases h
  · cases h
theorem ok25 (xs : List T) (hq : IsO xs) : FnOk Tryd.prog tgl 25 [.list 4 xs] (.int .i64 (cWrites (opsOf xs))) := by
  refine fn_ok (Γ := K2) env_K2 Tryd.func25 low25 ?_
  obtain ⟨l, rfl, hl, hL⟩ := hq
  rw [opsOf_os]
  conv => whnf
  repeat' (first
    | (refine brK_true rfl ?_; conv => whnf)
    | (refine brK_false rfl ?_; conv => whnf)
    | (refine brK_true (by assumption) ?_; conv => whnf)
    | (refine brK_false (by assumption) ?_; conv => whnf)
    | (refine brK_true ?_ ?_; (focus (simp only [List.length_nil, fx, os_len] <;> omega)); conv => whnf)
    | (refine brK_false ?_ ?_; (focus (simp only [List.length_nil, fx, os_len] <;> omega)); conv => whnf)
    | ((refine brK_of (fun h => ?_) (fun h => ?_)) <;> (have h2 := h; (try simp only [List.length_nil, fx, os_len] at h2); conv => whnf))
    | (refine reqK_of ?_ ?_; (focus (first | decide | omega | assumption | (simp only [List.length_nil, fx, os_len] <;> omega) | (simp [keyNew, sameKey, kEq] <;> omega))); conv => whnf)
    | (refine reqK_of ?_ ?_; rotate_left; (conv => whnf); rotate_left)
    | (refine nth_us ?_ ?_ ?_; (focus (first | omega | (simp only [List.length_nil, fx, os_len] <;> omega))); (focus (first | omega | (simp only [List.length_nil, fx, os_len] <;> omega))); conv => whnf)
    | (refine nth_is ?_ ?_ ?_; (focus (first | omega | (simp only [List.length_nil, fx, os_len] <;> omega))); (focus (first | omega | (simp only [List.length_nil, fx, os_len] <;> omega))); conv => whnf)
    | (refine nth_bs ?_ ?_ ?_; (focus (first | omega | (simp only [List.length_nil, fx, os_len] <;> omega))); (focus (first | omega | (simp only [List.length_nil, fx, os_len] <;> omega))); conv => whnf))
  refine loopUp [] [.kill 5, .kill 6, .kill 7, .kill 8, .kill 9, .kill 10, .kill 11, .kill 12, .kill 13, .kill 14, .kill 15, .kill 16, .kill 17, .kill 18] (fun k : Nat => [(4, .t (.int .i64 (k : Int))), (3, .t (.int .i64 (cWrites (l.take k))))]) (fun _ => []) (fun k => k ≤ l.length) (fun k => l.length - k) 0 (Nat.zero_le _) ?_
  conv => whnf
  refine ⟨⟨rfl, rfl⟩, fun k hk C hC => ?_⟩
  have hw : IntKind.i64.wrap ((k : Int) + 1) = (k : Int) + 1 := wrap_i64 ⟨by omega, by omega⟩
  have hb := wr_le (l.take k)
  rw [List.length_take] at hb
  have hw2 : IntKind.i64.wrap (cWrites (l.take k) + 1) = cWrites (l.take k) + 1 := wrap_i64 ⟨by omega, by omega⟩
  conv => whnf
  repeat' (first
    | (refine brK_true rfl ?_; conv => whnf)
    | (refine brK_false rfl ?_; conv => whnf)
    | (refine brK_true (by assumption) ?_; conv => whnf)
    | (refine brK_false (by assumption) ?_; conv => whnf)
    | (refine brK_true ?_ ?_; (focus (simp only [List.length_nil, fx, os_len] <;> omega)); conv => whnf)
    | (refine brK_false ?_ ?_; (focus (simp only [List.length_nil, fx, os_len] <;> omega)); conv => whnf)
    | ((refine brK_of (fun h => ?_) (fun h => ?_)) <;> (have h2 := h; (try simp only [List.length_nil, fx, os_len] at h2); conv => whnf))
    | (refine reqK_of ?_ ?_; (focus (first | decide | omega | assumption | (simp only [List.length_nil, fx, os_len] <;> omega) | (simp [keyNew, sameKey, kEq] <;> omega))); conv => whnf)
    | (refine reqK_of ?_ ?_; rotate_left; (conv => whnf); rotate_left)
    | (refine nth_os ?_ ?_ ?_; (focus (first | omega | (simp only [List.length_nil, fx, os_len] <;> omega))); (focus (first | omega | (simp only [List.length_nil, fx, os_len] <;> omega))); conv => whnf)
    | (refine nth_us ?_ ?_ ?_; (focus (first | omega | (simp only [List.length_nil, fx, os_len] <;> omega))); (focus (first | omega | (simp only [List.length_nil, fx, os_len] <;> omega))); conv => whnf)
    | (refine nth_is ?_ ?_ ?_; (focus (first | omega | (simp only [List.length_nil, fx, os_len] <;> omega))); (focus (first | omega | (simp only [List.length_nil, fx, os_len] <;> omega))); conv => whnf)
    | (refine nth_bs ?_ ?_ ?_; (focus (first | omega | (simp only [List.length_nil, fx, os_len] <;> omega))); (focus (first | omega | (simp only [List.length_nil, fx, os_len] <;> omega))); conv => whnf))
  · refine loopC (hC (k + 1) (by omega) (by omega)) ?_
    rw [hw, hw2, wr_take (by omega), if_pos (by assumption), Int.natCast_succ]; rfl
  · refine loopC (hC (k + 1) (by omega) (by omega)) ?_
    rw [hw, wr_take (by omega), if_neg (by assumption), Int.natCast_succ, Int.add_zero]; rfl
  · rw [List.take_of_length_le (by omega)]
open Classical in
noncomputable def c25 : List T → Ans
  | [.list 4 xs] => .req (IsO xs) (.int .i64 (cWrites (opsOf xs)))
  | _ => .no
theorem got25 {vs : List T} {x : T} (h : Got (c25 vs) x) : FnOk Tryd.prog tgl 25 vs x := by
  unfold c25 at h
  split at h
  · obtain ⟨hq, e⟩ := got_req h; rw [e]; exact ok25 _ hq
  · exact (got_no h).elim
theorem nogl25 (vs : List T) (p : Prop) (d : Decidable p) (sz : Nat) (xs : List T) (h : c25 vs = @Ans.gl p d sz xs) : False := by
  unfold c25 at h
  split at h <;> cases h
theorem pk25 (vs : List T) (p : Prop) (d : Decidable p) (x : T) (h : c25 vs = @Ans.pk p d x) (hp : p) : FnOk Tryd.prog tgl 25 vs x := by
  unfold c25 at h
  split at h
  · cases h
  · cases h
theorem ok23 (xs : List T) (n m : Int) (hq : IsO xs) : FnOk Tryd.prog tgl 23 [.list 4 xs, .int .i64 n, .int .i64 m] (.bool (cFits (opsOf xs) n m)) := by
  refine fn_ok (Γ := K2) env_K2 Tryd.func23 low23 ?_
  obtain ⟨l, rfl, hl, hL⟩ := hq
  rw [opsOf_os]
  conv => whnf
  repeat' (first
    | (refine brK_true rfl ?_; conv => whnf)
    | (refine brK_false rfl ?_; conv => whnf)
    | (refine brK_true (by assumption) ?_; conv => whnf)
    | (refine brK_false (by assumption) ?_; conv => whnf)
    | (refine brK_true ?_ ?_; (focus (simp only [List.length_nil, fx, os_len] <;> omega)); conv => whnf)
    | (refine brK_false ?_ ?_; (focus (simp only [List.length_nil, fx, os_len] <;> omega)); conv => whnf)
    | ((refine brK_of (fun h => ?_) (fun h => ?_)) <;> (have h2 := h; (try simp only [List.length_nil, fx, os_len] at h2); conv => whnf))
    | (refine reqK_of ?_ ?_; (focus (first | decide | omega | assumption | (simp only [List.length_nil, fx, os_len] <;> omega) | (simp [keyNew, sameKey, kEq] <;> omega))); conv => whnf)
    | (refine reqK_of ?_ ?_; rotate_left; (conv => whnf); rotate_left)
    | (refine nth_us ?_ ?_ ?_; (focus (first | omega | (simp only [List.length_nil, fx, os_len] <;> omega))); (focus (first | omega | (simp only [List.length_nil, fx, os_len] <;> omega))); conv => whnf)
    | (refine nth_is ?_ ?_ ?_; (focus (first | omega | (simp only [List.length_nil, fx, os_len] <;> omega))); (focus (first | omega | (simp only [List.length_nil, fx, os_len] <;> omega))); conv => whnf)
    | (refine nth_bs ?_ ?_ ?_; (focus (first | omega | (simp only [List.length_nil, fx, os_len] <;> omega))); (focus (first | omega | (simp only [List.length_nil, fx, os_len] <;> omega))); conv => whnf))
  refine loopUp [] [.kill 8, .kill 9, .kill 10, .kill 11, .kill 12, .kill 13, .kill 14, .kill 15, .kill 16, .kill 17, .kill 18, .kill 19, .kill 20, .kill 21] (fun k : Nat => [(7, .t (.int .i64 (k : Int)))]) (fun _ => []) (fun k => k ≤ l.length ∧ ∀ j : Nat, j < k → cRight (atO l j) n m = true) (fun k => l.length - k) 0 ⟨Nat.zero_le _, fun j h => by omega⟩ ?_
  conv => whnf
  refine ⟨⟨rfl, rfl⟩, fun k hk C hC => ?_⟩
  obtain ⟨hk1, hk2⟩ := hk
  have hw : IntKind.i64.wrap ((k : Int) + 1) = (k : Int) + 1 := wrap_i64 ⟨by omega, by omega⟩
  conv => whnf
  repeat' (first
    | (refine brK_true rfl ?_; conv => whnf)
    | (refine brK_false rfl ?_; conv => whnf)
    | (refine brK_true (by assumption) ?_; conv => whnf)
    | (refine brK_false (by assumption) ?_; conv => whnf)
    | (refine brK_true ?_ ?_; (focus (simp only [List.length_nil, fx, os_len] <;> omega)); conv => whnf)
    | (refine brK_false ?_ ?_; (focus (simp only [List.length_nil, fx, os_len] <;> omega)); conv => whnf)
    | ((refine brK_of (fun h => ?_) (fun h => ?_)) <;> (have h2 := h; (try simp only [List.length_nil, fx, os_len] at h2); conv => whnf))
    | (refine reqK_of ?_ ?_; (focus (first | decide | omega | assumption | (simp only [List.length_nil, fx, os_len] <;> omega) | (simp [keyNew, sameKey, kEq] <;> omega))); conv => whnf)
    | (refine reqK_of ?_ ?_; rotate_left; (conv => whnf); rotate_left)
    | (refine nth_os ?_ ?_ ?_; (focus (first | omega | (simp only [List.length_nil, fx, os_len] <;> omega))); (focus (first | omega | (simp only [List.length_nil, fx, os_len] <;> omega))); conv => whnf)
    | (refine nth_us ?_ ?_ ?_; (focus (first | omega | (simp only [List.length_nil, fx, os_len] <;> omega))); (focus (first | omega | (simp only [List.length_nil, fx, os_len] <;> omega))); conv => whnf)
    | (refine nth_is ?_ ?_ ?_; (focus (first | omega | (simp only [List.length_nil, fx, os_len] <;> omega))); (focus (first | omega | (simp only [List.length_nil, fx, os_len] <;> omega))); conv => whnf)
    | (refine nth_bs ?_ ?_ ?_; (focus (first | omega | (simp only [List.length_nil, fx, os_len] <;> omega))); (focus (first | omega | (simp only [List.length_nil, fx, os_len] <;> omega))); conv => whnf))
  · have hf : (l.all fun o => cRight o n m) = false := by
      rw [← Bool.not_eq_true]; intro ha
      have h3 : cRight (atO l (k : Int)) n m = false := by assumption
      rw [List.all_eq_true.1 ha _ (atO_mem (by simpa using show k < l.length by omega))] at h3; cases h3
    unfold cFits; rw [hf, Bool.and_false]
  · refine loopC (hC (k + 1) ⟨by omega, fun j hj => ?_⟩ (by omega)) ?_
    · rcases Nat.lt_succ_iff_lt_or_eq.1 hj with h | h
      · exact hk2 j h
      · subst h; assumption
    · rw [hw, Int.natCast_succ]; rfl
  · have ha : (l.all fun o => cRight o n m) = true := List.all_eq_true.2 fun o ho => by
      obtain ⟨j, hj, rfl⟩ := List.mem_iff_getElem.1 ho
      have := hk2 j (by omega)
      rw [atO_at hj] at this
      exact this
    unfold cFits
    rw [ha, Bool.and_true, leI_def, os_len]
    exact congrArg T.bool (decide_eq_decide.2 (by omega))
open Classical in
noncomputable def c23 : List T → Ans
  | [.list 4 xs, .int .i64 n, .int .i64 m] => .req (IsO xs) (.bool (cFits (opsOf xs) n m))
  | _ => .no
theorem got23 {vs : List T} {x : T} (h : Got (c23 vs) x) : FnOk Tryd.prog tgl 23 vs x := by
  unfold c23 at h
  split at h
  · obtain ⟨hq, e⟩ := got_req h; rw [e]; exact ok23 _ _ _ hq
  · exact (got_no h).elim
theorem nogl23 (vs : List T) (p : Prop) (d : Decidable p) (sz : Nat) (xs : List T) (h : c23 vs = @Ans.gl p d sz xs) : False := by
  unfold c23 at h
  split at h <;> cases h
theorem pk23 (vs : List T) (p : Prop) (d : Decidable p) (x : T) (h : c23 vs = @Ans.pk p d x) (hp : p) : FnOk Tryd.prog tgl 23 vs x := by
  unfold c23 at h
  split at h
  · cases h
  · cases h
end Go.Nx
end
section
set_option linter.unusedVariables false
set_option linter.unusedSimpArgs false
set_option maxRecDepth 20000
set_option maxHeartbeats 4000000
namespace Go.Nx
open Go Go.RowKit Go.Proofs

noncomputable def lK6 : List (Nat × (List T → Ans)) := (56, c56) :: (54, c54) :: lK2
noncomputable def iK6 : List (Nat × Pt) := iK2
noncomputable abbrev K6 : Env := En tgl lK6 iK6
theorem env_K6 : EnvOk Tryd.prog K6 := (env_fn (env_fn env_K2 (fun _ _ => got54) (fun vs p d sz xs h _ => (nogl54 vs p d sz xs h).elim) pk54) (fun _ _ => got56) (fun vs p d sz xs h _ => (nogl56 vs p d sz xs h).elim) pk56)
theorem ok55 (r : Int) (hq : 0 ≤ r ∧ r < 4) : FnOk Tryd.prog tgl 55 [.int .i64 r] (.str (ba [bt (65 + r)])) := by
  refine fn_ok (Γ := K6) env_K6 Tryd.func55 low55 ?_
  conv => whnf
  repeat' (first
    | (refine brK_true rfl ?_; conv => whnf)
    | (refine brK_false rfl ?_; conv => whnf)
    | (refine brK_true (by assumption) ?_; conv => whnf)
    | (refine brK_false (by assumption) ?_; conv => whnf)
    | (refine brK_true ?_ ?_; (focus (simp only [List.length_nil, fx] <;> omega)); conv => whnf)
    | (refine brK_false ?_ ?_; (focus (simp only [List.length_nil, fx] <;> omega)); conv => whnf)
    | ((refine brK_of (fun h => ?_) (fun h => ?_)) <;> (have h2 := h; (try simp only [List.length_nil, fx] at h2); conv => whnf))
    | (refine reqK_of ?_ ?_; (focus (first | decide | omega | assumption | (simp only [List.length_nil, fx] <;> omega) | (simp [keyNew, sameKey, kEq] <;> omega))); conv => whnf)
    | (refine reqK_of ?_ ?_; rotate_left; (conv => whnf); rotate_left)
    | (refine nth_us ?_ ?_ ?_; (focus (first | omega | (simp only [List.length_nil, fx] <;> omega))); (focus (first | omega | (simp only [List.length_nil, fx] <;> omega))); conv => whnf)
    | (refine nth_is ?_ ?_ ?_; (focus (first | omega | (simp only [List.length_nil, fx] <;> omega))); (focus (first | omega | (simp only [List.length_nil, fx] <;> omega))); conv => whnf)
    | (refine nth_bs ?_ ?_ ?_; (focus (first | omega | (simp only [List.length_nil, fx] <;> omega))); (focus (first | omega | (simp only [List.length_nil, fx] <;> omega))); conv => whnf))
  show T.str (ba [UInt8.ofNat (IntKind.u8.wrap (IntKind.i64.wrap (65 + r))).toNat]) = _
  rw [ltr4 hq]
open Classical in
noncomputable def c55 : List T → Ans
  | [.int .i64 r] => .req (0 ≤ r ∧ r < 4) (.str (ba [bt (65 + r)]))
  | _ => .no
theorem got55 {vs : List T} {x : T} (h : Got (c55 vs) x) : FnOk Tryd.prog tgl 55 vs x := by
  unfold c55 at h
  split at h
  · obtain ⟨hq, e⟩ := got_req h; rw [e]; exact ok55 _ hq
  · exact (got_no h).elim
theorem nogl55 (vs : List T) (p : Prop) (d : Decidable p) (sz : Nat) (xs : List T) (h : c55 vs = @Ans.gl p d sz xs) : False := by
  unfold c55 at h
  split at h <;> cases h
theorem pk55 (vs : List T) (p : Prop) (d : Decidable p) (x : T) (h : c55 vs = @Ans.pk p d x) (hp : p) : FnOk Tryd.prog tgl 55 vs x := by
  unfold c55 at h
  split at h
  · cases h
  · cases h
theorem cOk_range {k r a s : Int} (h : cOk k r a s 4 4) : (0 ≤ r ∧ r < 4) ∧ (0 ≤ a ∧ a < 4) ∧ (0 ≤ s ∧ s < 4) ∧ (k = 1 ∨ k = 2 ∨ k = 3 ∨ k = 4 ∨ k = 5) := by unfold cOk at h; omega
theorem sz_let : (⟨#[65, 66, 67, 68]⟩ : ByteArray).size = 4 := rfl
theorem ok26 (k r a s : Int) : FnOk Tryd.prog tgl 26 [.agg [.int .i64 k, .int .i64 r, .int .i64 a, .int .i64 s]] (.str (cTxt ⟨k, r, a, s⟩)) := by
  refine fn_ok (Γ := K6) env_K6 Tryd.func26 low26 ?_
  cases hR : cR4 ⟨k, r, a, s⟩
  · have hc : cRight ⟨k, r, a, s⟩ 4 4 = false := by rw [cRight_44]; exact hR
    conv => whnf
    repeat' (first
      | (refine brK_true rfl ?_; conv => whnf)
      | (refine brK_false rfl ?_; conv => whnf)
      | (refine brK_true (by assumption) ?_; conv => whnf)
      | (refine brK_false (by assumption) ?_; conv => whnf)
      | (refine brK_true ?_ ?_; (focus (simp only [List.length_nil, fx] <;> omega)); conv => whnf)
      | (refine brK_false ?_ ?_; (focus (simp only [List.length_nil, fx] <;> omega)); conv => whnf)
      | ((refine brK_of (fun h => ?_) (fun h => ?_)) <;> (have h2 := h; (try simp only [List.length_nil, fx] at h2); conv => whnf))
      | (refine reqK_of ?_ ?_; (focus (first | decide | omega | assumption | (simp only [List.length_nil, fx] <;> omega) | (simp [keyNew, sameKey, kEq] <;> omega))); conv => whnf)
      | (refine reqK_of ?_ ?_; rotate_left; (conv => whnf); rotate_left)
      | (refine nth_us ?_ ?_ ?_; (focus (first | omega | (simp only [List.length_nil, fx] <;> omega))); (focus (first | omega | (simp only [List.length_nil, fx] <;> omega))); conv => whnf)
      | (refine nth_is ?_ ?_ ?_; (focus (first | omega | (simp only [List.length_nil, fx] <;> omega))); (focus (first | omega | (simp only [List.length_nil, fx] <;> omega))); conv => whnf)
      | (refine nth_bs ?_ ?_ ?_; (focus (first | omega | (simp only [List.length_nil, fx] <;> omega))); (focus (first | omega | (simp only [List.length_nil, fx] <;> omega))); conv => whnf))
    all_goals (rw [cTxt_ba, cT_q.2 hR]; rfl)
  · have hc : cRight ⟨k, r, a, s⟩ 4 4 = true := by rw [cRight_44]; exact hR
    have h4 : cOk k r a s 4 4 := cR4_iff.1 hR
    obtain ⟨hr, ha, hs, hk⟩ := cOk_range h4
    clear h4
    have hwr : IntKind.i64.wrap (r + 1) = r + 1 := wrap_i64 ⟨by omega, by omega⟩
    have hwa : IntKind.i64.wrap (a + 1) = a + 1 := wrap_i64 ⟨by omega, by omega⟩
    have hz1 : 0 ≤ r ∧ r ≤ IntKind.i64.wrap (r + 1) ∧ IntKind.i64.wrap (r + 1) ≤ (⟨#[65, 66, 67, 68]⟩ : ByteArray).size := by rw [sz_let, hwr]; omega
    have hz2 : 0 ≤ a ∧ a ≤ IntKind.i64.wrap (a + 1) ∧ IntKind.i64.wrap (a + 1) ≤ (⟨#[65, 66, 67, 68]⟩ : ByteArray).size := by rw [sz_let, hwa]; omega
    have hs2 : 0 ≤ s ∧ s < 100 := by omega
    have er : (⟨#[65, 66, 67, 68]⟩ : ByteArray).extract ((some r).getD 0).toNat ((some (IntKind.i64.wrap (r + 1))).getD (⟨#[65, 66, 67, 68]⟩ : ByteArray).size).toNat = ba [bt (65 + r)] := ext4 hr
    have ea : (⟨#[65, 66, 67, 68]⟩ : ByteArray).extract ((some a).getD 0).toNat ((some (IntKind.i64.wrap (a + 1))).getD (⟨#[65, 66, 67, 68]⟩ : ByteArray).size).toNat = ba [bt (65 + a)] := ext4 ha
    conv => whnf
    repeat' (first
      | (refine brK_true rfl ?_; conv => whnf)
      | (refine brK_false rfl ?_; conv => whnf)
      | (refine brK_true (by assumption) ?_; conv => whnf)
      | (refine brK_false (by assumption) ?_; conv => whnf)
      | (refine brK_true ?_ ?_; (focus (simp only [List.length_nil, fx] <;> omega)); conv => whnf)
      | (refine brK_false ?_ ?_; (focus (simp only [List.length_nil, fx] <;> omega)); conv => whnf)
      | ((refine brK_of (fun h => ?_) (fun h => ?_)) <;> (have h2 := h; (try simp only [List.length_nil, fx] at h2); conv => whnf))
      | (refine reqK_of ?_ ?_; (focus (first | decide | omega | assumption | (simp only [List.length_nil, fx] <;> omega) | (simp [keyNew, sameKey, kEq] <;> omega))); conv => whnf)
      | (refine reqK_of ?_ ?_; rotate_left; (conv => whnf); rotate_left)
      | (refine nth_us ?_ ?_ ?_; (focus (first | omega | (simp only [List.length_nil, fx] <;> omega))); (focus (first | omega | (simp only [List.length_nil, fx] <;> omega))); conv => whnf)
      | (refine nth_is ?_ ?_ ?_; (focus (first | omega | (simp only [List.length_nil, fx] <;> omega))); (focus (first | omega | (simp only [List.length_nil, fx] <;> omega))); conv => whnf)
      | (refine nth_bs ?_ ?_ ?_; (focus (first | omega | (simp only [List.length_nil, fx] <;> omega))); (focus (first | omega | (simp only [List.length_nil, fx] <;> omega))); conv => whnf))
    all_goals simp only [er, ea, dig4 hs, lit_46, lit_61, lit_new, lit_0, ba_app, ba_size, cTxt_ba]
    all_goals first
      | (simp only [List.length_append, List.length_cons, List.length_nil]; omega)
      | (have e : k = 1 := (by omega); subst e; rw [cT_1 hR]; rfl)
      | (have e : k = 2 := (by omega); subst e; rw [cT_2 hR]; rfl)
      | (have e : k = 3 := (by omega); subst e; rw [cT_3 hR]; rfl)
      | (have e : k = 4 := (by omega); subst e; rw [cT_4 hR]; rfl)
      | (have e : k = 5 := (by omega); subst e; rw [cT_5 hR]; rfl)
open Classical in
noncomputable def c26 : List T → Ans
  | [.agg [.int .i64 k, .int .i64 r, .int .i64 a, .int .i64 s]] => .yes (.str (cTxt ⟨k, r, a, s⟩))
  | _ => .no
theorem got26 {vs : List T} {x : T} (h : Got (c26 vs) x) : FnOk Tryd.prog tgl 26 vs x := by
  unfold c26 at h
  split at h
  · rw [got_yes h]; exact ok26 _ _ _ _
  · exact (got_no h).elim
theorem nogl26 (vs : List T) (p : Prop) (d : Decidable p) (sz : Nat) (xs : List T) (h : c26 vs = @Ans.gl p d sz xs) : False := by
  unfold c26 at h
  split at h <;> cases h
theorem pk26 (vs : List T) (p : Prop) (d : Decidable p) (x : T) (h : c26 vs = @Ans.pk p d x) (hp : p) : FnOk Tryd.prog tgl 26 vs x := by
  unfold c26 at h
  split at h
  · cases h
  · cases h
noncomputable def lK7 : List (Nat × (List T → Ans)) := (55, c55) :: lK6
noncomputable def iK7 : List (Nat × Pt) := iK6
noncomputable abbrev K7 : Env := En tgl lK7 iK7
theorem env_K7 : EnvOk Tryd.prog K7 := (env_fn env_K6 (fun _ _ => got55) (fun vs p d sz xs h _ => (nogl55 vs p d sz xs h).elim) pk55)
theorem ok27 (k r a s : Int) : FnOk Tryd.prog tgl 27 [.agg [.int .i64 k, .int .i64 r, .int .i64 a, .int .i64 s]] (.str (cTxt ⟨k, r, a, s⟩)) := by
  refine fn_ok (Γ := K7) env_K7 Tryd.func27 low27 ?_
  cases hR : cR4 ⟨k, r, a, s⟩
  · have hc : cRight ⟨k, r, a, s⟩ 4 4 = false := by rw [cRight_44]; exact hR
    conv => whnf
    repeat' (first
      | (refine brK_true rfl ?_; conv => whnf)
      | (refine brK_false rfl ?_; conv => whnf)
      | (refine brK_true (by assumption) ?_; conv => whnf)
      | (refine brK_false (by assumption) ?_; conv => whnf)
      | (refine brK_true ?_ ?_; (focus (simp only [List.length_nil, fx] <;> omega)); conv => whnf)
      | (refine brK_false ?_ ?_; (focus (simp only [List.length_nil, fx] <;> omega)); conv => whnf)
      | ((refine brK_of (fun h => ?_) (fun h => ?_)) <;> (have h2 := h; (try simp only [List.length_nil, fx] at h2); conv => whnf))
      | (refine reqK_of ?_ ?_; (focus (first | decide | omega | assumption | (simp only [List.length_nil, fx] <;> omega) | (simp [keyNew, sameKey, kEq] <;> omega))); conv => whnf)
      | (refine reqK_of ?_ ?_; rotate_left; (conv => whnf); rotate_left)
      | (refine nth_us ?_ ?_ ?_; (focus (first | omega | (simp only [List.length_nil, fx] <;> omega))); (focus (first | omega | (simp only [List.length_nil, fx] <;> omega))); conv => whnf)
      | (refine nth_is ?_ ?_ ?_; (focus (first | omega | (simp only [List.length_nil, fx] <;> omega))); (focus (first | omega | (simp only [List.length_nil, fx] <;> omega))); conv => whnf)
      | (refine nth_bs ?_ ?_ ?_; (focus (first | omega | (simp only [List.length_nil, fx] <;> omega))); (focus (first | omega | (simp only [List.length_nil, fx] <;> omega))); conv => whnf))
    all_goals (rw [cTxt_ba, cT_q.2 hR]; rfl)
  · have hc : cRight ⟨k, r, a, s⟩ 4 4 = true := by rw [cRight_44]; exact hR
    have h4 : cOk k r a s 4 4 := cR4_iff.1 hR
    obtain ⟨hr, ha, hs, hk⟩ := cOk_range h4
    clear h4
    have es : ∀ x : Int, 0 ≤ x ∧ x < 4 → (⟨(List.map (fun n => UInt8.ofNat n.toNat) [IntKind.u8.wrap (IntKind.i64.wrap (48 + x))]).toArray⟩ : ByteArray) = ba [bt (48 + x)] := fun x hx => by
      show ba [UInt8.ofNat (IntKind.u8.wrap (IntKind.i64.wrap (48 + x))).toNat] = _
      rw [dgt4 hx]
    conv => whnf
    repeat' (first
      | (refine brK_true rfl ?_; conv => whnf)
      | (refine brK_false rfl ?_; conv => whnf)
      | (refine brK_true (by assumption) ?_; conv => whnf)
      | (refine brK_false (by assumption) ?_; conv => whnf)
      | (refine brK_true ?_ ?_; (focus (simp only [List.length_nil, fx] <;> omega)); conv => whnf)
      | (refine brK_false ?_ ?_; (focus (simp only [List.length_nil, fx] <;> omega)); conv => whnf)
      | ((refine brK_of (fun h => ?_) (fun h => ?_)) <;> (have h2 := h; (try simp only [List.length_nil, fx] at h2); conv => whnf))
      | (refine reqK_of ?_ ?_; (focus (first | decide | omega | assumption | (simp only [List.length_nil, fx] <;> omega) | (simp [keyNew, sameKey, kEq] <;> omega))); conv => whnf)
      | (refine reqK_of ?_ ?_; rotate_left; (conv => whnf); rotate_left)
      | (refine nth_us ?_ ?_ ?_; (focus (first | omega | (simp only [List.length_nil, fx] <;> omega))); (focus (first | omega | (simp only [List.length_nil, fx] <;> omega))); conv => whnf)
      | (refine nth_is ?_ ?_ ?_; (focus (first | omega | (simp only [List.length_nil, fx] <;> omega))); (focus (first | omega | (simp only [List.length_nil, fx] <;> omega))); conv => whnf)
      | (refine nth_bs ?_ ?_ ?_; (focus (first | omega | (simp only [List.length_nil, fx] <;> omega))); (focus (first | omega | (simp only [List.length_nil, fx] <;> omega))); conv => whnf))
    all_goals (try simp only [es s hs, lit_46, lit_61, lit_new, lit_0, ba_app, ba_size, cTxt_ba])
    all_goals first
      | (simp only [List.length_append, List.length_cons, List.length_nil]; omega)
      | (have e : k = 1 := (by omega); subst e; rw [cT_1 hR]; rfl)
      | (have e : k = 2 := (by omega); subst e; rw [cT_2 hR]; rfl)
      | (have e : k = 3 := (by omega); subst e; rw [cT_3 hR]; rfl)
      | (have e : k = 4 := (by omega); subst e; rw [cT_4 hR]; rfl)
      | (have e : k = 5 := (by omega); subst e; rw [cT_5 hR]; rfl)
open Classical in
noncomputable def c27 : List T → Ans
  | [.agg [.int .i64 k, .int .i64 r, .int .i64 a, .int .i64 s]] => .yes (.str (cTxt ⟨k, r, a, s⟩))
  | _ => .no
theorem got27 {vs : List T} {x : T} (h : Got (c27 vs) x) : FnOk Tryd.prog tgl 27 vs x := by
  unfold c27 at h
  split at h
  · rw [got_yes h]; exact ok27 _ _ _ _
  · exact (got_no h).elim
theorem nogl27 (vs : List T) (p : Prop) (d : Decidable p) (sz : Nat) (xs : List T) (h : c27 vs = @Ans.gl p d sz xs) : False := by
  unfold c27 at h
  split at h <;> cases h
theorem pk27 (vs : List T) (p : Prop) (d : Decidable p) (x : T) (h : c27 vs = @Ans.pk p d x) (hp : p) : FnOk Tryd.prog tgl 27 vs x := by
  unfold c27 at h
  split at h
  · cases h
  · cases h
end Go.Nx
end
section
set_option linter.unusedVariables false
set_option linter.unusedSimpArgs false
set_option maxRecDepth 20000
set_option maxHeartbeats 4000000
namespace Go.Nx
open Go Go.RowKit Go.Proofs

noncomputable def lK8 : List (Nat × (List T → Ans)) := (26, c26) :: (27, c27) :: lK7
noncomputable def iK8 : List (Nat × Pt) := iK7
noncomputable abbrev K8 : Env := En tgl lK8 iK8
theorem env_K8 : EnvOk Tryd.prog K8 := (env_fn (env_fn env_K7 (fun _ _ => got27) (fun vs p d sz xs h _ => (nogl27 vs p d sz xs h).elim) pk27) (fun _ _ => got26) (fun vs p d sz xs h _ => (nogl26 vs p d sz xs h).elim) pk26)
theorem jn_snocK (c : UInt8) : ∀ (l : List (List UInt8)) (x : List UInt8), l ≠ [] → jn c (l ++ [x]) = jn c l ++ c :: x
  | [], x, h => absurd rfl h
  | [y], x, h => rfl
  | y :: z :: r, x, h => by
    have ih := jn_snocK c (z :: r) x (by simp)
    rw [List.cons_append, jn_cons c y (by simp), ih, jn_cons c y (by simp)]
    simp
theorem sum_le {m : Nat} : ∀ {ps : List (List UInt8)}, (∀ p ∈ ps, p.length ≤ m) → (ps.map List.length).sum ≤ ps.length * m
  | [], _ => by simp
  | p :: r, h => by
    have h1 := h p (by simp)
    have h2 := sum_le (ps := r) fun q hq => h q (by simp [hq])
    rw [List.map_cons, List.sum_cons, List.length_cons, Nat.succ_mul]; omega
theorem jn_le (c : UInt8) {m : Nat} {ps : List (List UInt8)} (h : ∀ p ∈ ps, p.length ≤ m) : (jn c ps).length ≤ ps.length * (m + 1) := by
  rw [jn_len]
  have := sum_le h
  rw [Nat.mul_succ]; omega
theorem ops_le (l : List COp) : (jn 59 (l.map cT)).length ≤ l.length * 6 := by
  have := jn_le 59 (m := 5) (ps := l.map cT) fun p hp => by
    obtain ⟨o, _, rfl⟩ := List.mem_map.1 hp
    exact cT_len o
  rwa [List.length_map] at this
theorem op_snoc {l : List COp} {k : Nat} (h : k < l.length) : ss ((l.take k).map cT) ++ [T.str (cTxt (atO l (k : Int)))] = ss ((l.take (k + 1)).map cT) := by
  unfold ss
  rw [List.take_add_one, atO_at h, List.getElem?_eq_getElem h]
  simp only [Option.toList_some, List.map_append, List.map_cons, List.map_nil]
  rfl
theorem cP_ne {l : List COp} (h : l ≠ []) : cP l = jn 59 (l.map cT) := if_neg h
theorem ok28 (xs : List T) (hq : IsO xs) : FnOk Tryd.prog tgl 28 [.list 4 xs] (.str (cPrint (opsOf xs))) := by
  refine fn_ok (Γ := K8) env_K8 Tryd.func28 low28 ?_
  obtain ⟨l, rfl, hl, hL⟩ := hq
  rw [opsOf_os]
  conv => whnf
  repeat' (first
    | (refine brK_true rfl ?_; conv => whnf)
    | (refine brK_false rfl ?_; conv => whnf)
    | (refine brK_true (by assumption) ?_; conv => whnf)
    | (refine brK_false (by assumption) ?_; conv => whnf)
    | (refine brK_true ?_ ?_; (focus (simp only [List.length_nil, fx, os_len] <;> omega)); conv => whnf)
    | (refine brK_false ?_ ?_; (focus (simp only [List.length_nil, fx, os_len] <;> omega)); conv => whnf)
    | ((refine brK_of (fun h => ?_) (fun h => ?_)) <;> (have h2 := h; (try simp only [List.length_nil, fx, os_len] at h2); conv => whnf))
    | (refine reqK_of ?_ ?_; (focus (first | decide | omega | assumption | (simp only [List.length_nil, fx, os_len] <;> omega) | (simp [keyNew, sameKey, kEq] <;> omega))); conv => whnf)
    | (refine reqK_of ?_ ?_; rotate_left; (conv => whnf); rotate_left)
    | (refine nth_us ?_ ?_ ?_; (focus (first | omega | (simp only [List.length_nil, fx, os_len] <;> omega))); (focus (first | omega | (simp only [List.length_nil, fx, os_len] <;> omega))); conv => whnf)
    | (refine nth_is ?_ ?_ ?_; (focus (first | omega | (simp only [List.length_nil, fx, os_len] <;> omega))); (focus (first | omega | (simp only [List.length_nil, fx, os_len] <;> omega))); conv => whnf)
    | (refine nth_bs ?_ ?_ ?_; (focus (first | omega | (simp only [List.length_nil, fx, os_len] <;> omega))); (focus (first | omega | (simp only [List.length_nil, fx, os_len] <;> omega))); conv => whnf))
  refine loopFn [.adopt 3 1001 1] (fun s => [.kill 5, .kill 9, .kill 10, .kill 11, .kill 12, .kill 13, .kill 14, .kill 15, .kill 16, .kill 17, .keep [80], .ren 80 1001]) (fun k : Nat => [(3, .sl 1001 0 none), (8, .t (.int .i64 (k : Int)))]) (fun k => [(1001, .lst 1 (ss ((l.take k).map cT)) 1)]) (fun k => k ≤ l.length) (fun k => l.length - k) 0 (Nat.zero_le _) ?_
  conv => whnf
  refine ⟨⟨rfl, rfl⟩, fun k hk C hC => ?_⟩
  have hw : IntKind.i64.wrap ((k : Int) + 1) = (k : Int) + 1 := wrap_i64 ⟨by omega, by omega⟩
  have hsl : (ss ((l.take k).map cT)).length = min k l.length := by rw [ss_len, List.length_map, List.length_take]
  have hu : l.length ≤ k → Lib.join (unss (subL (ss ((l.take k).map cT)) 0 none)) (⟨#[59]⟩ : ByteArray).data.toList = jn 59 (l.map cT) := fun h => by
    rw [subL_00, unss_ss, List.take_of_length_le h, jn_eq]; rfl
  have hlen := ops_le l
  conv => whnf
  repeat' (first
    | (refine brK_true rfl ?_; conv => whnf)
    | (refine brK_false rfl ?_; conv => whnf)
    | (refine brK_true (by assumption) ?_; conv => whnf)
    | (refine brK_false (by assumption) ?_; conv => whnf)
    | (refine brK_true ?_ ?_; (focus (simp only [List.length_nil, fx, os_len, hsl] <;> omega)); conv => whnf)
    | (refine brK_false ?_ ?_; (focus (simp only [List.length_nil, fx, os_len, hsl] <;> omega)); conv => whnf)
    | ((refine brK_of (fun h => ?_) (fun h => ?_)) <;> (have h2 := h; (try simp only [List.length_nil, fx, os_len, hsl] at h2); conv => whnf))
    | (refine reqK_of ?_ ?_; (focus (first | decide | omega | assumption | (simp only [List.length_nil, fx, os_len, hsl] <;> omega) | (simp [keyNew, sameKey, kEq] <;> omega))); conv => whnf)
    | (refine reqK_of ?_ ?_; rotate_left; (conv => whnf); rotate_left)
    | (refine nth_os ?_ ?_ ?_; (focus (first | omega | (simp only [List.length_nil, fx, os_len, hsl] <;> omega))); (focus (first | omega | (simp only [List.length_nil, fx, os_len, hsl] <;> omega))); conv => whnf)
    | (refine nth_us ?_ ?_ ?_; (focus (first | omega | (simp only [List.length_nil, fx, os_len, hsl] <;> omega))); (focus (first | omega | (simp only [List.length_nil, fx, os_len, hsl] <;> omega))); conv => whnf)
    | (refine nth_is ?_ ?_ ?_; (focus (first | omega | (simp only [List.length_nil, fx, os_len, hsl] <;> omega))); (focus (first | omega | (simp only [List.length_nil, fx, os_len, hsl] <;> omega))); conv => whnf)
    | (refine nth_bs ?_ ?_ ?_; (focus (first | omega | (simp only [List.length_nil, fx, os_len, hsl] <;> omega))); (focus (first | omega | (simp only [List.length_nil, fx, os_len, hsl] <;> omega))); conv => whnf))
  · unfold maxBytes; simp only [List.length_cons, List.length_nil, hsl]; omega
  · refine loopC (hC (k + 1) (by omega) (by omega)) ?_
    rw [← op_snoc (by omega), hw, Int.natCast_succ]
    rfl
  · have e : l = [] := List.eq_nil_of_length_eq_zero (by omega)
    subst e; rfl
  · refine ⟨⟨_, rfl⟩, ?_, ?_⟩
    · rw [subL_00, hsl]; omega
    · rw [hu (by omega)]; omega
  · have e : l ≠ [] := fun e => by subst e; simp at *
    rw [hu (by omega)]
    unfold cPrint
    rw [cP_ne e]
theorem ok28_2  : FnOk Tryd.prog tgl 28 [.nils] (.str ⟨#[45]⟩) := by
  exact FnOk.args (ok28 [] ⟨[], rfl, by decide, fun o h => by cases h⟩) rfl fun i c c' hc hc' S w u hu => by
    match i with
    | 0 => simp at hc hc'; subst hc hc'; exact nil_list 4 hu
    | i + 1 => simp at hc
open Classical in
noncomputable def c28 : List T → Ans
  | [.list 4 xs] => .req (IsO xs) (.str (cPrint (opsOf xs)))
  | [.nils] => .yes (.str ⟨#[45]⟩)
  | _ => .no
theorem got28 {vs : List T} {x : T} (h : Got (c28 vs) x) : FnOk Tryd.prog tgl 28 vs x := by
  unfold c28 at h
  split at h
  · obtain ⟨hq, e⟩ := got_req h; rw [e]; exact ok28 _ hq
  · rw [got_yes h]; exact ok28_2
  · exact (got_no h).elim
theorem nogl28 (vs : List T) (p : Prop) (d : Decidable p) (sz : Nat) (xs : List T) (h : c28 vs = @Ans.gl p d sz xs) : False := by
  unfold c28 at h
  split at h <;> cases h
theorem pk28 (vs : List T) (p : Prop) (d : Decidable p) (x : T) (h : c28 vs = @Ans.pk p d x) (hp : p) : FnOk Tryd.prog tgl 28 vs x := by
  unfold c28 at h
  split at h
  · cases h
  · cases h
  · cases h
def bP (l : List COp) (k : Nat) : ByteArray := ba (jn 59 ((l.take k).map cT))
theorem bP_len (l : List COp) (k : Nat) : (bP l k).size ≤ l.length * 6 := by
  unfold bP
  rw [ba_size]
  have := ops_le (l.take k)
  rw [List.length_take] at this
  omega
theorem bP_succ {l : List COp} {k : Nat} (h : k < l.length) (h0 : 0 < k) : bP l k ++ (⟨#[59]⟩ : ByteArray) ++ cTxt (atO l (k : Int)) = bP l (k + 1) := by
  show ba _ ++ ba [59] ++ ba _ = ba _
  rw [ba_app, ba_app, List.take_add_one, atO_at h, List.getElem?_eq_getElem h, Option.toList_some, List.map_append, List.map_cons, List.map_nil, jn_snocK]
  · simp
  · intro e; have := congrArg List.length e; rw [List.length_map, List.length_take, List.length_nil] at this; omega
theorem bP_one {l : List COp} (h : 0 < l.length) : bP l 0 ++ cTxt (atO l 0) = bP l 1 := by
  cases l with
  | nil => simp at h
  | cons x r => show ba [] ++ ba _ = ba _; rw [ba_app]; rfl
theorem cTxt_size (o : COp) : (cTxt o).size ≤ 5 := by rw [cTxt_ba, ba_size]; exact cT_len o
theorem ok29 (xs : List T) (hq : IsO xs) : FnOk Tryd.prog tgl 29 [.list 4 xs] (.str (cPrint (opsOf xs))) := by
  refine fn_ok (Γ := K8) env_K8 Tryd.func29 low29 ?_
  obtain ⟨l, rfl, hl, hL⟩ := hq
  rw [opsOf_os]
  conv => whnf
  repeat' (first
    | (refine brK_true rfl ?_; conv => whnf)
    | (refine brK_false rfl ?_; conv => whnf)
    | (refine brK_true (by assumption) ?_; conv => whnf)
    | (refine brK_false (by assumption) ?_; conv => whnf)
    | (refine brK_true ?_ ?_; (focus (simp only [List.length_nil, fx, os_len] <;> omega)); conv => whnf)
    | (refine brK_false ?_ ?_; (focus (simp only [List.length_nil, fx, os_len] <;> omega)); conv => whnf)
    | ((refine brK_of (fun h => ?_) (fun h => ?_)) <;> (have h2 := h; (try simp only [List.length_nil, fx, os_len] at h2); conv => whnf))
    | (refine reqK_of ?_ ?_; (focus (first | decide | omega | assumption | (simp only [List.length_nil, fx, os_len] <;> omega) | (simp [keyNew, sameKey, kEq] <;> omega))); conv => whnf)
    | (refine reqK_of ?_ ?_; rotate_left; (conv => whnf); rotate_left)
    | (refine nth_us ?_ ?_ ?_; (focus (first | omega | (simp only [List.length_nil, fx, os_len] <;> omega))); (focus (first | omega | (simp only [List.length_nil, fx, os_len] <;> omega))); conv => whnf)
    | (refine nth_is ?_ ?_ ?_; (focus (first | omega | (simp only [List.length_nil, fx, os_len] <;> omega))); (focus (first | omega | (simp only [List.length_nil, fx, os_len] <;> omega))); conv => whnf)
    | (refine nth_bs ?_ ?_ ?_; (focus (first | omega | (simp only [List.length_nil, fx, os_len] <;> omega))); (focus (first | omega | (simp only [List.length_nil, fx, os_len] <;> omega))); conv => whnf))
  · have e : l = [] := List.eq_nil_of_length_eq_zero (by omega)
    subst e; rfl
  · have e : l ≠ [] := fun e => by subst e; simp at *
    refine loopUp [] [.kill 8, .kill 9, .kill 10, .kill 11, .kill 12, .kill 13, .kill 14, .kill 15, .kill 16, .kill 17, .kill 18, .kill 19, .kill 20, .kill 21, .kill 22, .kill 23, .kill 24] (fun k : Nat => [(3, .t (.str (bP l k))), (4, .t (.int .i64 (k : Int)))]) (fun _ => []) (fun k => k ≤ l.length) (fun k => l.length - k) 0 (Nat.zero_le _) ?_
    conv => whnf
    refine ⟨⟨rfl, rfl⟩, fun k hk C hC => ?_⟩
    have hw : IntKind.i64.wrap ((k : Int) + 1) = (k : Int) + 1 := wrap_i64 ⟨by omega, by omega⟩
    have hb := bP_len l k
    have hc := cTxt_size (atO l (k : Int))
    have e59 : (⟨#[59]⟩ : ByteArray).size = 1 := rfl
    conv => whnf
    repeat' (first
      | (refine brK_true rfl ?_; conv => whnf)
      | (refine brK_false rfl ?_; conv => whnf)
      | (refine brK_true (by assumption) ?_; conv => whnf)
      | (refine brK_false (by assumption) ?_; conv => whnf)
      | (refine brK_true ?_ ?_; (focus (simp only [List.length_nil, fx, os_len] <;> omega)); conv => whnf)
      | (refine brK_false ?_ ?_; (focus (simp only [List.length_nil, fx, os_len] <;> omega)); conv => whnf)
      | ((refine brK_of (fun h => ?_) (fun h => ?_)) <;> (have h2 := h; (try simp only [List.length_nil, fx, os_len] at h2); conv => whnf))
      | (refine reqK_of ?_ ?_; (focus (first | decide | omega | assumption | (simp only [List.length_nil, fx, os_len] <;> omega) | (simp [keyNew, sameKey, kEq] <;> omega))); conv => whnf)
      | (refine reqK_of ?_ ?_; rotate_left; (conv => whnf); rotate_left)
      | (refine nth_os ?_ ?_ ?_; (focus (first | omega | (simp only [List.length_nil, fx, os_len] <;> omega))); (focus (first | omega | (simp only [List.length_nil, fx, os_len] <;> omega))); conv => whnf)
      | (refine nth_us ?_ ?_ ?_; (focus (first | omega | (simp only [List.length_nil, fx, os_len] <;> omega))); (focus (first | omega | (simp only [List.length_nil, fx, os_len] <;> omega))); conv => whnf)
      | (refine nth_is ?_ ?_ ?_; (focus (first | omega | (simp only [List.length_nil, fx, os_len] <;> omega))); (focus (first | omega | (simp only [List.length_nil, fx, os_len] <;> omega))); conv => whnf)
      | (refine nth_bs ?_ ?_ ?_; (focus (first | omega | (simp only [List.length_nil, fx, os_len] <;> omega))); (focus (first | omega | (simp only [List.length_nil, fx, os_len] <;> omega))); conv => whnf))
    · show (_ ++ _ : ByteArray).size + _ ≤ _
      rw [ByteArray.size_append, e59]
      show _ + (cTxt (atO l (k : Int))).size ≤ _
      omega
    · refine loopC (hC (k + 1) (by omega) (by omega)) ?_
      rw [← bP_succ (by omega) (by omega), hw, Int.natCast_succ]; rfl
    · show _ + (cTxt (atO l (k : Int))).size ≤ _
      omega
    · have hk0 : k = 0 := by omega
      subst hk0
      refine loopC (hC 1 (by omega) (by omega)) ?_
      rw [← bP_one (by omega), hw]; rfl
    · have : k = l.length := by omega
      subst this
      unfold bP cPrint
      rw [cP_ne e, List.take_length]; rfl
open Classical in
noncomputable def c29 : List T → Ans
  | [.list 4 xs] => .req (IsO xs) (.str (cPrint (opsOf xs)))
  | _ => .no
theorem got29 {vs : List T} {x : T} (h : Got (c29 vs) x) : FnOk Tryd.prog tgl 29 vs x := by
  unfold c29 at h
  split at h
  · obtain ⟨hq, e⟩ := got_req h; rw [e]; exact ok29 _ hq
  · exact (got_no h).elim
theorem nogl29 (vs : List T) (p : Prop) (d : Decidable p) (sz : Nat) (xs : List T) (h : c29 vs = @Ans.gl p d sz xs) : False := by
  unfold c29 at h
  split at h <;> cases h
theorem pk29 (vs : List T) (p : Prop) (d : Decidable p) (x : T) (h : c29 vs = @Ans.pk p d x) (hp : p) : FnOk Tryd.prog tgl 29 vs x := by
  unfold c29 at h
  split at h
  · cases h
  · cases h
def lastP (c : UInt8) (l : List UInt8) : List UInt8 := (spl c l).getLastD []
theorem spl_snoc (c x : UInt8) : ∀ l : List UInt8, spl c (l ++ [x]) = if x = c then spl c l ++ [[]] else (spl c l).dropLast ++ [lastP c l ++ [x]]
  | [] => by
    by_cases h : x = c
    · simp [spl, h]
    · simp [spl, h, lastP]
  | b :: l => by
    have ih := spl_snoc c x l
    have hne := spl_ne c l
    obtain ⟨p, r, e⟩ : ∃ p r, spl c l = p :: r := by
      cases h : spl c l with
      | nil => exact absurd h hne
      | cons p r => exact ⟨p, r, rfl⟩
    by_cases hb : b = c
    · rw [List.cons_append, spl, if_pos hb, ih]
      by_cases hx : x = c
      · rw [if_pos hx, if_pos hx, spl, if_pos hb]; rfl
      · rw [if_neg hx, if_neg hx, spl, if_pos hb]
        unfold lastP
        rw [spl, if_pos hb, e]
        simp
    · rw [List.cons_append, spl, if_neg hb, ih]
      by_cases hx : x = c
      · rw [if_pos hx, if_pos hx, spl, if_neg hb, e]; rfl
      · rw [if_neg hx, if_neg hx, spl, if_neg hb]
        unfold lastP
        rw [spl, if_neg hb, e]
        cases r with
        | nil => simp
        | cons q r => simp
theorem lastP_len (c : UInt8) (l : List UInt8) : (lastP c l).length ≤ l.length := by
  unfold lastP
  cases h : (spl c l).getLast? with
  | none => rw [List.getLastD_eq_getLast?, h]; simp
  | some p => rw [List.getLastD_eq_getLast?, h]; exact spl_piece c (List.mem_of_getLast? h)
end Go.Nx
end
section
set_option linter.unusedVariables false
set_option linter.unusedSimpArgs false
set_option maxRecDepth 20000
set_option maxHeartbeats 4000000
namespace Go.Nx
open Go Go.RowKit Go.Proofs

theorem last_suf (c : UInt8) (l : List UInt8) : ∃ p, l = p ++ lastP c l := by
  suffices h : ∀ r : List UInt8, ∃ p, r.reverse = p ++ lastP c r.reverse by
    have := h l.reverse; rwa [List.reverse_reverse] at this
  intro r
  induction r with
  | nil => exact ⟨[], rfl⟩
  | cons x r ih =>
    obtain ⟨p, hp⟩ := ih
    rw [List.reverse_cons]
    by_cases hx : x = c
    · refine ⟨r.reverse ++ [x], ?_⟩
      have : lastP c (r.reverse ++ [x]) = [] := by unfold lastP; rw [spl_snoc, if_pos hx]; simp
      rw [this, List.append_nil]
    · refine ⟨p, ?_⟩
      have : lastP c (r.reverse ++ [x]) = lastP c r.reverse ++ [x] := by
        show (spl c (r.reverse ++ [x])).getLastD [] = _
        rw [spl_snoc, if_neg hx]; simp
      rw [this, ← List.append_assoc, ← hp]
theorem last_drop (c : UInt8) (l : List UInt8) : l.drop (l.length - (lastP c l).length) = lastP c l := by
  obtain ⟨p, hp⟩ := last_suf c l
  generalize lastP c l = q at hp
  subst hp
  rw [List.length_append, Nat.add_sub_cancel]
  simp
theorem spl_last (c : UInt8) (l : List UInt8) : (spl c l).dropLast ++ [lastP c l] = spl c l := by
  unfold lastP
  have h := List.dropLast_concat_getLast (spl_ne c l)
  rw [List.getLastD_eq_getLast?, List.getLast?_eq_some_getLast (spl_ne c l)]
  exact h
def cutF (c : UInt8) (l : List UInt8) (k : Nat) : Nat := if k ≤ l.length then k - (lastP c (l.take k)).length else l.length + 1
def cutL (c : UInt8) (l : List UInt8) (k : Nat) : List (List UInt8) := if k ≤ l.length then (spl c (l.take k)).dropLast else spl c l
theorem cutF_le (c : UInt8) (l : List UInt8) {k : Nat} (h : k ≤ l.length) : cutF c l k ≤ k := by unfold cutF; rw [if_pos h]; omega
theorem cutL_len (c : UInt8) (l : List UInt8) {k : Nat} (h : k ≤ l.length) : (cutL c l k).length ≤ k := by
  unfold cutL
  rw [if_pos h, List.length_dropLast, spl_len, Nat.add_sub_cancel]
  have := List.count_le_length (a := c) (l := l.take k)
  rw [List.length_take] at this
  omega
theorem cut_sub {c : UInt8} {s : ByteArray} {k : Nat} (h : k ≤ s.data.toList.length) : s.extract (cutF c s.data.toList k) k = ⟨(lastP c (s.data.toList.take k)).toArray⟩ := by
  have h1 := last_drop c (s.data.toList.take k)
  rw [List.length_take, Nat.min_eq_left h] at h1
  have h2 : (s.extract (cutF c s.data.toList k) k).data.toList = lastP c (s.data.toList.take k) := by
    rw [ByteArray.data_extract, Array.toList_extract, ← h1]
    unfold cutF
    rw [if_pos h]
    simp [List.extract, List.drop_take]
  have : ∀ b : ByteArray, ∀ q, b.data.toList = q → b = ⟨q.toArray⟩ := fun b q e => by cases b; subst e; rfl
  exact this _ _ h2
theorem cut_hit {c : UInt8} {l : List UInt8} {k : Nat} (h : k = l.length ∨ (k < l.length ∧ l.getD k 0 = c)) : cutL c l k ++ [lastP c (l.take k)] = cutL c l (k + 1) ∧ cutF c l (k + 1) = k + 1 := by
  have hk : k ≤ l.length := by omega
  have h1 : cutL c l k ++ [lastP c (l.take k)] = spl c (l.take k) := by unfold cutL; rw [if_pos hk, spl_last]
  rw [h1]
  rcases h with rfl | ⟨h2, h3⟩
  · unfold cutL cutF
    rw [if_neg (by omega), if_neg (by omega), List.take_length]
    exact ⟨rfl, rfl⟩
  · have e : l.take (k + 1) = l.take k ++ [c] := by
      rw [List.take_add_one, List.getElem?_eq_getElem h2]
      rw [List.getD_eq_getElem?_getD, List.getElem?_eq_getElem h2] at h3
      simp at h3; rw [h3]; rfl
    unfold cutL cutF lastP
    rw [if_pos (by omega), if_pos (by omega), e, spl_snoc, if_pos rfl]
    simp
theorem cut_miss {c : UInt8} {l : List UInt8} {k : Nat} (h2 : k < l.length) (h3 : l.getD k 0 ≠ c) : cutL c l (k + 1) = cutL c l k ∧ cutF c l (k + 1) = cutF c l k := by
  have e : l.take (k + 1) = l.take k ++ [l.getD k 0] := by
    rw [List.take_add_one, List.getElem?_eq_getElem h2, List.getD_eq_getElem?_getD, List.getElem?_eq_getElem h2]; rfl
  have hl := lastP_len c (l.take k)
  rw [List.length_take, Nat.min_eq_left (by omega)] at hl
  have hlast : lastP c (l.take (k + 1)) = lastP c (l.take k) ++ [l.getD k 0] := by
    rw [e]
    show (spl c _).getLastD [] = _
    rw [spl_snoc, if_neg h3]; simp
  unfold cutL cutF
  rw [if_pos (by omega), if_pos (by omega), if_pos (by omega), if_pos (by omega), hlast, e, spl_snoc, if_neg h3]
  refine ⟨by simp, ?_⟩
  rw [List.length_append, List.length_cons, List.length_nil]; omega
theorem bt_eq {x : UInt8} {c : Int} (hc : 0 ≤ c ∧ c < 256) : ((x.toNat : Nat) : Int) = c ↔ x = bt c := by
  unfold bt
  constructor
  · intro h
    apply UInt8.toNat_inj.1
    rw [UInt8.toNat_ofNat']
    omega
  · intro h
    have := congrArg UInt8.toNat h
    rw [UInt8.toNat_ofNat'] at this
    omega
theorem sz_list (s : ByteArray) : s.size = s.data.toList.length := by rw [Array.length_toList]; rfl
theorem cut_snoc {c : UInt8} {s : ByteArray} {k : Nat} (h : k = s.data.toList.length ∨ (k < s.data.toList.length ∧ s.data.toList.getD k 0 = c)) :
    ss (cutL c s.data.toList k) ++ [T.str (s.extract (cutF c s.data.toList k) k)] = ss (cutL c s.data.toList (k + 1)) := by
  rw [cut_sub (by omega), ← (cut_hit h).1]
  unfold ss
  rw [List.map_append]; rfl
theorem ok49 (s : ByteArray) (c : Int) (hq : s.size ≤ 1048576 ∧ 0 ≤ c ∧ c < 256) : FnGl Tryd.prog tgl 49 [.str s, .int .u8 c] 1 (ss (spl (bt c) s.data.toList)) := by
  refine fnG_ok (Γ := K8) env_K8 Tryd.func49 low49 ?_
  obtain ⟨hs, hc⟩ := hq
  have hsz := sz_list s
  conv => whnf
  repeat' (first
    | (refine brK_true rfl ?_; conv => whnf)
    | (refine brK_false rfl ?_; conv => whnf)
    | (refine brK_true (by assumption) ?_; conv => whnf)
    | (refine brK_false (by assumption) ?_; conv => whnf)
    | (refine brK_true ?_ ?_; (focus (simp only [List.length_nil, fx] <;> omega)); conv => whnf)
    | (refine brK_false ?_ ?_; (focus (simp only [List.length_nil, fx] <;> omega)); conv => whnf)
    | ((refine brK_of (fun h => ?_) (fun h => ?_)) <;> (have h2 := h; (try simp only [List.length_nil, fx] at h2); conv => whnf))
    | (refine reqK_of ?_ ?_; (focus (first | decide | omega | assumption | (simp only [List.length_nil, fx] <;> omega) | (simp [keyNew, sameKey, kEq] <;> omega))); conv => whnf)
    | (refine reqK_of ?_ ?_; rotate_left; (conv => whnf); rotate_left)
    | (refine nth_us ?_ ?_ ?_; (focus (first | omega | (simp only [List.length_nil, fx] <;> omega))); (focus (first | omega | (simp only [List.length_nil, fx] <;> omega))); conv => whnf)
    | (refine nth_is ?_ ?_ ?_; (focus (first | omega | (simp only [List.length_nil, fx] <;> omega))); (focus (first | omega | (simp only [List.length_nil, fx] <;> omega))); conv => whnf)
    | (refine nth_bs ?_ ?_ ?_; (focus (first | omega | (simp only [List.length_nil, fx] <;> omega))); (focus (first | omega | (simp only [List.length_nil, fx] <;> omega))); conv => whnf))
  refine loopFn [.adopt 5 1001 1] (fun s => nzIf 95 s [.kill 8, .kill 9, .kill 10, .kill 11, .kill 12, .kill 13, .kill 14, .kill 15, .kill 16, .kill 17, .kill 18, .kill 19, .kill 20, .kill 21, .kill 22, .kill 23, .kill 24, .kill 25, .kill 26, .kill 27, .kill 28, .kill 29, .kill 30, .kill 31, .kill 32, .kill 33, .keep [95], .ren 95 1001] [.kill 8, .kill 9, .kill 10, .kill 11, .kill 12, .kill 13, .kill 14, .kill 15, .kill 16, .kill 17, .kill 18, .kill 19, .kill 20, .kill 21, .kill 22, .kill 23, .kill 24, .kill 25, .kill 26, .kill 27, .kill 28, .kill 29, .kill 30, .kill 31, .kill 32, .kill 33]) (fun k : Nat => [(5, .sl 1001 0 none), (6, .t (.int .i64 (cutF (bt c) s.data.toList k : Nat))), (7, .t (.int .i64 (k : Int)))]) (fun k => [(1001, .lst 1 (ss (cutL (bt c) s.data.toList k)) 1)]) (fun k => k ≤ s.size + 1) (fun k => s.size + 1 - k) 0 (Nat.zero_le _) ?_
  conv => whnf
  refine ⟨⟨rfl, rfl⟩, fun k hk C hC => ?_⟩
  have hw : IntKind.i64.wrap ((k : Int) + 1) = (k : Int) + 1 := wrap_i64 ⟨by omega, by omega⟩
  conv => whnf
  repeat' (first
    | (refine brK_true rfl ?_; conv => whnf)
    | (refine brK_false rfl ?_; conv => whnf)
    | (refine brK_true (by assumption) ?_; conv => whnf)
    | (refine brK_false (by assumption) ?_; conv => whnf)
    | (refine brK_true ?_ ?_; (focus (simp only [List.length_nil, fx] <;> omega)); conv => whnf)
    | (refine brK_false ?_ ?_; (focus (simp only [List.length_nil, fx] <;> omega)); conv => whnf)
    | ((refine brK_of (fun h => ?_) (fun h => ?_)) <;> (have h2 := h; (try simp only [List.length_nil, fx] at h2); conv => whnf))
    | (refine reqK_of ?_ ?_; (focus (first | decide | omega | assumption | (simp only [List.length_nil, fx] <;> omega) | (simp [keyNew, sameKey, kEq] <;> omega))); conv => whnf)
    | (refine reqK_of ?_ ?_; rotate_left; (conv => whnf); rotate_left)
    | (refine nth_us ?_ ?_ ?_; (focus (first | omega | (simp only [List.length_nil, fx] <;> omega))); (focus (first | omega | (simp only [List.length_nil, fx] <;> omega))); conv => whnf)
    | (refine nth_is ?_ ?_ ?_; (focus (first | omega | (simp only [List.length_nil, fx] <;> omega))); (focus (first | omega | (simp only [List.length_nil, fx] <;> omega))); conv => whnf)
    | (refine nth_bs ?_ ?_ ?_; (focus (first | omega | (simp only [List.length_nil, fx] <;> omega))); (focus (first | omega | (simp only [List.length_nil, fx] <;> omega))); conv => whnf))
  · have hF := cutF_le (bt c) s.data.toList (k := k) (by omega)
    show (0 : Int) ≤ ((cutF (bt c) s.data.toList k : Nat) : Int) ∧ ((cutF (bt c) s.data.toList k : Nat) : Int) ≤ (k : Int) ∧ (k : Int) ≤ s.size
    omega
  · have hL := cutL_len (bt c) s.data.toList (k := k) (by omega)
    show ((ss _).length + 1) * 16 ≤ maxBytes
    rw [ss_len]; unfold maxBytes; omega
  · have hh : k = s.data.toList.length ∨ (k < s.data.toList.length ∧ s.data.toList.getD k 0 = bt c) := .inl (by omega)
    refine loopC (hC (k + 1) (by omega) (by omega)) ?_
    rw [← cut_snoc hh, (cut_hit hh).2, hw, Int.natCast_succ]; rfl
  · have hF := cutF_le (bt c) s.data.toList (k := k) (by omega)
    show (0 : Int) ≤ ((cutF (bt c) s.data.toList k : Nat) : Int) ∧ ((cutF (bt c) s.data.toList k : Nat) : Int) ≤ (k : Int) ∧ (k : Int) ≤ s.size
    omega
  · have hL := cutL_len (bt c) s.data.toList (k := k) (by omega)
    show ((ss _).length + 1) * 16 ≤ maxBytes
    rw [ss_len]; unfold maxBytes; omega
  · have hx : s.data.toList.getD k 0 = bt c := (bt_eq hc).1 (by assumption)
    have hh : k = s.data.toList.length ∨ (k < s.data.toList.length ∧ s.data.toList.getD k 0 = bt c) := .inr ⟨by omega, hx⟩
    refine loopC (hC (k + 1) (by omega) (by omega)) ?_
    rw [← cut_snoc hh, (cut_hit hh).2, hw, Int.natCast_succ]; rfl
  · have hx : s.data.toList.getD k 0 ≠ bt c := fun e => absurd ((bt_eq hc).2 e) (by assumption)
    obtain ⟨e1, e2⟩ := cut_miss (c := bt c) (l := s.data.toList) (k := k) (by omega) hx
    refine loopC (hC (k + 1) (by omega) (by omega)) ?_
    rw [e1, e2, hw, Int.natCast_succ]; rfl
  · have : ¬ k ≤ s.data.toList.length := by omega
    unfold cutL
    rw [if_neg this]
open Classical in
noncomputable def c49 : List T → Ans
  | [.str s, .int .u8 c] => .gl (s.size ≤ 1048576 ∧ 0 ≤ c ∧ c < 256) 1 (ss (spl (bt c) s.data.toList))
  | _ => .no
theorem got49 {vs : List T} {x : T} (h : Got (c49 vs) x) : FnOk Tryd.prog tgl 49 vs x := by
  unfold c49 at h
  split at h
  · exact (got_gl h).elim
  · exact (got_no h).elim
theorem gl49 (vs : List T) (p : Prop) (d : Decidable p) (sz : Nat) (xs : List T) (h : c49 vs = @Ans.gl p d sz xs) (hp : p) : FnGl Tryd.prog tgl 49 vs sz xs := by
  unfold c49 at h
  split at h
  · cases h; exact ok49 _ _ hp
  · cases h
theorem pk49 (vs : List T) (p : Prop) (d : Decidable p) (x : T) (h : c49 vs = @Ans.pk p d x) (hp : p) : FnOk Tryd.prog tgl 49 vs x := by
  unfold c49 at h
  split at h <;> cases h
end Go.Nx
end
section
set_option linter.unusedVariables false
set_option linter.unusedSimpArgs false
set_option maxRecDepth 20000
set_option maxHeartbeats 4000000
namespace Go.Nx
open Go Go.RowKit Go.Proofs

abbrev tySlot : TypeId := 133
abbrev tyReg : TypeId := 135
abbrev tyWord : TypeId := 136
def ixB (s : ByteArray) (c : Int) : Int := Lib.indexByte s.data.toList c.toNat.toUInt8
theorem ok96 (s : ByteArray) (c : Int) (hq : s.size ≤ 1048576) : FnOk Tryd.prog tgl 96 [.str s, .int .u8 c] (.int .i64 (ixB s c)) := by
  refine ⟨⟨_, Tryd.func96, rfl, by decide⟩, fun S w args hS hgl hsz hrel => ?_⟩
  have hz : args.size = 2 := hsz
  obtain rfl : args = #[.string s, .int .u8 c] := two_arg hz (by rw [Array.getElem?_eq_getElem (by omega)]; exact congrArg some (RelT.str_of (hrel 0 _ (args[0]'(by omega)) rfl (by simp)))) (by rw [Array.getElem?_eq_getElem (by omega)]; exact congrArg some (RelT.int_of (hrel 1 _ (args[1]'(by omega)) rfl (by simp))))
  refine (Tryd.strings_IndexByte s c w).mono ?_
  rintro e W' ⟨rfl, rfl⟩
  exact ⟨_, rfl, .int _ _, Below.refl _ _⟩
open Classical in
noncomputable def c96 : List T → Ans
  | [.str s, .int .u8 c] => .req (s.size ≤ 1048576) (.int .i64 (ixB s c))
  | _ => .no
theorem got96 {vs : List T} {x : T} (h : Got (c96 vs) x) : FnOk Tryd.prog tgl 96 vs x := by
  unfold c96 at h
  split at h
  · obtain ⟨hq, e⟩ := got_req h; rw [e]; exact ok96 _ _ hq
  · exact (got_no h).elim
theorem nogl96 (vs : List T) (p : Prop) (d : Decidable p) (sz : Nat) (xs : List T) (h : c96 vs = @Ans.gl p d sz xs) : False := by
  unfold c96 at h
  split at h <;> cases h
theorem pk96 (vs : List T) (p : Prop) (d : Decidable p) (x : T) (h : c96 vs = @Ans.pk p d x) (hp : p) : FnOk Tryd.prog tgl 96 vs x := by
  unfold c96 at h
  split at h
  · cases h
  · cases h
theorem ok106 (s u : ByteArray) (hq : u = ⟨#[sep1 u]⟩) : FnOk Tryd.prog tgl 106 [.str s, .str u] (.int .i64 (Lib.indexByte s.data.toList (sep1 u))) := by
  refine ⟨⟨_, Tryd.func106, rfl, by decide⟩, fun S w args hS hgl hsz hrel => ?_⟩
  have hz : args.size = 2 := hsz
  generalize hc : sep1 u = c at hq
  subst hq
  obtain rfl : args = #[.string s, .string ⟨#[c]⟩] := two_arg hz (by rw [Array.getElem?_eq_getElem (by omega)]; exact congrArg some (RelT.str_of (hrel 0 _ (args[0]'(by omega)) rfl (by simp)))) (by rw [Array.getElem?_eq_getElem (by omega)]; exact congrArg some (RelT.str_of (hrel 1 _ (args[1]'(by omega)) rfl (by simp))))
  have hI : Calls Tryd.prog 106 #[.string s, .string ⟨#[c]⟩] w fun e w' => e = .returned (.int .i64 (Lib.indexByte s.data.toList c)) ∧ w' = w := Any.stringslite_Index_one { Tryd.lays145 with } s c w
  refine hI.mono ?_
  rintro e W' ⟨rfl, rfl⟩
  exact ⟨_, rfl, .int _ _, Below.refl _ _⟩
open Classical in
noncomputable def c106 : List T → Ans
  | [.str s, .str u] => .req (u = ⟨#[sep1 u]⟩) (.int .i64 (Lib.indexByte s.data.toList (sep1 u)))
  | _ => .no
theorem got106 {vs : List T} {x : T} (h : Got (c106 vs) x) : FnOk Tryd.prog tgl 106 vs x := by
  unfold c106 at h
  split at h
  · obtain ⟨hq, e⟩ := got_req h; rw [e]; exact ok106 _ _ hq
  · exact (got_no h).elim
theorem nogl106 (vs : List T) (p : Prop) (d : Decidable p) (sz : Nat) (xs : List T) (h : c106 vs = @Ans.gl p d sz xs) : False := by
  unfold c106 at h
  split at h <;> cases h
theorem pk106 (vs : List T) (p : Prop) (d : Decidable p) (x : T) (h : c106 vs = @Ans.pk p d x) (hp : p) : FnOk Tryd.prog tgl 106 vs x := by
  unfold c106 at h
  split at h
  · cases h
  · cases h
theorem ix_lt (c : UInt8) : ∀ l : List UInt8, Lib.indexByte l c < l.length
  | [] => by simp [Lib.indexByte]
  | b :: l => by
    have ih := ix_lt c l
    simp only [Lib.indexByte, List.length_cons]
    split
    · omega
    · split <;> omega
theorem cut_ix : ∀ l : List UInt8, (0 ≤ Lib.indexByte l 61 → l.take (Lib.indexByte l 61).toNat = (cutE l).1 ∧ l.drop ((Lib.indexByte l 61).toNat + 1) = (cutE l).2) ∧ (Lib.indexByte l 61 < 0 → (cutE l).1 = l ∧ (cutE l).2 = [])
  | [] => by simp [Lib.indexByte, cutE]
  | b :: l => by
    obtain ⟨h1, h2⟩ := cut_ix l
    simp only [Lib.indexByte]
    by_cases hb : b = 61
    · subst hb; simp [cutE]
    · have hb' : (b == 61) = false := by simpa using hb
      rw [hb']
      simp only [Bool.false_eq_true, if_false, cutE, if_neg hb]
      by_cases h : Lib.indexByte l 61 = -1
      · have h' : (Lib.indexByte l 61 == -1) = true := by simpa using h
        rw [h', if_pos rfl]
        obtain ⟨e1, e2⟩ := h2 (by omega)
        refine ⟨fun h => by omega, fun _ => ⟨by rw [e1], e2⟩⟩
      · have h' : (Lib.indexByte l 61 == -1) = false := by simpa using h
        have hge := Lib.indexByte_ge l 61
        rw [h']
        simp only [Bool.false_eq_true, if_false]
        obtain ⟨e1, e2⟩ := h1 (by omega)
        have e : (Lib.indexByte l 61 + 1).toNat = (Lib.indexByte l 61).toNat + 1 := by omega
        refine ⟨fun _ => ⟨?_, ?_⟩, fun h => by omega⟩
        · rw [e, List.take_succ_cons, e1]
        · rw [e, List.drop_succ_cons, e2]
noncomputable def lK9 : List (Nat × (List T → Ans)) := (106, c106) :: (96, c96) :: lK8
noncomputable def iK9 : List (Nat × Pt) := iK8
noncomputable abbrev K9 : Env := En tgl lK9 iK9
theorem env_K9 : EnvOk Tryd.prog K9 := (env_fn (env_fn env_K8 (fun _ _ => got96) (fun vs p d sz xs h _ => (nogl96 vs p d sz xs h).elim) pk96) (fun _ _ => got106) (fun vs p d sz xs h _ => (nogl106 vs p d sz xs h).elim) pk106)
theorem ext_ba (s : ByteArray) (a b : Nat) : s.extract a b = ba ((s.data.toList.take b).drop a) := by
  have : ∀ t : ByteArray, ∀ q, t.data.toList = q → t = ba q := fun t q e => by cases t; subst e; rfl
  apply this
  rw [ByteArray.data_extract, Array.toList_extract]
  simp [List.extract, List.drop_take]
def cutT (s : ByteArray) : T := .tup [.str (ba (cutE s.data.toList).1), .str (ba (cutE s.data.toList).2), .bool (decide (0 ≤ Lib.indexByte s.data.toList 61))]
theorem ba_self (s : ByteArray) : ba s.data.toList = s := by cases s; rfl
theorem ok95 (s u : ByteArray) (hq : s.size ≤ 1048576 ∧ u = ⟨#[61]⟩) : FnOk Tryd.prog tgl 95 [.str s, .str u] (cutT s) := by
  refine fn_ok (Γ := K9) env_K9 Tryd.func95 low95 ?_
  obtain ⟨hs, rfl⟩ := hq
  have hsz := sz_list s
  have hlt := ix_lt 61 s.data.toList
  obtain ⟨c1, c2⟩ := cut_ix s.data.toList
  have e61 : (⟨#[61]⟩ : ByteArray).size = 1 := rfl
  have hw : 0 ≤ Lib.indexByte s.data.toList 61 → IntKind.i64.wrap (Lib.indexByte s.data.toList 61 + 1) = Lib.indexByte s.data.toList 61 + 1 := fun h => wrap_i64 ⟨by omega, by omega⟩
  have es : sep1 ⟨#[61]⟩ = 61 := rfl
  rcases Int.lt_or_le (Lib.indexByte s.data.toList 61) 0 with hlt0 | hge0
  · obtain ⟨e1, e2⟩ := c2 hlt0
    conv => whnf
    repeat' (first
      | (refine brK_true rfl ?_; conv => whnf)
      | (refine brK_false rfl ?_; conv => whnf)
      | (refine brK_true (by assumption) ?_; conv => whnf)
      | (refine brK_false (by assumption) ?_; conv => whnf)
      | (refine brK_true ?_ ?_; (focus (simp only [List.length_nil, fx, es] <;> omega)); conv => whnf)
      | (refine brK_false ?_ ?_; (focus (simp only [List.length_nil, fx, es] <;> omega)); conv => whnf)
      | ((refine brK_of (fun h => ?_) (fun h => ?_)) <;> (have h2 := h; (try simp only [List.length_nil, fx, es] at h2); conv => whnf))
      | (refine reqK_of ?_ ?_; (focus (first | decide | omega | assumption | (simp only [List.length_nil, fx, es] <;> omega) | (simp [keyNew, sameKey, kEq] <;> omega))); conv => whnf)
      | (refine reqK_of ?_ ?_; rotate_left; (conv => whnf); rotate_left)
      | (refine nth_us ?_ ?_ ?_; (focus (first | omega | (simp only [List.length_nil, fx, es] <;> omega))); (focus (first | omega | (simp only [List.length_nil, fx, es] <;> omega))); conv => whnf)
      | (refine nth_is ?_ ?_ ?_; (focus (first | omega | (simp only [List.length_nil, fx, es] <;> omega))); (focus (first | omega | (simp only [List.length_nil, fx, es] <;> omega))); conv => whnf)
      | (refine nth_bs ?_ ?_ ?_; (focus (first | omega | (simp only [List.length_nil, fx, es] <;> omega))); (focus (first | omega | (simp only [List.length_nil, fx, es] <;> omega))); conv => whnf))
    show T.tup [T.str s, T.str (ba []), T.bool false] = cutT s
    unfold cutT
    rw [e1, e2, decide_eq_false (by omega), ba_self]
  · obtain ⟨e1, e2⟩ := c1 hge0
    have hw' := hw hge0
    conv => whnf
    repeat' (first
      | (refine brK_true rfl ?_; conv => whnf)
      | (refine brK_false rfl ?_; conv => whnf)
      | (refine brK_true (by assumption) ?_; conv => whnf)
      | (refine brK_false (by assumption) ?_; conv => whnf)
      | (refine brK_true ?_ ?_; (focus (simp only [List.length_nil, fx, es] <;> omega)); conv => whnf)
      | (refine brK_false ?_ ?_; (focus (simp only [List.length_nil, fx, es] <;> omega)); conv => whnf)
      | ((refine brK_of (fun h => ?_) (fun h => ?_)) <;> (have h2 := h; (try simp only [List.length_nil, fx, es] at h2); conv => whnf))
      | (refine reqK_of ?_ ?_; (focus (first | decide | omega | assumption | (simp only [List.length_nil, fx, es] <;> omega) | (simp [keyNew, sameKey, kEq] <;> omega))); conv => whnf)
      | (refine reqK_of ?_ ?_; rotate_left; (conv => whnf); rotate_left)
      | (refine nth_us ?_ ?_ ?_; (focus (first | omega | (simp only [List.length_nil, fx, es] <;> omega))); (focus (first | omega | (simp only [List.length_nil, fx, es] <;> omega))); conv => whnf)
      | (refine nth_is ?_ ?_ ?_; (focus (first | omega | (simp only [List.length_nil, fx, es] <;> omega))); (focus (first | omega | (simp only [List.length_nil, fx, es] <;> omega))); conv => whnf)
      | (refine nth_bs ?_ ?_ ?_; (focus (first | omega | (simp only [List.length_nil, fx, es] <;> omega))); (focus (first | omega | (simp only [List.length_nil, fx, es] <;> omega))); conv => whnf))
    · show (0 : Int) ≤ 0 ∧ 0 ≤ Lib.indexByte s.data.toList 61 ∧ Lib.indexByte s.data.toList 61 ≤ s.size
      omega
    · show (0 : Int) ≤ IntKind.i64.wrap (Lib.indexByte s.data.toList 61 + 1) ∧ IntKind.i64.wrap (Lib.indexByte s.data.toList 61 + 1) ≤ s.size ∧ (s.size : Int) ≤ s.size
      rw [hw']; omega
    · show T.tup [T.str (s.extract 0 (Lib.indexByte s.data.toList 61).toNat), T.str (s.extract (IntKind.i64.wrap (Lib.indexByte s.data.toList 61 + 1)).toNat s.size), T.bool true] = cutT s
      unfold cutT
      rw [hw', ext_ba, ext_ba, List.drop_zero, e1, hsz, List.take_length, show (Lib.indexByte s.data.toList 61 + 1).toNat = (Lib.indexByte s.data.toList 61).toNat + 1 by omega, e2, decide_eq_true hge0]
open Classical in
noncomputable def c95 : List T → Ans
  | [.str s, .str u] => .req (s.size ≤ 1048576 ∧ u = ⟨#[61]⟩) (cutT s)
  | _ => .no
theorem got95 {vs : List T} {x : T} (h : Got (c95 vs) x) : FnOk Tryd.prog tgl 95 vs x := by
  unfold c95 at h
  split at h
  · obtain ⟨hq, e⟩ := got_req h; rw [e]; exact ok95 _ _ hq
  · exact (got_no h).elim
theorem nogl95 (vs : List T) (p : Prop) (d : Decidable p) (sz : Nat) (xs : List T) (h : c95 vs = @Ans.gl p d sz xs) : False := by
  unfold c95 at h
  split at h <;> cases h
theorem pk95 (vs : List T) (p : Prop) (d : Decidable p) (x : T) (h : c95 vs = @Ans.pk p d x) (hp : p) : FnOk Tryd.prog tgl 95 vs x := by
  unfold c95 at h
  split at h
  · cases h
  · cases h
noncomputable def lK10 : List (Nat × (List T → Ans)) := (95, c95) :: lK9
noncomputable def iK10 : List (Nat × Pt) := iK9
noncomputable abbrev K10 : Env := En tgl lK10 iK10
theorem env_K10 : EnvOk Tryd.prog K10 := (env_fn env_K9 (fun _ _ => got95) (fun vs p d sz xs h _ => (nogl95 vs p d sz xs h).elim) pk95)
theorem ok85 (s u : ByteArray) (hq : s.size ≤ 1048576 ∧ u = ⟨#[61]⟩) : FnOk Tryd.prog tgl 85 [.str s, .str u] (cutT s) := by
  refine fn_ok (Γ := K10) env_K10 Tryd.func85 low85 ?_
  obtain ⟨hs, rfl⟩ := hq
  conv => whnf
  repeat' (first
    | (refine brK_true rfl ?_; conv => whnf)
    | (refine brK_false rfl ?_; conv => whnf)
    | (refine brK_true (by assumption) ?_; conv => whnf)
    | (refine brK_false (by assumption) ?_; conv => whnf)
    | (refine brK_true ?_ ?_; (focus (simp only [List.length_nil, fx] <;> omega)); conv => whnf)
    | (refine brK_false ?_ ?_; (focus (simp only [List.length_nil, fx] <;> omega)); conv => whnf)
    | ((refine brK_of (fun h => ?_) (fun h => ?_)) <;> (have h2 := h; (try simp only [List.length_nil, fx] at h2); conv => whnf))
    | (refine reqK_of ?_ ?_; (focus (first | decide | omega | assumption | (simp only [List.length_nil, fx] <;> omega) | (simp [keyNew, sameKey, kEq] <;> omega))); conv => whnf)
    | (refine reqK_of ?_ ?_; rotate_left; (conv => whnf); rotate_left)
    | (refine nth_us ?_ ?_ ?_; (focus (first | omega | (simp only [List.length_nil, fx] <;> omega))); (focus (first | omega | (simp only [List.length_nil, fx] <;> omega))); conv => whnf)
    | (refine nth_is ?_ ?_ ?_; (focus (first | omega | (simp only [List.length_nil, fx] <;> omega))); (focus (first | omega | (simp only [List.length_nil, fx] <;> omega))); conv => whnf)
    | (refine nth_bs ?_ ?_ ?_; (focus (first | omega | (simp only [List.length_nil, fx] <;> omega))); (focus (first | omega | (simp only [List.length_nil, fx] <;> omega))); conv => whnf))
  all_goals first
    | exact ⟨hs, rfl⟩
    | rfl
    | skip
open Classical in
noncomputable def c85 : List T → Ans
  | [.str s, .str u] => .req (s.size ≤ 1048576 ∧ u = ⟨#[61]⟩) (cutT s)
  | _ => .no
theorem got85 {vs : List T} {x : T} (h : Got (c85 vs) x) : FnOk Tryd.prog tgl 85 vs x := by
  unfold c85 at h
  split at h
  · obtain ⟨hq, e⟩ := got_req h; rw [e]; exact ok85 _ _ hq
  · exact (got_no h).elim
theorem nogl85 (vs : List T) (p : Prop) (d : Decidable p) (sz : Nat) (xs : List T) (h : c85 vs = @Ans.gl p d sz xs) : False := by
  unfold c85 at h
  split at h <;> cases h
theorem pk85 (vs : List T) (p : Prop) (d : Decidable p) (x : T) (h : c85 vs = @Ans.pk p d x) (hp : p) : FnOk Tryd.prog tgl 85 vs x := by
  unfold c85 at h
  split at h
  · cases h
  · cases h
def sdT : Sd → T
  | .reg a => .ifc tyReg (.int .i64 a)
  | .slot a s => .ifc tySlot (.agg [.int .i64 a, .int .i64 s])
  | .word w => .ifc tyWord (.str (ba w))
def readT (s : ByteArray) : T := sdT (rd s.data.toList)
theorem ix_head (s : ByteArray) : ixB (⟨#[65, 66, 67, 68]⟩ : ByteArray) (((s ++ (⟨#[63]⟩ : ByteArray)).data.toList.getD (0 : Int).toNat 0).toNat : Int) = ltr s.data.toList := by
  unfold ixB
  rw [ByteArray.data_append, Array.toList_append]
  have e : ∀ x : UInt8, ((x.toNat : Int)).toNat.toUInt8 = x := fun x => by
    rw [Int.toNat_natCast]; exact UInt8.ofNat_toNat
  rw [e]
  unfold ltr
  congr 1
  cases s.data.toList <;> rfl
theorem read_reg {s : ByteArray} (h : s.size = 1) (h2 : 0 ≤ ltr s.data.toList) : readT s = .ifc tyReg (.int .i64 (ltr s.data.toList)) := by
  rw [sz_list] at h
  unfold readT
  match hl : s.data.toList, h with
  | [b], _ =>
    rw [hl] at h2
    show sdT (if 0 ≤ Lib.indexByte letters b then _ else _) = _
    rw [if_pos (show 0 ≤ Lib.indexByte letters b from h2)]; rfl
theorem u8_lit {x : UInt8} {n : Nat} (hn : n < 256) : ((x.toNat : Nat) : Int) = (n : Nat) ↔ x = UInt8.ofNat n := by
  constructor
  · intro h
    apply UInt8.toNat_inj.1
    rw [UInt8.toNat_ofNat']; omega
  · intro h; rw [h, UInt8.toNat_ofNat']; omega
theorem u8_le {x y : UInt8} : x ≤ y ↔ ((x.toNat : Nat) : Int) ≤ (y.toNat : Nat) := by rw [UInt8.le_iff_toNat_le]; omega
theorem u8_lt {x y : UInt8} : x < y ↔ ((x.toNat : Nat) : Int) < (y.toNat : Nat) := by rw [UInt8.lt_iff_toNat_lt]; omega
theorem rd3 (b d c : UInt8) : rd [b, d, c] = if 0 ≤ Lib.indexByte letters b ∧ ((d.toNat : Nat) : Int) = 46 ∧ 48 ≤ ((c.toNat : Nat) : Int) ∧ ((c.toNat : Nat) : Int) < 52 then .slot (Lib.indexByte letters b) ((c.toNat : Int) - 48) else .word [b, d, c] := by
  unfold rd
  have e1 : d = 46 ↔ ((d.toNat : Nat) : Int) = 46 := (u8_lit (n := 46) (by decide)).symm
  have e2 : 48 ≤ c ↔ 48 ≤ ((c.toNat : Nat) : Int) := u8_le
  have e3 : c < 52 ↔ ((c.toNat : Nat) : Int) < 52 := u8_lt
  simp only [e1, e2, e3]
theorem read_slot {s : ByteArray} (h : s.size = 3) (h2 : 0 ≤ ltr s.data.toList) (h3 : (((s.data.toList.getD (Int.toNat 1) 0).toNat : Nat) : Int) = 46) (h4 : 48 ≤ (((s.data.toList.getD (Int.toNat 2) 0).toNat : Nat) : Int)) (h5 : (((s.data.toList.getD (Int.toNat 2) 0).toNat : Nat) : Int) < 52) :
    readT s = .ifc tySlot (.agg [.int .i64 (ltr s.data.toList), .int .i64 ((((s.data.toList.getD (Int.toNat 2) 0).toNat : Nat) : Int) - 48)]) := by
  rw [sz_list] at h
  unfold readT
  match hl : s.data.toList, h with
  | [b, d, c], _ =>
    rw [hl] at h2 h3 h4 h5
    rw [rd3, if_pos ⟨h2, h3, h4, h5⟩]; rfl
theorem read_word {s : ByteArray} (h : ¬ (s.size = 1 ∧ 0 ≤ ltr s.data.toList)) (h2 : ¬ (s.size = 3 ∧ 0 ≤ ltr s.data.toList ∧ (((s.data.toList.getD (Int.toNat 1) 0).toNat : Nat) : Int) = 46 ∧ 48 ≤ (((s.data.toList.getD (Int.toNat 2) 0).toNat : Nat) : Int) ∧ (((s.data.toList.getD (Int.toNat 2) 0).toNat : Nat) : Int) < 52)) :
    readT s = .ifc tyWord (.str s) := by
  have hw : rd s.data.toList = .word s.data.toList → readT s = .ifc tyWord (.str s) := fun e => by
    unfold readT; rw [e]
    show T.ifc tyWord (.str (ba s.data.toList)) = _
    rw [ba_self]
  apply hw
  rw [sz_list] at h h2
  match hl : s.data.toList with
  | [] => rfl
  | [b] =>
    rw [hl] at h
    show (if 0 ≤ Lib.indexByte letters b then _ else _) = _
    rw [if_neg (fun h3 : 0 ≤ Lib.indexByte letters b => h ⟨rfl, h3⟩)]
  | [b, d] => rfl
  | [b, d, c] =>
    rw [hl] at h2
    rw [rd3, if_neg (fun h3 => h2 ⟨rfl, h3.1, h3.2.1, h3.2.2.1, h3.2.2.2⟩)]
  | _ :: _ :: _ :: _ :: _ => rfl
theorem wr48 {z : Int} (h : 48 ≤ z) (h2 : z < 52) : IntKind.i64.wrap (IntKind.u8.wrap (z - 48)) = z - 48 := by
  have e : z = 48 ∨ z = 49 ∨ z = 50 ∨ z = 51 := by omega
  rcases e with rfl | rfl | rfl | rfl <;> decide +kernel
theorem ok86 (s : ByteArray) (hq : s.size ≤ 1048576) : FnOk Tryd.prog tgl 86 [.str s] (readT s) := by
  refine fn_ok (Γ := K9) env_K9 Tryd.func86 low86 ?_
  have e63 : (⟨#[63]⟩ : ByteArray).size = 1 := rfl
  have hx := ix_head s
  conv => whnf
  repeat' (first
    | (refine brK_true rfl ?_; conv => whnf)
    | (refine brK_false rfl ?_; conv => whnf)
    | (refine brK_true (by assumption) ?_; conv => whnf)
    | (refine brK_false (by assumption) ?_; conv => whnf)
    | (refine brK_true ?_ ?_; (focus (simp only [List.length_nil, fx, hx] <;> omega)); conv => whnf)
    | (refine brK_false ?_ ?_; (focus (simp only [List.length_nil, fx, hx] <;> omega)); conv => whnf)
    | ((refine brK_of (fun h => ?_) (fun h => ?_)) <;> (have h2 := h; (try simp only [List.length_nil, fx, hx] at h2); conv => whnf))
    | (refine reqK_of ?_ ?_; (focus (first | decide | omega | assumption | (simp only [List.length_nil, fx, hx] <;> omega) | (simp [keyNew, sameKey, kEq] <;> omega))); conv => whnf)
    | (refine reqK_of ?_ ?_; rotate_left; (conv => whnf); rotate_left)
    | (refine nth_us ?_ ?_ ?_; (focus (first | omega | (simp only [List.length_nil, fx, hx] <;> omega))); (focus (first | omega | (simp only [List.length_nil, fx, hx] <;> omega))); conv => whnf)
    | (refine nth_is ?_ ?_ ?_; (focus (first | omega | (simp only [List.length_nil, fx, hx] <;> omega))); (focus (first | omega | (simp only [List.length_nil, fx, hx] <;> omega))); conv => whnf)
    | (refine nth_bs ?_ ?_ ?_; (focus (first | omega | (simp only [List.length_nil, fx, hx] <;> omega))); (focus (first | omega | (simp only [List.length_nil, fx, hx] <;> omega))); conv => whnf))
  all_goals (try rw [hx])
  all_goals first
    | (rw [ByteArray.size_append, e63]; omega)
    | (rw [e63]; omega)
    | (show (0 : Int) ≤ 0 ∧ (0 : Int) < ((s ++ (⟨#[63]⟩ : ByteArray)).size : Nat); rw [ByteArray.size_append, e63]; omega)
    | (rw [read_reg (by omega) (by assumption)]; done)
    | (rw [read_word (by omega) (by omega)]; done)
    | (rw [wr48 (by assumption) (by assumption), read_slot (by omega) (by assumption) (by assumption) (by assumption) (by assumption)]; done)
    | skip
open Classical in
noncomputable def c86 : List T → Ans
  | [.str s] => .req (s.size ≤ 1048576) (readT s)
  | _ => .no
theorem got86 {vs : List T} {x : T} (h : Got (c86 vs) x) : FnOk Tryd.prog tgl 86 vs x := by
  unfold c86 at h
  split at h
  · obtain ⟨hq, e⟩ := got_req h; rw [e]; exact ok86 _ hq
  · exact (got_no h).elim
theorem nogl86 (vs : List T) (p : Prop) (d : Decidable p) (sz : Nat) (xs : List T) (h : c86 vs = @Ans.gl p d sz xs) : False := by
  unfold c86 at h
  split at h <;> cases h
theorem pk86 (vs : List T) (p : Prop) (d : Decidable p) (x : T) (h : c86 vs = @Ans.pk p d x) (hp : p) : FnOk Tryd.prog tgl 86 vs x := by
  unfold c86 at h
  split at h
  · cases h
  · cases h
end Go.Nx
end
