import Derived.Shelf.Strings.Builder1
import Derived.Shelf.Strings.Builder2
import Derived.Shelf.Strings.OnBuilder
import Derived.Shelf.Strings.Trim
import Derived.Shelf.Small.Utf8
import Derived.Shelf.Small.Bits
import Derived.Shelf.Small.Strs
import Derived.Shelf.Small.Wraps
import Derived.Shelf.Strings.BuilderF
import Derived.Shelf.Strings.BuilderK
import Derived.Shelf.Utf8.RuneCount
import Derived.Shelf.Strings.Builder2Cap
import Derived.Shelf.Strconv.Atoi
import Derived.Shelf.Strconv.Itoa0
import Derived.Shelf.Strconv.Itoa1
import Derived.Shelf.LaysM
import Derived.Shelf.Strconv.Itoa2
import Derived.Shelf.Strconv.Itoa3
import Derived.Shelf.Strconv.AtoiErrFast
import Derived.Shelf.Strconv.ParseIntEmpty
import Derived.Shelf.Strconv.AtoiFail
import Derived.Shelf.Strconv.Clone
import Derived.Shelf.Strconv.SyntaxError
import Derived.Shelf.LaysC
import Derived.Shelf.Strconv.ToError
import Derived.Shelf.Strconv.AtoiErr
import Derived.Shelf.Strconv.ErrVar
import Derived.Shelf.Strconv.Lower
import Derived.Shelf.Strconv.ParseUint10
import Derived.Shelf.Strconv.ParseUint10Empty
import Derived.Shelf.Strconv.ParseUint10Any
import Derived.Shelf.Strconv.ParseInt10
import Derived.Shelf.Strconv.AtoiLong
import Derived.Shelf.Strconv.AtoiInnerAll
import Derived.Shelf.Strconv.RangeError
import Derived.Shelf.Strconv.ToErrorRange
import Derived.Shelf.Strconv.AtoiAll
import Derived.Shelf.Strconv.ErrVarAll
import Derived.Shelf.Strconv.ParseUintEmpty
import Derived.Shelf.Strconv.ParseUint10b64
import Derived.Shelf.Strconv.ParseUint10b32
import Derived.Shelf.Strconv.ParseUint10b16
import Derived.Shelf.Strconv.ParseUint10b8
import Derived.Shelf.Strconv.ParseUint10At
import Derived.Shelf.Strconv.ParseInt10At64
import Derived.Shelf.Strconv.ParseInt10At32
import Derived.Shelf.Strconv.ParseInt10At16
import Derived.Shelf.Strconv.ParseInt10At8
import Derived.Shelf.Strconv.ParseInt10All
import Derived.Shelf.Strings.Search1
import Derived.Shelf.Strings.Search2
import Derived.Shelf.Strings.Search3
import Derived.Shelf.Strings.Cut
import Derived.Shelf.Strings.Count
import Derived.Shelf.Strings.Shaped
import Derived.Shelf.Sort.Plain
import Derived.Shelf.Strings.Prefix
import Derived.Shelf.Strings.Split
import Derived.Shelf.Strings.SplitShaped
import Derived.Shelf.Unicode.Decode
import Derived.Shelf.Strings.Runes
import Derived.Shelf.Strings.RuneCount
import Derived.Shelf.Strings.AsciiSet
import Derived.Shelf.Strings.Explode
import Derived.Shelf.Unicode.DecodeSlow
import Derived.Shelf.Unicode.DecodeAny
import Derived.Shelf.Unicode.DecodeLast
import Derived.Shelf.Strings.BuilderCap
import Derived.Shelf.Slices.Turned
import Derived.Shelf.Slices.In.SortNone
import Derived.Test.YtgnblkmpoigejaaGreatDoorProg
import Derived.Test.YtgnblkmpoigejaaGreatDoorU0
import Derived.Lib.Join
import Derived.Test.YtgnblkmpoigejaaGreatDoorU8
import Derived.Test.YtgnblkmpoigejaaGreatDoorU2
import Derived.RangeFuncNested
import Derived.RangeFuncBound
import Derived.RangeFuncCalls
import Derived.RangeFuncLeaves
import Derived.Shelf.Abstract
import Derived.Shelf.RegionOpen
import Derived.WalkKit
import Derived.OwnWalkIn
import Derived.TacticsInMore
import Derived.LoopNIn
import Derived.LoopIn
import Derived.LaidEqlPtr
import Derived.Lib.Builder
import Derived.Test.YtgnblkmpoigejaaGreatDoorU3
set_option linter.unusedVariables false
set_option linter.unusedSimpArgs false
namespace Go.Proofs
open Go.Shelf
def Tryz.lays156_ren : Go.Shelf.Ren := ⟨fun | 156 => 102 | 165 => 130 | 166 => 131 | 169 => 132 | 240 => 179 | 241 => 180 | 276 => 217 | 277 => 218 | n => n, fun | 31 => 59 | 9 => 9 | 3 => 3 | 4 => 4 | 0 => 0 | 20 => 20 | 72 => 194 | 76 => 198 | 70 => 192 | 37 => 106 | 75 => 197 | 127 => 233 | 164 => 274 | 5 => 5 | 80 => 177 | n => n, fun | n => n⟩
theorem Tryz.lays156 : Go.Proofs.Lays.n156 Tryz.prog Tryz.lays156_ren := {
 mixed := by kernel_rfl
 f156 := Tryz.func102.trans (congrArg some (by kernel_rfl))
 f165 := Tryz.func130.trans (congrArg some (by kernel_rfl))
 f166 := Tryz.func131.trans (congrArg some (by kernel_rfl))
 f169 := Tryz.func132.trans (congrArg some (by kernel_rfl))
 f240 := Tryz.func179.trans (congrArg some (by kernel_rfl))
 f241 := Tryz.func180.trans (congrArg some (by kernel_rfl))
 f276 := Tryz.func217.trans (congrArg some (by kernel_rfl))
 f277 := Tryz.func218.trans (congrArg some (by kernel_rfl))
 t0 := Tryz.underlying0
 a0 := Tryz.isAgg0
 z0 := Tryz.sizeOf0
 v0 := Tryz.zeroValue0
 t3 := Tryz.underlying3
 a3 := Tryz.isAgg3
 z3 := Tryz.sizeOf3
 v3 := Tryz.zeroValue3
 t4 := Tryz.underlying4
 a4 := Tryz.isAgg4
 z4 := Tryz.sizeOf4
 v4 := Tryz.zeroValue4
 t9 := Tryz.underlying9
 a9 := Tryz.isAgg9
 z9 := Tryz.sizeOf9
 v9 := Tryz.zeroValue9
 t20 := Tryz.underlying20
 a20 := Tryz.isAgg20
 z20 := Tryz.sizeOf20
 v20 := Tryz.zeroValue20
 t31 := Tryz.underlying59
 a31 := Tryz.isAgg59
 z31 := Tryz.sizeOf59
 v31 := Tryz.zeroValue59
 t37 := Tryz.underlying106
 a37 := Tryz.isAgg106
 z37 := Tryz.sizeOf106
 v37 := Tryz.zeroValue106
 t70 := Tryz.underlying192
 a70 := Tryz.isAgg192
 z70 := Tryz.sizeOf192
 v70 := Tryz.zeroValue192
 t72 := Tryz.underlying194
 a72 := Tryz.isAgg194
 z72 := Tryz.sizeOf194
 v72 := Tryz.zeroValue194
 t75 := Tryz.underlying197
 a75 := Tryz.isAgg197
 z75 := Tryz.sizeOf197
 v75 := Tryz.zeroValue197
 t76 := Tryz.underlying198
 a76 := Tryz.isAgg198
 z76 := Tryz.sizeOf198
 v76 := Tryz.zeroValue198
 t127 := Tryz.underlying233
 a127 := Tryz.isAgg233
 z127 := Tryz.sizeOf233
 v127 := Tryz.zeroValue233
 t164 := Tryz.underlying274
 a164 := Tryz.isAgg274
 z164 := Tryz.sizeOf274
 v164 := Tryz.zeroValue274 }
theorem Tryz.Builder_Extra_156 : Builder.Extra Tryz.prog Tryz.lays156_ren := {
 sizeBuilder := by kernel_rfl
 liesBuilder := by kernel_rfl
 t5 := Tryz.underlying5
 a5 := Tryz.isAgg5
 z5 := Tryz.sizeOf5
 v5 := Tryz.zeroValue5
 infoByte := by kernel_rfl
 cellsByte := by kernel_rfl
 sizeByte := by kernel_rfl
 neB5 := by decide }
open Go.RowKit in
theorem Tryz.strings_Join_none (a : Option Addr) (c : Nat) (sep : ByteArray) (w : World) :
  Calls Tryz.prog 102 #[.slice a 0 c, .string sep] w fun e w' => e = .returned (.string ⟨#[]⟩) ∧ w' = w := Any.strings_Join_none Tryz.lays156 Tryz.Builder_Extra_156 a c sep w
open Go.RowKit in
theorem Tryz.strings_Join (bk o c : Nat) (xs : List ByteArray) (sep : ByteArray) (w : World) (hcells : ∀ (j : Nat) x, xs[j]? = some x → w.cell? ⟨bk, o + j, none⟩ = some (.string x)) (hbk : bk < w.heap.size) (hN : xs.length ≤ 140737488355328) (hcap : xs.length ≤ c) (hlen : (Lib.join (xs.map (·.data.toList)) sep.data.toList).length ≤ 140737488355328) :
  Calls Tryz.prog 102 #[.slice (some ⟨bk, o, none⟩) xs.length c, .string sep] w fun e w' => e = .returned (.string ⟨(Lib.join (xs.map (·.data.toList)) sep.data.toList).toArray⟩) ∧ Below w.heap.size w w' := Any.strings_Join Tryz.lays156 Tryz.Builder_Extra_156 bk o c xs sep w hcells hbk hN hcap hlen
def Tryz.lays137_ren : Go.Shelf.Ren := ⟨fun | 137 => 99 | 217 => 127 | 266 => 173 | n => n, fun | 9 => 9 | 5 => 5 | 3 => 3 | n => n, fun | n => n⟩
theorem Tryz.lays137 : Go.Proofs.Lays.n137 Tryz.prog Tryz.lays137_ren := {
 mixed := by kernel_rfl
 f137 := Tryz.func99.trans (congrArg some (by kernel_rfl))
 f217 := Tryz.func127.trans (congrArg some (by kernel_rfl))
 f266 := Tryz.func173.trans (congrArg some (by kernel_rfl))
 t3 := Tryz.underlying3
 a3 := Tryz.isAgg3
 z3 := Tryz.sizeOf3
 v3 := Tryz.zeroValue3
 t5 := Tryz.underlying5
 a5 := Tryz.isAgg5
 z5 := Tryz.sizeOf5
 v5 := Tryz.zeroValue5
 t9 := Tryz.underlying9
 a9 := Tryz.isAgg9
 z9 := Tryz.sizeOf9
 v9 := Tryz.zeroValue9 }
open Go.RowKit in
theorem Tryz.strings_IndexByte (s : ByteArray) (c : Int) (w : World) :
  Calls Tryz.prog 99 #[.string s, .int .u8 c] w fun e w' => e = .returned (.int .i64 (Lib.indexByte s.data.toList c.toNat.toUInt8)) ∧ w' = w := Any.strings_IndexByte Tryz.lays137 s c w
def Tryz.laysM246_ren : Go.Shelf.Ren := ⟨fun | 246 => 119 | 283 => 162 | 284 => 163 | 285 => 164 | 286 => 165 | 129 => 197 | 317 => 196 | 318 => 198 | 319 => 199 | 320 => 200 | 337 => 226 | 338 => 227 | n => n, fun | 2 => 2 | 3 => 3 | 9 => 9 | 4 => 4 | 171 => 223 | 0 => 0 | 53 => 210 | 37 => 106 | 5 => 5 | 173 => 226 | 212 => 258 | 51 => 211 | 20 => 20 | 213 => 259 | 46 => 155 | 232 => 304 | 233 => 222 | n => n, fun | 17 => 1 | 18 => 2 | 19 => 3 | n => n⟩
def Tryz.laysM243_ren : Go.Shelf.Ren := ⟨fun | 243 => 78 | 246 => 119 | 283 => 162 | 284 => 163 | 285 => 164 | 286 => 165 | 129 => 197 | 317 => 196 | 318 => 198 | 319 => 199 | 320 => 200 | 337 => 226 | 338 => 227 | n => n, fun | 3 => 3 | 9 => 9 | 2 => 2 | 4 => 4 | 171 => 223 | 0 => 0 | 53 => 210 | 37 => 106 | 5 => 5 | 173 => 226 | 212 => 258 | 51 => 211 | 20 => 20 | 213 => 259 | 46 => 155 | 232 => 304 | 233 => 222 | n => n, fun | 17 => 1 | 18 => 2 | 19 => 3 | n => n⟩
def Tryz.laysM171_ren : Go.Shelf.Ren := ⟨fun | 171 => 36 | 243 => 78 | 246 => 119 | 283 => 162 | 284 => 163 | 285 => 164 | 286 => 165 | 129 => 197 | 317 => 196 | 318 => 198 | 319 => 199 | 320 => 200 | 337 => 226 | 338 => 227 | n => n, fun | 3 => 3 | 9 => 9 | 2 => 2 | 4 => 4 | 171 => 223 | 0 => 0 | 53 => 210 | 37 => 106 | 5 => 5 | 173 => 226 | 212 => 258 | 51 => 211 | 20 => 20 | 213 => 259 | 46 => 155 | 232 => 304 | 233 => 222 | n => n, fun | 17 => 1 | 18 => 2 | 19 => 3 | n => n⟩
theorem Tryz.laysM171 : Go.Proofs.LaysM.n171 Tryz.prog Tryz.laysM171_ren := {
 mixed := by kernel_rfl
 f129 := Tryz.func197.trans (congrArg some (by kernel_rfl))
 f171 := Tryz.func36.trans (congrArg some (by kernel_rfl))
 f243 := Tryz.func78.trans (congrArg some (by kernel_rfl))
 f246 := Tryz.func119.trans (congrArg some (by kernel_rfl))
 f283 := Tryz.func162.trans (congrArg some (by kernel_rfl))
 f284 := Tryz.func163.trans (congrArg some (by kernel_rfl))
 f285 := Tryz.func164.trans (congrArg some (by kernel_rfl))
 f286 := Tryz.func165.trans (congrArg some (by kernel_rfl))
 f317 := Tryz.func196.trans (congrArg some (by kernel_rfl))
 f318 := Tryz.func198.trans (congrArg some (by kernel_rfl))
 f319 := Tryz.func199.trans (congrArg some (by kernel_rfl))
 f320 := Tryz.func200.trans (congrArg some (by kernel_rfl))
 f337 := Tryz.func226.trans (congrArg some (by kernel_rfl))
 f338 := Tryz.func227.trans (congrArg some (by kernel_rfl))
 t0 := Tryz.underlying0
 a0 := Tryz.isAgg0
 z0 := Tryz.sizeOf0
 v0 := Tryz.zeroValue0
 t2 := Tryz.underlying2
 a2 := Tryz.isAgg2
 z2 := Tryz.sizeOf2
 v2 := Tryz.zeroValue2
 t3 := Tryz.underlying3
 a3 := Tryz.isAgg3
 z3 := Tryz.sizeOf3
 v3 := Tryz.zeroValue3
 t4 := Tryz.underlying4
 a4 := Tryz.isAgg4
 z4 := Tryz.sizeOf4
 v4 := Tryz.zeroValue4
 t5 := Tryz.underlying5
 a5 := Tryz.isAgg5
 z5 := Tryz.sizeOf5
 v5 := Tryz.zeroValue5
 t9 := Tryz.underlying9
 a9 := Tryz.isAgg9
 z9 := Tryz.sizeOf9
 v9 := Tryz.zeroValue9
 t20 := Tryz.underlying20
 a20 := Tryz.isAgg20
 z20 := Tryz.sizeOf20
 v20 := Tryz.zeroValue20
 t37 := Tryz.underlying106
 a37 := Tryz.isAgg106
 z37 := Tryz.sizeOf106
 v37 := Tryz.zeroValue106
 t46 := Tryz.underlying155
 a46 := Tryz.isAgg155
 z46 := Tryz.sizeOf155
 v46 := Tryz.zeroValue155
 t51 := Tryz.underlying211
 a51 := Tryz.isAgg211
 z51 := Tryz.sizeOf211
 v51 := Tryz.zeroValue211
 t53 := Tryz.underlying210
 a53 := Tryz.isAgg210
 z53 := Tryz.sizeOf210
 v53 := Tryz.zeroValue210
 t171 := Tryz.underlying223
 a171 := Tryz.isAgg223
 z171 := Tryz.sizeOf223
 v171 := Tryz.zeroValue223
 t173 := Tryz.underlying226
 a173 := Tryz.isAgg226
 z173 := Tryz.sizeOf226
 v173 := Tryz.zeroValue226
 t212 := Tryz.underlying258
 a212 := Tryz.isAgg258
 z212 := Tryz.sizeOf258
 v212 := Tryz.zeroValue258
 t213 := Tryz.underlying259
 a213 := Tryz.isAgg259
 z213 := Tryz.sizeOf259
 t232 := Tryz.underlying304
 a232 := Tryz.isAgg304
 z232 := Tryz.sizeOf304
 v232 := Tryz.zeroValue304
 t233 := Tryz.underlying222
 a233 := Tryz.isAgg222
 z233 := Tryz.sizeOf222
 v233 := Tryz.zeroValue222
 g17 := by kernel_rfl
 g18 := by kernel_rfl
 g19 := by kernel_rfl
 i0 := by kernel_rfl
 i2 := by kernel_rfl
 i3 := by kernel_rfl
 i4 := by kernel_rfl
 i5 := by kernel_rfl
 i9 := by kernel_rfl
 i20 := by kernel_rfl
 i37 := by kernel_rfl
 i46 := by kernel_rfl
 i51 := by kernel_rfl
 i53 := by kernel_rfl
 i171 := by kernel_rfl
 i173 := by kernel_rfl
 i212 := by kernel_rfl
 i232 := by kernel_rfl
 i233 := by kernel_rfl
 m17 := by kernel_rfl
 m18 := by kernel_rfl
 m19 := by kernel_rfl }
open Go.RowKit Go.Sort Go.Lib in
theorem Tryz.strconv_Itoa (n : Int) (h0 : -9223372036854775808 ≤ n) (h1 : n ≤ 9223372036854775807) (w : World) (htab : Lib.TabIs Tryz.prog w "internal/strconv.uint64pow10" .u64 Lib.pow10Tab) :
  Calls Tryz.prog 36 #[.int .i64 n] w fun e w' => e = .returned (.string ⟨(Lib.itoa n).toArray⟩) ∧ ∃ k os, w' = grow (w.drewN k) os := Any.strconv_Itoa Tryz.laysM171 n h0 h1 w htab
def Tryz.lays171_ren : Go.Shelf.Ren := ⟨fun | 171 => 36 | 243 => 78 | 246 => 119 | 283 => 162 | 284 => 163 | 285 => 164 | 286 => 165 | 129 => 197 | 317 => 196 | 318 => 198 | 319 => 199 | 320 => 200 | 337 => 226 | 338 => 227 | n => n, fun | 3 => 3 | 9 => 9 | 2 => 2 | 4 => 4 | 171 => 223 | 0 => 0 | 53 => 210 | 37 => 106 | 5 => 5 | 173 => 226 | 212 => 258 | 51 => 211 | 20 => 20 | 213 => 259 | 46 => 155 | 232 => 304 | 233 => 222 | n => n, fun | 17 => 1 | 18 => 2 | 19 => 3 | n => n⟩
theorem Tryz.lays171 : Go.Proofs.Lays.n171 Tryz.prog Tryz.lays171_ren := {
 mixed := by kernel_rfl
 f129 := Tryz.func197.trans (congrArg some (by kernel_rfl))
 f171 := Tryz.func36.trans (congrArg some (by kernel_rfl))
 f243 := Tryz.func78.trans (congrArg some (by kernel_rfl))
 f246 := Tryz.func119.trans (congrArg some (by kernel_rfl))
 f283 := Tryz.func162.trans (congrArg some (by kernel_rfl))
 f284 := Tryz.func163.trans (congrArg some (by kernel_rfl))
 f285 := Tryz.func164.trans (congrArg some (by kernel_rfl))
 f286 := Tryz.func165.trans (congrArg some (by kernel_rfl))
 f317 := Tryz.func196.trans (congrArg some (by kernel_rfl))
 f318 := Tryz.func198.trans (congrArg some (by kernel_rfl))
 f319 := Tryz.func199.trans (congrArg some (by kernel_rfl))
 f320 := Tryz.func200.trans (congrArg some (by kernel_rfl))
 f337 := Tryz.func226.trans (congrArg some (by kernel_rfl))
 f338 := Tryz.func227.trans (congrArg some (by kernel_rfl))
 t0 := Tryz.underlying0
 a0 := Tryz.isAgg0
 z0 := Tryz.sizeOf0
 v0 := Tryz.zeroValue0
 t2 := Tryz.underlying2
 a2 := Tryz.isAgg2
 z2 := Tryz.sizeOf2
 v2 := Tryz.zeroValue2
 t3 := Tryz.underlying3
 a3 := Tryz.isAgg3
 z3 := Tryz.sizeOf3
 v3 := Tryz.zeroValue3
 t4 := Tryz.underlying4
 a4 := Tryz.isAgg4
 z4 := Tryz.sizeOf4
 v4 := Tryz.zeroValue4
 t5 := Tryz.underlying5
 a5 := Tryz.isAgg5
 z5 := Tryz.sizeOf5
 v5 := Tryz.zeroValue5
 t9 := Tryz.underlying9
 a9 := Tryz.isAgg9
 z9 := Tryz.sizeOf9
 v9 := Tryz.zeroValue9
 t20 := Tryz.underlying20
 a20 := Tryz.isAgg20
 z20 := Tryz.sizeOf20
 v20 := Tryz.zeroValue20
 t37 := Tryz.underlying106
 a37 := Tryz.isAgg106
 z37 := Tryz.sizeOf106
 v37 := Tryz.zeroValue106
 t46 := Tryz.underlying155
 a46 := Tryz.isAgg155
 z46 := Tryz.sizeOf155
 v46 := Tryz.zeroValue155
 t51 := Tryz.underlying211
 a51 := Tryz.isAgg211
 z51 := Tryz.sizeOf211
 v51 := Tryz.zeroValue211
 t53 := Tryz.underlying210
 a53 := Tryz.isAgg210
 z53 := Tryz.sizeOf210
 v53 := Tryz.zeroValue210
 t171 := Tryz.underlying223
 a171 := Tryz.isAgg223
 z171 := Tryz.sizeOf223
 v171 := Tryz.zeroValue223
 t173 := Tryz.underlying226
 a173 := Tryz.isAgg226
 z173 := Tryz.sizeOf226
 v173 := Tryz.zeroValue226
 t212 := Tryz.underlying258
 a212 := Tryz.isAgg258
 z212 := Tryz.sizeOf258
 v212 := Tryz.zeroValue258
 t213 := Tryz.underlying259
 a213 := Tryz.isAgg259
 z213 := Tryz.sizeOf259
 t232 := Tryz.underlying304
 a232 := Tryz.isAgg304
 z232 := Tryz.sizeOf304
 v232 := Tryz.zeroValue304
 t233 := Tryz.underlying222
 a233 := Tryz.isAgg222
 z233 := Tryz.sizeOf222
 v233 := Tryz.zeroValue222
 g17 := by kernel_rfl
 g18 := by kernel_rfl
 g19 := by kernel_rfl }
open Go.RowKit Go.Sort Go.Lib in
theorem Tryz.strconv_Itoa_small (i : Nat) (hi : i < 100) (w : World) :
  Calls Tryz.prog 36 #[.int .i64 i] w fun e w' => e = .returned (.string ⟨(Lib.decDigits i).toArray⟩) ∧ w' = w := Any.strconv_Itoa_small Tryz.lays171 i hi w
def Tryz.lays219_ren : Go.Shelf.Ren := ⟨fun | 219 => 128 | 217 => 127 | 225 => 174 | 224 => 175 | 267 => 176 | 266 => 173 | 314 => 213 | n => n, fun | 9 => 9 | 3 => 3 | 4 => 4 | 5 => 5 | 46 => 155 | 146 => 270 | 51 => 211 | n => n, fun | 1 => 0 | n => n⟩
theorem Tryz.lays219 : Go.Proofs.Lays.n219 Tryz.prog Tryz.lays219_ren := {
 mixed := by kernel_rfl
 f217 := Tryz.func127.trans (congrArg some (by kernel_rfl))
 f219 := Tryz.func128.trans (congrArg some (by kernel_rfl))
 f224 := Tryz.func175.trans (congrArg some (by kernel_rfl))
 f225 := Tryz.func174.trans (congrArg some (by kernel_rfl))
 f266 := Tryz.func173.trans (congrArg some (by kernel_rfl))
 f267 := Tryz.func176.trans (congrArg some (by kernel_rfl))
 f314 := Tryz.func213.trans (congrArg some (by kernel_rfl))
 t3 := Tryz.underlying3
 a3 := Tryz.isAgg3
 z3 := Tryz.sizeOf3
 v3 := Tryz.zeroValue3
 t4 := Tryz.underlying4
 a4 := Tryz.isAgg4
 z4 := Tryz.sizeOf4
 v4 := Tryz.zeroValue4
 t5 := Tryz.underlying5
 a5 := Tryz.isAgg5
 z5 := Tryz.sizeOf5
 v5 := Tryz.zeroValue5
 t9 := Tryz.underlying9
 a9 := Tryz.isAgg9
 z9 := Tryz.sizeOf9
 v9 := Tryz.zeroValue9
 t46 := Tryz.underlying155
 a46 := Tryz.isAgg155
 z46 := Tryz.sizeOf155
 v46 := Tryz.zeroValue155
 t51 := Tryz.underlying211
 a51 := Tryz.isAgg211
 z51 := Tryz.sizeOf211
 v51 := Tryz.zeroValue211
 t146 := Tryz.underlying270
 a146 := Tryz.isAgg270
 z146 := Tryz.sizeOf270
 v146 := Tryz.zeroValue270
 g1 := by kernel_rfl }
open Go.RowKit Go.Lib in
theorem Tryz.stringslite_Index_one (s : ByteArray) (c : UInt8) (w : World) :
  Calls Tryz.prog 128 #[.string s, .string ⟨#[c]⟩] w fun e w' => e = .returned (.int .i64 (Lib.indexByte s.data.toList c)) ∧ w' = w := Any.stringslite_Index_one Tryz.lays219 s c w
def Tryz.lays143_ren : Go.Shelf.Ren := ⟨fun | 143 => 170 | 219 => 128 | 217 => 127 | 225 => 174 | 224 => 175 | 267 => 176 | 266 => 173 | 314 => 213 | n => n, fun | 9 => 9 | 3 => 3 | 4 => 4 | 5 => 5 | 46 => 155 | 146 => 270 | 51 => 211 | n => n, fun | 1 => 0 | n => n⟩
theorem Tryz.lays143 : Go.Proofs.Lays.n143 Tryz.prog Tryz.lays143_ren := {
 mixed := by kernel_rfl
 f143 := Tryz.func170.trans (congrArg some (by kernel_rfl))
 f217 := Tryz.func127.trans (congrArg some (by kernel_rfl))
 f219 := Tryz.func128.trans (congrArg some (by kernel_rfl))
 f224 := Tryz.func175.trans (congrArg some (by kernel_rfl))
 f225 := Tryz.func174.trans (congrArg some (by kernel_rfl))
 f266 := Tryz.func173.trans (congrArg some (by kernel_rfl))
 f267 := Tryz.func176.trans (congrArg some (by kernel_rfl))
 f314 := Tryz.func213.trans (congrArg some (by kernel_rfl))
 t3 := Tryz.underlying3
 a3 := Tryz.isAgg3
 z3 := Tryz.sizeOf3
 v3 := Tryz.zeroValue3
 t4 := Tryz.underlying4
 a4 := Tryz.isAgg4
 z4 := Tryz.sizeOf4
 v4 := Tryz.zeroValue4
 t5 := Tryz.underlying5
 a5 := Tryz.isAgg5
 z5 := Tryz.sizeOf5
 v5 := Tryz.zeroValue5
 t9 := Tryz.underlying9
 a9 := Tryz.isAgg9
 z9 := Tryz.sizeOf9
 v9 := Tryz.zeroValue9
 t46 := Tryz.underlying155
 a46 := Tryz.isAgg155
 z46 := Tryz.sizeOf155
 v46 := Tryz.zeroValue155
 t51 := Tryz.underlying211
 a51 := Tryz.isAgg211
 z51 := Tryz.sizeOf211
 v51 := Tryz.zeroValue211
 t146 := Tryz.underlying270
 a146 := Tryz.isAgg270
 z146 := Tryz.sizeOf270
 v146 := Tryz.zeroValue270
 g1 := by kernel_rfl }
open Go.RowKit Go.Lib in
theorem Tryz.strings_Index (s sub : ByteArray) (m : Int) (w : World) (hs : s.size < 4294967281) (hm : w.cell? ⟨0, 0, none⟩ = some (.int .i64 m)) :
  Calls Tryz.prog 170 #[.string s, .string sub] w fun e w' => e = .returned (.int .i64 (Lib.index s.data.toList sub.data.toList)) ∧ w' = w := Any.strings_Index Tryz.lays143 s sub m w hs hm
def Tryz.lays221_ren : Go.Shelf.Ren := ⟨fun | 221 => 129 | 268 => 177 | 138 => 178 | 143 => 170 | 195 => 214 | 197 => 215 | 218 => 216 | 219 => 128 | 260 => 235 | 217 => 127 | 225 => 174 | 224 => 175 | 267 => 176 | 266 => 173 | 314 => 213 | n => n, fun | 9 => 9 | 3 => 3 | 31 => 59 | 4 => 4 | 0 => 0 | 105 => 272 | 21 => 21 | 5 => 5 | 46 => 155 | 119 => 308 | 139 => 311 | 138 => 310 | 146 => 270 | 51 => 211 | n => n, fun | 1 => 0 | 3 => 4 | 4 => 5 | n => n⟩
def Tryz.lays146_ren : Go.Shelf.Ren := ⟨fun | 146 => 101 | 221 => 129 | 268 => 177 | 138 => 178 | 143 => 170 | 195 => 214 | 197 => 215 | 218 => 216 | 219 => 128 | 260 => 235 | 217 => 127 | 225 => 174 | 224 => 175 | 267 => 176 | 266 => 173 | 314 => 213 | n => n, fun | 9 => 9 | 31 => 59 | 3 => 3 | 4 => 4 | 0 => 0 | 105 => 272 | 21 => 21 | 5 => 5 | 46 => 155 | 119 => 308 | 139 => 311 | 138 => 310 | 146 => 270 | 51 => 211 | n => n, fun | 1 => 0 | 3 => 4 | 4 => 5 | n => n⟩
theorem Tryz.lays146 : Go.Proofs.Lays.n146 Tryz.prog Tryz.lays146_ren := {
 mixed := by kernel_rfl
 f138 := Tryz.func178.trans (congrArg some (by kernel_rfl))
 f143 := Tryz.func170.trans (congrArg some (by kernel_rfl))
 f146 := Tryz.func101.trans (congrArg some (by kernel_rfl))
 f195 := Tryz.func214.trans (congrArg some (by kernel_rfl))
 f197 := Tryz.func215.trans (congrArg some (by kernel_rfl))
 f217 := Tryz.func127.trans (congrArg some (by kernel_rfl))
 f218 := Tryz.func216.trans (congrArg some (by kernel_rfl))
 f219 := Tryz.func128.trans (congrArg some (by kernel_rfl))
 f221 := Tryz.func129.trans (congrArg some (by kernel_rfl))
 f224 := Tryz.func175.trans (congrArg some (by kernel_rfl))
 f225 := Tryz.func174.trans (congrArg some (by kernel_rfl))
 f260 := Tryz.func235.trans (congrArg some (by kernel_rfl))
 f266 := Tryz.func173.trans (congrArg some (by kernel_rfl))
 f267 := Tryz.func176.trans (congrArg some (by kernel_rfl))
 f268 := Tryz.func177.trans (congrArg some (by kernel_rfl))
 f314 := Tryz.func213.trans (congrArg some (by kernel_rfl))
 t0 := Tryz.underlying0
 a0 := Tryz.isAgg0
 z0 := Tryz.sizeOf0
 v0 := Tryz.zeroValue0
 t3 := Tryz.underlying3
 a3 := Tryz.isAgg3
 z3 := Tryz.sizeOf3
 v3 := Tryz.zeroValue3
 t4 := Tryz.underlying4
 a4 := Tryz.isAgg4
 z4 := Tryz.sizeOf4
 v4 := Tryz.zeroValue4
 t5 := Tryz.underlying5
 a5 := Tryz.isAgg5
 z5 := Tryz.sizeOf5
 v5 := Tryz.zeroValue5
 t9 := Tryz.underlying9
 a9 := Tryz.isAgg9
 z9 := Tryz.sizeOf9
 v9 := Tryz.zeroValue9
 t21 := Tryz.underlying21
 a21 := Tryz.isAgg21
 z21 := Tryz.sizeOf21
 v21 := Tryz.zeroValue21
 t31 := Tryz.underlying59
 a31 := Tryz.isAgg59
 z31 := Tryz.sizeOf59
 v31 := Tryz.zeroValue59
 t46 := Tryz.underlying155
 a46 := Tryz.isAgg155
 z46 := Tryz.sizeOf155
 v46 := Tryz.zeroValue155
 t51 := Tryz.underlying211
 a51 := Tryz.isAgg211
 z51 := Tryz.sizeOf211
 v51 := Tryz.zeroValue211
 t105 := Tryz.underlying272
 a105 := Tryz.isAgg272
 z105 := Tryz.sizeOf272
 v105 := Tryz.zeroValue272
 t119 := Tryz.underlying308
 a119 := Tryz.isAgg308
 z119 := Tryz.sizeOf308
 t138 := Tryz.underlying310
 a138 := Tryz.isAgg310
 z138 := Tryz.sizeOf310
 v138 := Tryz.zeroValue310
 t139 := Tryz.underlying311
 a139 := Tryz.isAgg311
 z139 := Tryz.sizeOf311
 v139 := Tryz.zeroValue311
 t146 := Tryz.underlying270
 a146 := Tryz.isAgg270
 z146 := Tryz.sizeOf270
 v146 := Tryz.zeroValue270
 g1 := by kernel_rfl
 g3 := by kernel_rfl
 g4 := by kernel_rfl }
open Go.RowKit Go.Lib in
theorem Tryz.strings_Split (s sep : ByteArray) (m : Int) (w : World) (hs : s.size < 4294967281) (hm : w.cell? ⟨0, 0, none⟩ = some (.int .i64 m)) (h1 : 1 ≤ sep.size) :
  Calls Tryz.prog 101 #[.string s, .string sep] w fun e w' =>
   e = .returned (.slice (some ⟨w.heap.size, 0, none⟩) (Lib.countB s sep + 1) (Lib.countB s sep + 1)) ∧ w' = w.alloc (.cells ((Lib.splitB sep 0 (Lib.countB s sep) s).map Value.string).toArray 9) := Any.strings_Split Tryz.lays146 (by kernel_rfl) s sep m w hs hm h1
def Tryz.lays107_ren : Go.Shelf.Ren := ⟨fun | 107 => 44 | 108 => 87 | n => n, fun | 28 => 94 | 3 => 3 | 4 => 4 | 0 => 0 | n => n, fun | n => n⟩
theorem Tryz.lays107 : Go.Proofs.Lays.n107 Tryz.prog Tryz.lays107_ren := {
 mixed := by kernel_rfl
 f107 := Tryz.func44.trans (congrArg some (by kernel_rfl))
 f108 := Tryz.func87.trans (congrArg some (by kernel_rfl))
 t0 := Tryz.underlying0
 a0 := Tryz.isAgg0
 z0 := Tryz.sizeOf0
 v0 := Tryz.zeroValue0
 t3 := Tryz.underlying3
 a3 := Tryz.isAgg3
 z3 := Tryz.sizeOf3
 v3 := Tryz.zeroValue3
 t4 := Tryz.underlying4
 a4 := Tryz.isAgg4
 z4 := Tryz.sizeOf4
 v4 := Tryz.zeroValue4
 t28 := Tryz.underlying94
 a28 := Tryz.isAgg94
 z28 := Tryz.sizeOf94
 v28 := Tryz.zeroValue94 }
open Go.Lib in
theorem Tryz.slices_Contains_int (b off n c : Nat) (zs : List Int) (x : Int) (w : World) (hz : n ≤ zs.length) (hbig : n ≤ 9223372036854775807) (hc : ∀ j, j < zs.length → w.cell? ⟨b, off + j, none⟩ = some (.int .i64 (zs.getD j 0))) :
  Calls Tryz.prog 44 #[.slice (some ⟨b, off, none⟩) n c, .int .i64 x] w fun e w' => e = .returned (.bool ((zs.take n).contains x)) ∧ w' = w := Any.slices_Contains_int Tryz.lays107 b off n c zs x w hz hbig hc
end Go.Proofs
namespace Go.Proofs.YtgnblkmpoigejaaGreatDoor
open Go.RowKit
def joinL (xs : List ByteArray) (sep : ByteArray) : List UInt8 := Lib.join (xs.map sl) (sl sep)
def joinS (xs : List ByteArray) (sep : ByteArray) : ByteArray := mkS (joinL xs sep)
theorem join_len : ∀ (xs : List (List UInt8)) (sep : List UInt8), (Lib.join xs sep).length ≤ (xs.map (fun x => x.length + sep.length)).sum
 | [], sep => by simp [Lib.join_nil]
 | x :: xs, sep => by
  have key : ∀ r : List (List UInt8), (Lib.joinTail sep r).length = (r.map (fun x => x.length + sep.length)).sum := by
   intro r
   induction r with
   | nil => rfl
   | cons y ys ih => simp only [Lib.joinTail, List.map_cons, List.flatten_cons, List.length_append, List.sum_cons] at ih ⊢; rw [ih]; omega
  rw [Lib.join_cons, List.length_append, key, List.map_cons, List.sum_cons]
  omega
theorem joinL_len (xs : List ByteArray) (sep : ByteArray) : (joinL xs sep).length ≤ (xs.map (fun x => x.size + sep.size)).sum := by
 refine Nat.le_trans (join_len _ _) (Nat.le_of_eq ?_)
 rw [List.map_map]
 exact congrArg List.sum (List.map_congr_left (fun x _ => by simp only [Function.comp, sl_len]))
theorem join_any (v : Value) (xs : List ByteArray) (sep : ByteArray) (w : World) (h : SlR w es v xs) (hx : xs.length ≤ 140737488351232) (hlen : (joinL xs sep).length ≤ 140737488351232) :
  Calls Tryz.prog 102 #[v, .string sep] w fun e w' => e = .returned (.string (joinS xs sep)) ∧ Below w.heap.size w w' := by
 by_cases hn : 0 < xs.length
 ·obtain ⟨b, o, c, rfl, hc, hb, hcell⟩ := h.texts hn
  refine (Tryz.strings_Join b o c xs sep w (fun j x hj => ?_) hb (by omega) hc (by unfold joinL at hlen; exact Nat.le_trans hlen (by decide))).mono ?_
  ·obtain ⟨hj1, rfl⟩ := List.getElem?_eq_some_iff.1 hj
   exact hcell j hj1
  ·rintro e w' ⟨rfl, hb'⟩
   exact ⟨rfl, hb'⟩
 ·have : xs = [] := List.eq_nil_of_length_eq_zero (by omega)
  subst this
  obtain ⟨A, c, rfl, hc, -⟩ := h
  refine (Tryz.strings_Join_none A c sep w).mono ?_
  rintro e w' ⟨rfl, rfl⟩
  exact ⟨rfl, Below.refl _ _⟩
set_option maxRecDepth 20000
open Go.RowKit Go.Shelf
set_option maxRecDepth 20000
def hxn (t : ByteArray) : ByteArray := mkS ((sl (mkS (digB (sl t)))).flatMap hexC)
theorem hxn_size (t : ByteArray) : (hxn t).size = 64 := by
 unfold hxn
 rw [mkS_size, hexC_len, sl_mkS, digB_len]
def fF (fs : List ByteArray) (k : ByteArray) : Option Value := (fs.find? (fun t => decide (hxn t = k))).map .string
theorem fF_none {fs : List ByteArray} {k : ByteArray} (h : ∀ t ∈ fs, hxn t ≠ k) : fF fs k = none := by
 unfold fF
 rw [List.find?_eq_none.2 (fun x hx => by simpa using h x hx)]
 rfl
theorem fF_some {fs : List ByteArray} {t : ByteArray} (hk : (fs.map hxn).Nodup) (ht : t ∈ fs) : fF fs (hxn t) = some (.string t) := by
 induction fs with
 | nil => cases ht
 | cons y l ih =>
  unfold fF
  rw [List.map_cons, List.nodup_cons] at hk
  rcases List.mem_cons.1 ht with rfl | hx
  ·simp
  ·have hne : ¬ hxn y = hxn t := fun e => hk.1 (List.mem_map.2 ⟨t, hx, e.symm⟩)
   rw [List.find?_cons_of_neg (by simpa using hne)]
   exact ih hk.2 hx
theorem fF_inv {fs : List ByteArray} {k : ByteArray} {v : Value} (h : fF fs k = some v) : ∃ t ∈ fs, hxn t = k ∧ v = .string t := by
 unfold fF at h
 cases hf : fs.find? (fun t => decide (hxn t = k)) with
 | none => rw [hf] at h; cases h
 | some t =>
  rw [hf] at h
  have h1 := List.find?_some hf
  exact ⟨t, List.mem_of_find?_eq_some hf, by simpa using h1, by simpa using h.symm⟩
theorem fF_put {fs : List ByteArray} {t : ByteArray} (h : ∀ u ∈ fs, hxn u ≠ hxn t) (k : ByteArray) : fput (fF fs) (hxn t) (.string t) k = fF (fs ++ [t]) k := by
 unfold fput
 by_cases hk : k = hxn t
 ·subst hk
  rw [if_pos rfl]
  unfold fF
  rw [List.find?_append, List.find?_eq_none.2 (fun x hx => by simpa using h x hx)]
  simp
 ·rw [if_neg hk]
  unfold fF
  rw [List.find?_append]
  have : ¬ hxn t = k := fun e => hk e.symm
  simp [this]
structure FreshI (es : List Pe) (ds fs : List ByteArray) : Prop where
 sub : fs.Sublist ds
 nd : (fs.map hxn).Nodup
 new : ∀ t ∈ fs, ∀ x ∈ es, x.n ≠ hxn t
 all : ∀ t ∈ ds, t ∈ fs ∨ ∃ x ∈ es, x.n = hxn t ∧ x.t = t
section
variable {es : List Pe} {ds fs : List ByteArray} {t : ByteArray}
theorem FreshI.nil (es : List Pe) : FreshI es [] [] := ⟨List.Sublist.refl _, by simp, by simp, by simp⟩
theorem FreshI.old (h : FreshI es ds fs) (ht : t ∈ fs ∨ ∃ x ∈ es, x.n = hxn t ∧ x.t = t) : FreshI es (ds ++ [t]) fs :=
 ⟨h.sub.trans (List.sublist_append_left ..), h.nd, h.new, fun u hu => (List.mem_append.1 hu).elim (h.all u) fun hu => by rw [List.mem_singleton.1 hu]; exact ht⟩
theorem FreshI.add (h : FreshI es ds fs) (h1 : ∀ u ∈ fs, hxn u ≠ hxn t) (h2 : ∀ x ∈ es, x.n ≠ hxn t) : FreshI es (ds ++ [t]) (fs ++ [t]) := by
 refine ⟨h.sub.append (List.Sublist.refl _), ?_, fun u hu => ?_, fun u hu => ?_⟩
 ·rw [List.map_append, List.nodup_append]
  refine ⟨h.nd, by simp, fun a ha b hb => ?_⟩
  obtain ⟨u, hu, rfl⟩ := List.mem_map.1 ha
  simp only [List.map_cons, List.map_nil, List.mem_singleton] at hb
  rw [hb]
  exact h1 u hu
 ·rcases List.mem_append.1 hu with hu | hu
  ·exact h.new u hu
  ·rw [List.mem_singleton.1 hu]; exact h2
 ·rcases List.mem_append.1 hu with hu | hu
  ·exact (h.all u hu).imp (fun hm => List.mem_append_left _ hm) id
  ·rw [List.mem_singleton.1 hu]; exact .inl (by simp)
theorem sub_sum {a b : List ByteArray} (h : a.Sublist b) : (a.map (·.size)).sum ≤ (b.map (·.size)).sum := by
 induction h with
 | slnil => simp
 | cons x _ ih => rw [List.map_cons, List.sum_cons]; omega
 | cons_cons x _ ih => rw [List.map_cons, List.map_cons, List.sum_cons, List.sum_cons]; omega
end
def cntN (ds : List ByteArray) (n : ByteArray) : Nat := (ds.filter fun t => decide (hxn t = n)).length
def inc (ds : List ByteArray) (es : List Pe) : List Pe := es.map fun x => { x with c := x.c + (cntN ds x.n : Int) }
theorem cntN_snoc (ds : List ByteArray) (t n : ByteArray) : cntN (ds ++ [t]) n = cntN ds n + (if hxn t = n then 1 else 0) := by
 unfold cntN
 rw [List.filter_append, List.length_append]
 congr 1
 by_cases h : hxn t = n <;> simp [h]
theorem inc_nil (es : List Pe) : inc [] es = es := by
 unfold inc cntN
 simp
theorem inc_n (ds : List ByteArray) (es : List Pe) : (inc ds es).map (·.n) = es.map (·.n) := by simp [inc]
theorem inc_b (ds : List ByteArray) (es : List Pe) : (inc ds es).map (·.b) = es.map (·.b) := by simp [inc]
theorem inc_t (ds : List ByteArray) (es : List Pe) : (inc ds es).map (·.t) = es.map (·.t) := by simp [inc]
theorem usedP_t (es : List Pe) : usedP es = ((es.map (·.t)).map fun t => (t.size : Int)).sum := by simp [usedP, Function.comp_def]
theorem usedP_inc (ds : List ByteArray) (es : List Pe) : usedP (inc ds es) = usedP es := by rw [usedP_t, usedP_t, inc_t]
theorem usedP_app (a b : List Pe) : usedP (a ++ b) = usedP a + usedP b := by simp [usedP]
theorem pF_inc (ds : List ByteArray) (es : List Pe) (k : ByteArray) : pF (inc ds es) k = pF es k := by
 induction es with
 | nil => rfl
 | cons y l ih =>
  unfold pF inc at *
  rw [List.map_cons]
  by_cases h : y.n = k
  ·simp [h]
  ·rw [List.find?_cons_of_neg (by simpa using h), List.find?_cons_of_neg (by simpa using h)]
   exact ih
def PutRes (es : List Pe) (ds : List ByteArray) (es' : List Pe) : Prop :=
 ∃ new fs, FreshI es ds fs ∧ (new.map (·.t)).Perm fs ∧ (∀ x ∈ new, x.n = hxn x.t ∧ x.c = 0) ∧ es' = inc ds (es ++ new)
set_option maxRecDepth 20000
attribute [local go_sem] Oper.semAt_some
theorem yieldB_of {F : Fence} {m D : Nat} {P : Program} {rec : Loop} {W : World} {args : Array Value} {R : Ending → World → Prop} (a₁ : Act) (hF : F.fn rec.fn) (hl : W.heap[D]? = some (.loop rec)) (hr : rec.state = .ready) (hp : rec.pending = none) (hs : args.size = rec.params.size)
  (hassign : ∀ K : Act → World → Prop, K a₁ W → rec.assign.wpIn (F.inRound D) m P (Exit.then K (fun _ _ _ => False)) { tmps := (rec.params.zip args).foldl (fun tmps (t, a) => tmps.setIfInBounds t a) rec.tmps, defers := [] } W)
  (hbody : rec.body.wpIn (F.inRound D) m P (fun e _ W3 => W3.heap[D]? = some (.loop { rec with state := .busy }) ∧ ((e = .normal ∧ R (.returned (.bool true)) (W3.putObj D (.loop rec))) ∨ ∃ id, e = .exit id ∧ R (.returned (.bool false)) (W3.putObj D (.loop { rec with state := .done, pending := some (.exit id) })))) a₁ (W.putObj D (.loop { rec with state := .busy }))) :
  YieldAt F m P D args W R := by
 refine ⟨rec.fn, _, rec.assign, rec.body, run_yield hl hs, roundIn_of_wpIn hF (wpIn_mono (hassign (fun a1 w1 => w1.heap[D]? = some (.loop rec) ∧ rec.body.wpIn (F.inRound D) m P (fun e _ W3 => W3.heap[D]? = some (.loop { rec with state := .busy }) ∧ ((e = .normal ∧ R (.returned (.bool true)) (W3.putObj D (.loop rec))) ∨ ∃ id, e = .exit id ∧ R (.returned (.bool false)) (W3.putObj D (.loop { rec with state := .done, pending := some (.exit id) })))) a1 (w1.putObj D (.loop { rec with state := .busy }))) ⟨hl, hbody⟩) ?_)⟩
 rintro e a1 w1 hq
 cases e with
 | normal =>
  obtain ⟨h1, h2⟩ := hq
  refine ⟨_, run_beginRound h1 hr, wpIn_mono h2 ?_⟩
  rintro e2 a2 w2 ⟨h3, h4⟩
  rcases h4 with ⟨rfl, h4⟩ | ⟨id, rfl, h4⟩
  ·refine ⟨_, _, run_endRound none h3, ?_⟩
   have e : ({ { rec with state := LoopState.busy } with state := if (none : Option Code).isNone then LoopState.ready else LoopState.done, pending := none } : Loop) = rec := by
    obtain ⟨s, p, f, t, ps, asg, b, d⟩ := rec
    simp only at hr hp
    subst hr hp
    rfl
   rw [e]
   exact h4
  ·exact ⟨_, _, run_endRound (some (.exit id)) h3, h4⟩
 | _ => exact hq.elim
theorem wpIn_rangeFunc_out {F : Fence} {n : Nat} {P : Program} {g : Operand} {ps : Array Tmp} {assign body : Code} {Q : Exit → Act → World → Prop} {a : Act} {w : World}
  (hro : F.round = none) (h1 : 1 ≤ n) {gf : Nat} {fs lb : Array Value} (hg : a.eval g = .func (.func gf) fs lb) (hFg : F.fn gf) (eg : ∀ args w, (callFunc gf args).run P w = .ok (.enter gf args) w)
  (h : ∀ rec : Loop, F.fn rec.fn → rec.state = .ready → rec.pending = none → rec.tmps = a.tmps → rec.params = ps → rec.assign = assign → rec.body = body →
   CallsIn F (n - 1) P gf (fs ++ #[.func (.yield (w.heap.size + 1)) #[] #[]] ++ lb) ((w.alloc (.deferred (some []))).alloc (.loop rec)) fun e W2 => (∃ v, e = .returned v) ∧ ∃ st pd, W2.heap[w.heap.size + 1]? = some (.loop { rec with state := st, pending := pd }) ∧ st ≠ .busy ∧
    (match pd with
     | none => Q .normal { a with defers := { target := .collected w.heap.size, args := #[] } :: a.defers } (W2.putObj (w.heap.size + 1) (.loop { rec with state := .exhausted, pending := none }))
     | some c => c.wpIn F n P Q { a with defers := { target := .collected w.heap.size, args := #[] } :: a.defers } (W2.putObj (w.heap.size + 1) (.loop { rec with state := .exhausted, pending := some c })))) :
  (Code.rangeFunc g ps assign body).wpIn F n P Q a w := by
 refine wpIn_rangeFunc ?_
 intro fn hfn
 rw [hro]
 obtain ⟨rec, hrec⟩ : ∃ rec : Loop, rec = { state := .ready, pending := none, fn, tmps := a.tmps, params := ps, assign, body, defers := w.heap.size } := ⟨_, rfl⟩
 refine ⟨w.heap.size + 1, [{ target := .collected w.heap.size, args := #[] }], (w.alloc (.deferred (some []))).alloc (.loop rec), { target := .fn (.func gf) lb, args := fs ++ #[.func (.yield (w.heap.size + 1)) #[] #[]] }, (w.alloc (.deferred (some []))).alloc (.loop rec), gf,
  fs ++ #[.func (.yield (w.heap.size + 1)) #[] #[]] ++ lb, (w.alloc (.deferred (some []))).alloc (.loop rec), ?_, ?_, ?_, ?_, fun _ => h1, ?_⟩
 ·rw [hrec]; exact run_enterLoop_outer _ _ _ _ _
 ·simp only [resolve, hg]
  simp [go_sem]
 ·intro f' hf'; simp [Target.leads] at hf'; subst hf'; exact hFg
 ·simp [invoke, go_sem, eg]
 ·refine (h rec (by rw [hrec]; exact hfn) (by rw [hrec]) (by rw [hrec]) (by rw [hrec]) (by rw [hrec]) (by rw [hrec]) (by rw [hrec])).mono ?_
  rintro e W2 ⟨⟨v, rfl⟩, st, pd, hl, hst, hq⟩
  have := run_endLoop (P := P) hl hst
  cases pd with
  | none => exact ⟨none, _, this, hq⟩
  | some c => exact ⟨some c, _, this, hq⟩
set_option maxRecDepth 20000
attribute [local go_sem] Oper.semAt_some
def hdB (ns : List Nd) (c : Nat) : Nat := match ns with | [] => c | x :: _ => x.1
theorem neq_other (W : World) {a b : Nat} {ca cb : Array Value} {ta tb : TypeId} (ha : Blk W a ta ca) (hb : Blk W b tb cb) (hne : a ≠ b) : (binOp .neq 178 (ptr a) (.pointer (some ⟨b, 0, none⟩))).run Tryz.prog W = .ok (.bool true) W := by
 obtain ⟨j, hj, hz⟩ : ∃ j, Tryz.prog.info? 180 = some j ∧ j.size ≠ 0 := by
  have h : ((Tryz.prog.info? 180).map fun j => decide (j.size ≠ 0)) = some true := by kernel_rfl
  cases hq : Tryz.prog.info? 180 with
  | none => rw [hq] at h; cases h
  | some j => rw [hq] at h; exact ⟨j, rfl, by simpa using h⟩
 have h : ∀ d : Nat, (Op.equalIn (d + 1) 178 (.pointer (some ⟨a, 0, none⟩)) (.pointer (some ⟨b, 0, none⟩))).run Tryz.prog W = .ok false W := fun d => by
  simp [Op.equalIn, run_underlying Tryz.underlying178, sizeOf, typeInfo, hj, hz, run_sameAddr_other W (a := ⟨a, 0, none⟩) (b := ⟨b, 0, none⟩) (by intro e; injection e with e; exact hne e) ha hb]
 simp only [binOp]
 simp [Op.equal, Op.maxDepth, h 9999]
theorem neq_same (W : World) (a : Nat) : (binOp .neq 178 (ptr a) (.pointer (some ⟨a, 0, none⟩))).run Tryz.prog W = .ok (.bool false) W := by
 obtain ⟨j, hj⟩ : ∃ j, Tryz.prog.info? 180 = some j := by
  have h : (Tryz.prog.info? 180).isSome = true := by kernel_rfl
  exact Option.isSome_iff_exists.1 h
 exact Lib.run_neq_ptr_same W ⟨a, 0, none⟩ Tryz.underlying178 hj
set_option maxHeartbeats 1000000 in
theorem all_in (n c D : Nat) (I : List Nd → World → Prop) (J : World → Prop) (μ : World → Nat) (hn : 1 ≤ n)
  (hμ : ∀ rest W, I rest W → μ W = rest.length) (hdrew : ∀ rest W, I rest W → I rest W.drew)
  (hkey : ∀ x rest W, I (x :: rest) W → NodeB W x ∧ x.1 ≠ c ∧ ∃ mb, RootB W c mb)
  (hround : ∀ x rest W, I (x :: rest) W → YieldAt Fence.wide (n - 1) Tryz.prog D #[.string x.2.1] W fun e W' => (e = .returned (.bool true) ∧ I rest W' ∧ W'.cell? ⟨x.1, 3, none⟩ = some (ptr (hdB rest c))) ∨ (e = .returned (.bool false) ∧ J W'))
  (hend : ∀ W, I [] W → J W) (ns : List Nd) (w : World) (h : I ns w) (h3 : w.cell? ⟨c, 3, none⟩ = some (ptr (hdB ns c))) :
  CallsIn Fence.wide n Tryz.prog 77 #[ptr c, .func (.yield D) #[] #[]] w fun e w' => (∃ v, e = .returned v) ∧ J w' := by
 have HM := Lib.hid hμ
 have HD := Lib.hid hdrew
 have HK := Lib.hid hkey
 have HR := Lib.hid hround
 have HE := Lib.hid hend
 clear hμ hdrew hkey hround hend
 refine callsIn_of_wp Tryz.func77 rfl trivial ?_ rfl
 simp only [Tryz.ntmps77, List.size_toArray, List.length_cons, List.length_nil, Nat.reduceAdd, Nat.reduceSub, Array.replicate_succ, Array.replicate_zero, List.push_toArray, List.append_toArray, List.nil_append, List.cons_append]
 gi_wp2
 gi_loopw [4] (fun t wr => ∃ rest, t = ptr (hdB rest c) ∧ I rest wr) (fun _ wr => μ wr)
 case atStart => exact ⟨ns, rfl, h⟩
 case round =>
  obtain ⟨rest, rfl, hI⟩ := hrel
  clear h3 h
  cases rest with
  | nil =>
   have HI := Lib.hid hI
   clear hI
   have kcmp := neq_same wr c
   show Code.wpIn _ _ _ _ _ { tmps := #[ptr c, .func (.yield D) #[] #[], undef, undef, ptr c, _, _, _, _, _, _, _, _, _, _, _, _, _, _, _, _, _, _, _, _, _], defers := [] } _
   gi_wp2
   exact Great.bodyPost_end0 rfl rfl ⟨⟨_, rfl⟩, HE.out _ HI.out⟩
  | cons x rest =>
   obtain ⟨⟨_, _, kb⟩, kne, mb, ⟨_, _, kr⟩⟩ := HK.out x rest _ hI
   have k0 := kb.cell 0
   have kcmp := neq_other wr kb kr kne
   obtain ⟨fn, tmps, assign, body, hy, hR⟩ := HR.out x rest _ hI
   have HI := Lib.hid hI
   clear hI
   clear kb kr kne
   show Code.wpIn _ _ _ _ _ { tmps := #[ptr c, .func (.yield D) #[] #[], undef, undef, ptr x.1, _, _, _, _, _, _, _, _, _, _, _, _, _, _, _, _, _, _, _, _, _], defers := [] } _
   gi_wp2
   refine hR.mono ?_
   rintro e W5 (⟨rfl, hI5, h35⟩ | ⟨rfl, hJ⟩)
   ·have HI5 := Lib.hid hI5
    clear hI5 kcmp hy hR
    gi_wp2
    go_roundw
    case rel => exact ⟨rest, rfl, HI5.out⟩
    case measure => rw [HM.out _ _ HI5.out, HM.out _ _ HI.out]; exact Nat.lt_succ_self _
   ·clear kcmp hy hR
    have HJ := Lib.hid hJ
    clear hJ
    gi_wp2
    exact bodyPost_ret (v := .tuple #[]) (by kernel_rfl) rfl ⟨⟨_, rfl⟩, HJ.out⟩
set_option maxRecDepth 20000
attribute [local go_sem] Oper.semAt_some
structure OL (B D : Nat) (rec : Loop) (pre : List ByteArray) (W : World) : Prop where
 out : ∃ o, Blk W B 59 #[o] ∧ Owns W (D + 2) 9 1 es o pre
 ld : W.heap[D]? = some (.deferred (some []))
 lr : W.heap[D + 1]? = some (.loop rec)
 sz : D + 2 ≤ W.heap.size
 lt : B < D
def lenAt (W : World) (B : Nat) : Nat := match W.cell? ⟨B, 0, none⟩ with | some (.slice _ n _) => n | _ => 0
theorem gput (w : World) (l : Nat) (o : Obj) : w.grownBy (w.putObj l o) (some l) :=
 ⟨rfl, rfl, rfl, by simp [World.putObj], fun k hk hne => World.putObj_heap_other (by intro e; exact hne (by rw [e]))⟩
section
variable {B D : Nat} {rec rec' : Loop} {pre : List ByteArray} {W W' : World}
theorem OL.len (h : OL B D rec pre W) : lenAt W B = pre.length := by
 obtain ⟨o, h1, h2⟩ := h.out
 unfold lenAt
 rw [h1.cell 0]
 rcases h2.form with ⟨rfl, rfl⟩ | ⟨g, c, rfl⟩ <;> rfl
theorem OL.put (h : OL B D rec pre W) : OL B D rec' pre (W.putObj (D + 1) (.loop rec')) := by
 have hg := gput W (D + 1) (.loop rec')
 obtain ⟨o, h1, h2⟩ := h.out
 refine ⟨⟨o, Blk.keptR h1 hg (by intro e; injection e with e; have := h.lt; omega), h2.grownOther hg ?_⟩, (hg.block _ (heap_lt' h.ld) (by simp)).trans h.ld, World.putObj_heap_same (heap_lt' h.lr), Nat.le_trans h.sz hg.size, h.lt⟩
 cases hv : o.ownBlock with
 | none => exact .inl rfl
 | some k => exact .inr fun e => by injection e with e; have := (h2.lt k hv).1; omega
theorem OL.rf {ex : List TypeId} {n0 : Lim} (h : OL B D rec pre W) (hr : RF ex n0 W W') (h1 : ex.contains 59 = false) (h2 : ex.contains 9 = false) : OL B D rec pre W' := by
 obtain ⟨o, g1, g2⟩ := h.out
 exact ⟨⟨o, g1.rf hr h1, g2.rf hr h2⟩, hr.fr _ _ h.ld rfl, hr.fr _ _ h.lr rfl, Nat.le_trans h.sz hr.size, h.lt⟩
theorem OL.drew (h : OL B D rec pre W) : OL B D rec pre W.drew := ⟨h.out, h.ld, h.lr, h.sz, h.lt⟩
theorem OL.grow {o v' : Value} {w1 : World} {p : ByteArray} (h : OL B D rec pre W) (ho1 : Blk W B 59 #[o]) (ho2 : Owns W (D + 2) 9 1 es o pre)
  (hg : W.grownBy w1 o.ownBlock) (hv : Owns w1 (D + 2) 9 1 es v' (pre ++ [p])) : OL B D rec (pre ++ [p]) (w1.setCell ⟨B, 0, none⟩ v') := by
 have hl := h.lt
 have far : ∀ k, k < D + 2 → some k ≠ o.ownBlock := fun k hk e => by have := (ho2.lt k e.symm).1; omega
 have hb1 : Blk w1 B 59 #[o] := Blk.keptR ho1 hg (far _ (by omega))
 have hg2 : w1.grownBy (w1.setCell ⟨B, 0, none⟩ v') (some B) := ⟨rfl, rfl, rfl, by simp [World.setCell], fun k _ hne => Below.heap_setCell _ _ _ _ (fun e => hne (by rw [e]))⟩
 have s1 : ∀ {a b : Nat}, a ≠ b → some a ≠ some b := fun h e => h (by injection e)
 have d1 := (hg.block _ (heap_lt' h.ld) (far _ (by omega))).trans h.ld
 have l1 := (hg.block _ (heap_lt' h.lr) (far _ (by omega))).trans h.lr
 refine ⟨⟨v', hb1.set_ 0 v', hv.grownOther hg2 ?_⟩, (hg2.block _ (heap_lt' d1) (s1 (by omega))).trans d1, (hg2.block _ (heap_lt' l1) (s1 (by omega))).trans l1, Nat.le_trans (Nat.le_trans h.sz hg.size) hg2.size, hl⟩
 cases hv' : v'.ownBlock with
 | none => exact .inl rfl
 | some k => exact .inr (s1 (by have := (hv.lt k hv').1; omega))
theorem OL.alloc (h : OL B D rec pre W) (o : Obj) : OL B D rec pre (W.alloc o) := h.rf (ex := []) (n0 := lim 0) ((RF.refl _ _ _).alloc (Nat.zero_le _) o) rfl rfl
end
theorem RowS.keptO {w w' : World} {n0 : Lim} {p c mb : Nat} {room : Int} {ns : List Nd} {row : Option Nat} (h : RowS w n0 p room c mb ns) (hg : w.grownBy w' row) (hrow : ∀ k, row = some k → ∃ o, w.heap[k]? = some o ∧ okObj RY o = true) : RowS w' n0 p room c mb ns := by
 have ne : ∀ {k : Nat} {t : TypeId} {cs : Array Value}, Blk w k t cs → RY.contains t = true → some k ≠ row := fun {k t cs} hb ht e => by
  obtain ⟨o, ho, hk⟩ := hrow k e.symm
  unfold Blk at hb
  rw [hb] at ho
  cases ho
  simp only [okObj, ht] at hk
  cases hk
 refine ⟨Blk.keptR h.blk hg (ne h.blk (by decide)), h.p0, h.ch.kept hg ?_ ?_ ?_, h.rm, h.sz, h.us, h.ks⟩
 ·obtain ⟨_, _, hb⟩ := h.ch.root
  exact ne hb (by decide)
 ·intro e
  obtain ⟨o, ho, hk⟩ := hrow mb e.symm
  obtain ⟨es, ck, hm⟩ := h.ch.mp.isMapObj
  rw [hm] at ho
  cases ho
  cases hk
 ·intro x hx
  obtain ⟨_, _, hb⟩ := h.ch.node x hx
  exact ne hb (by decide)
theorem ring_first {w : World} {n0 : Lim} {c mb : Nat} {ns : List Nd} (h : Chn w n0 c mb ns) : w.cell? ⟨c, 3, none⟩ = some (ptr (hdB ns c)) := by
 have := h.ring
 cases ns with
 | nil => exact this.1.1
 | cons x ns => exact this.1.1
theorem ring_next {w : World} {n0 : Lim} {c mb : Nat} {l r : List Nd} {x : Nd} (h : Chn w n0 c mb (l ++ x :: r)) : w.cell? ⟨x.1, 3, none⟩ = some (ptr (hdB r c)) := by
 have hr := h.ring
 rw [show c :: ((l ++ x :: r).map (·.1) ++ [c]) = (c :: l.map (·.1)) ++ x.1 :: (r.map (·.1) ++ [c]) by rw [List.map_append, List.map_cons, List.append_assoc]; rfl] at hr
 cases r with
 | nil => exact (links_next (xs := c :: l.map (·.1)) (ys := []) hr).1
 | cons y r => exact (links_next (xs := c :: l.map (·.1)) (ys := r.map (·.1) ++ [c]) hr).1
set_option maxHeartbeats 2000000 in
theorem keys_any (n0 : Lim) (p c mb : Nat) (room : Int) (ns : List Nd) (w : World) (h : RowS w n0 p room c mb ns) :
  Calls Tryz.prog 35 #[ptr p] w fun e w' => ∃ v, e = .returned v ∧ Owns w' w.heap.size 9 1 es v (ns.map (·.2.1)) ∧ Below w.heap.size w w' := by
 have hlen := h.len
 have p2 : (w.alloc (.cells #[.slice none 0 0] 59)).cell? ⟨p, 2, none⟩ = some (ptr c) := (h.alloc _).blk.cell 2
 have H := Lib.hid h
 clear h
 refine (callsIn_wide (n := 4)).1 ?_
 refine callsIn_of_wp_marks Tryz.func35 rfl trivial ?_ rfl
 simp only [Tryz.ntmps35, List.size_toArray, List.length_cons, List.length_nil, Nat.reduceAdd, Nat.reduceSub, Array.replicate_succ, Array.replicate_zero, List.push_toArray, List.append_toArray, List.nil_append, List.cons_append]
 have hmf : ∀ (fn : Fn) (first cap : Array Value) (w : World), (Instr.makeFunc fn first cap).run Tryz.prog w = .ok (.func fn first cap) w := fun _ _ _ _ => rfl
 have hB0 : Blk (w.alloc (.cells #[.slice none 0 0] 59)) w.heap.size 59 #[.slice none 0 0] := Blk.new w _ _
 have hb0 : Below w.heap.size w (w.alloc (.cells #[.slice none 0 0] 59)) := (Below.refl _ w).alloc (Nat.le_refl _) _
 have hz0 : (w.alloc (.cells #[.slice none 0 0] 59)).heap.size = w.heap.size + 1 := by simp
 gi_wp2
 generalize w.alloc (.cells #[.slice none 0 0] 59) = W0 at *
 refine wpIn_rangeFunc_out (n := 4) rfl (by decide) (gf := 77) (fs := #[ptr c]) (lb := #[]) rfl trivial (enters_of Tryz.func77 (by kernel_rfl) rfl) ?_
 intro rec hF hst hpe htm hpa has hbo
 have hl1 : ((W0.alloc (.deferred (some []))).alloc (.loop rec)).heap[W0.heap.size + 1]? = some (.loop rec) := by
  have := World.alloc_heap_new (W0.alloc (.deferred (some []))) (.loop rec); rwa [World.size_alloc] at this
 have hd1 : ((W0.alloc (.deferred (some []))).alloc (.loop rec)).heap[W0.heap.size]? = some (.deferred (some [])) :=
  (Below.heap_alloc _ _ _ (by simp)).trans (World.alloc_heap_new W0 _)
 have hol1 : OL w.heap.size W0.heap.size rec [] ((W0.alloc (.deferred (some []))).alloc (.loop rec)) :=
  ⟨⟨_, (hB0.alloc _).alloc _, Owns.nil ..⟩, hd1, hl1, by simp, by omega⟩
 have hb1 : Below w.heap.size w ((W0.alloc (.deferred (some []))).alloc (.loop rec)) := (hb0.alloc hb0.size _).alloc (Nat.le_trans hb0.size (le_alloc _ _)) _
 have HZ := Lib.hid hz0
 refine (all_in 3 c (W0.heap.size + 1) (fun rest W => ∃ pre, ns = pre ++ rest ∧ OL w.heap.size W0.heap.size rec (pre.map (·.2.1)) W ∧ Below w.heap.size w W)
  (fun W => OL w.heap.size W0.heap.size rec (ns.map (·.2.1)) W ∧ Below w.heap.size w W) (fun W => ns.length - lenAt W w.heap.size) (by decide) ?mu ?drew ?key ?round ?ends ns _ ⟨[], rfl, hol1, hb1⟩ ?first).mono ?_
 case mu =>
  rintro rest W ⟨pre, he, ho, _⟩
  show ns.length - lenAt W w.heap.size = _
  rw [ho.len, he]
  simp
 case drew =>
  rintro rest W ⟨pre, he, ho, hb⟩
  exact ⟨pre, he, ho.drew, hb.drew⟩
 case key =>
  rintro x rest W ⟨pre, he, ho, hb⟩
  have hR := (H.out.below hb).ch
  exact ⟨hR.node x (by rw [he]; simp), hR.ne_root x (by rw [he]; simp), mb, hR.root⟩
 case ends =>
  rintro W ⟨pre, he, ho, hb⟩
  rw [List.append_nil] at he
  subst he
  exact ⟨ho, hb⟩
 case first => exact ring_first (H.out.below hb1).ch
 case round =>
  rintro x rest W ⟨pre, he, ho, hb⟩
  have hnx := ring_next (l := pre) (r := rest) (x := x) (by rw [← he]; exact H.out.ch)
  have hxl : x.1 < w.heap.size := (H.out.ch.node x (by rw [he]; simp)).lt
  refine yieldB_of { tmps := #[ptr p, undef, .slice none 0 0, ptr w.heap.size, .string x.2.1, ptr p, ptr p, .pointer (some ⟨p, 2, none⟩), ptr c, .func (.func 77) #[ptr c] #[], .string x.2.1, undef, undef, undef, undef, undef], defers := [] } hF ho.lr hst hpe (by rw [hpa]; rfl) ?_ ?_
  ·intro K hK
   rw [has, htm, hpa]
   gi_wp2
   exact hK
  ·have hob : OL w.heap.size W0.heap.size { rec with state := .busy } (pre.map (·.2.1)) (W.putObj (W0.heap.size + 1) (.loop { rec with state := .busy })) := ho.put
   have hbb : Below w.heap.size w (W.putObj (W0.heap.size + 1) (.loop { rec with state := .busy })) := hb.grown (gput _ _ _) (by have := ho.sz; omega) (fun k hk => by cases hk; omega)
   have hpl : pre.length + 1 ≤ 1000000 := by have := congrArg List.length he; simp only [List.length_append, List.length_cons] at this; omega
   generalize W.putObj (W0.heap.size + 1) (.loop { rec with state := .busy }) = Wb at *
   have HRB : Hid (∀ W3, OL w.heap.size W0.heap.size { rec with state := .busy } ((pre ++ [x]).map (·.2.1)) W3 → Below w.heap.size w W3 → W3.heap[W0.heap.size + 1]? = some (.loop { rec with state := .busy }) ∧ ((∃ pre', ns = pre' ++ rest ∧ OL w.heap.size W0.heap.size rec (pre'.map (·.2.1)) (W3.putObj (W0.heap.size + 1) (.loop rec)) ∧ Below w.heap.size w (W3.putObj (W0.heap.size + 1) (.loop rec))) ∧ (W3.putObj (W0.heap.size + 1) (.loop rec)).cell? ⟨x.1, 3, none⟩ = some (ptr (hdB rest c)))) := by
    intro W3 h1 h2
    have hb3 : Below w.heap.size w (W3.putObj (W0.heap.size + 1) (.loop rec)) := h2.grown (gput _ _ _) (by have := h1.sz; omega) (fun k hk => by cases hk; omega)
    exact ⟨h1.lr, ⟨pre ++ [x], by rw [he, List.append_assoc]; rfl, h1.put, hb3⟩, (hb3.cell (p := ⟨x.1, 3, none⟩) hxl).trans hnx⟩
   generalize ({ rec with state := .busy } : Loop) = recB at *
   rw [hbo]
   clear hst hpe htm hpa has hbo hl1 hd1 hol1 hb1 ho hb hz0 hB0 hb0 hnx hxl he
   obtain ⟨o, ho1, ho2⟩ := hob.out
   have b0 := ho1.cell 0
   obtain ⟨i0, hi, hi0, hi1, hi2⟩ := info_parts stringInfo
   have hrow : Wb.ownsRow (W0.heap.size + 2) 9 1 o (pre.map (·.2.1)).length ((pre.map (·.2.1)).flatMap es) := ho2
   have hml : (pre.map (·.2.1)).length = pre.length := List.length_map ..
   gi_wp2_with (gi_at_builtin; refine wpListIn_append_own _ rfl _ _ 59 rfl (W0.heap.size + 2) 9 i0 (.string ByteArray.empty) 1 16 Tryz.underlying59 hi hi0 hi1 hi2 rfl (by decide) _ _ _ rfl (hrow.alloc _) ⟨Wb.heap.size, 0, none⟩ 1 1 [.string x.2.1] rfl rfl (new_cells _ [.string x.2.1] _) (by simp [Value.oneCell']) (by rw [hml]; simp only [maxLen]; omega) (by rw [hml]; omega) (by have := hob.sz; simp; omega) ?_; intro v' w1 hown' hgrow _; obtain ⟨g', cap', rfl⟩ := ownsRow_succ hown'; have hv1 := Blk.keptR (ho1.alloc (.cells #[.string x.2.1] 9)) hgrow (by intro e; have := (ho2.lt _ e.symm).1; have := HZ.out; omega); have hc1 := hv1.cell 0; have hf1 := hv1.frozen 0)
   have hol3 := (OL.alloc hob (.cells #[.string x.2.1] 9)).grow (p := x.2.1) (ho1.alloc _) (ho2.alloc _) hgrow (v' := .slice (some ⟨g', 0, none⟩) (pre.length + 1) cap') (by
    have := hown'
    unfold Owns
    rw [List.length_append, List.flatMap_append]
    simp only [List.length_cons, List.length_nil, List.flatMap_cons, List.flatMap_nil, List.append_nil, es, Nat.zero_add, hml] at this ⊢
    exact this)
   have hbe3 : Below w.heap.size w (w1.setCell ⟨w.heap.size, 0, none⟩ (.slice (some ⟨g', 0, none⟩) (pre.length + 1) cap')) := ((hbb.alloc (by have := hob.sz; have := HZ.out; omega) _).grown hgrow (by have := hob.sz; have := HZ.out; simp; omega) (fun k hk => by have := (ho2.lt k hk).1; have := HZ.out; omega)).setCell (p := ⟨w.heap.size, 0, none⟩) (Nat.le_refl _) _
   rw [← List.map_singleton (f := fun x : Nd => x.2.1), ← List.map_append] at hol3
   exact HRB.out _ hol3 hbe3
 ·rintro e W2 ⟨hv, ho2, hb2⟩
  refine ⟨hv, _, _, ho2.lr, by rw [hst]; decide, ?_⟩
  rw [hpe]
  show Exit.inBlock _ _ _ _ _
  have ho3 : OL w.heap.size W0.heap.size { rec with state := .exhausted, pending := none } (ns.map (·.2.1)) (W2.putObj (W0.heap.size + 1) (.loop { rec with state := .exhausted, pending := none })) := ho2.put
  have hb3 : Below w.heap.size w (W2.putObj (W0.heap.size + 1) (.loop { rec with state := .exhausted, pending := none })) := hb2.grown (gput _ _ _) (by have := ho2.sz; omega) (fun k hk => by cases hk; omega)
  clear hl1 hd1 hol1 hb1 hB0 hb0 hz0
  generalize W2.putObj (W0.heap.size + 1) (.loop { rec with state := .exhausted, pending := none }) = W3 at *
  generalize ({ rec with state := .exhausted, pending := none } : Loop) = recX at *
  obtain ⟨o, h1, h2⟩ := ho3.out
  have b1 := h1.cell 0
  have hK := ho3.ld
  gi_wp2
  refine ⟨by simp, .inl ⟨_, _, rfl, run_takeDeferred hK, ?_⟩⟩
  have hg4 := gput W3 W0.heap.size (.deferred none)
  refine ⟨_, results_tmp rfl _ _ _, o, rfl, ?_, hb3.grown hg4 (by have := ho3.sz; have := HZ.out; omega) (fun k hk => by cases hk; have := HZ.out; omega)⟩
  refine (h2.mono (by have := HZ.out; omega)).grownOther hg4 ?_
  cases hv : o.ownBlock with
  | none => exact .inl rfl
  | some k => exact .inr fun e => by injection e with e; have := (h2.lt k hv).1; omega
set_option maxRecDepth 20000
structure PileT (w : World) (n0 : Lim) (p : Nat) (room U : Int) (mb : Nat) (es : List Pe) : Prop where
 blk : Blk w p 129 #[.int .i64 room, .int .i64 U, .map (some mb)]
 node : ∀ x ∈ es, Blk w x.b 131 #[.string x.t, .int .i64 x.c]
 mp : MapS Tryz.prog w 9 mb (pF es) es.length
 nd : (es.map (·.b)).Nodup
 kd : (es.map (·.n)).Nodup
 b0 : n0.ok p ∧ n0.ok mb ∧ ∀ x ∈ es, n0.ok x.b
 hz : n0.lo ≤ w.heap.size
theorem nodup_inj {α β : Type} {f : α → β} : ∀ {l : List α}, (l.map f).Nodup → ∀ {a b : α}, a ∈ l → b ∈ l → f a = f b → a = b
 | [], _, _, _, h, _, _ => by cases h
 | y :: l, hn, a, b, ha, hb, he => by
  rw [List.map_cons, List.nodup_cons] at hn
  rcases List.mem_cons.1 ha with h1 | ha
  ·rcases List.mem_cons.1 hb with h2 | hb
   ·rw [h1, h2]
   ·exact absurd (List.mem_map.2 ⟨b, hb, by rw [← he, h1]⟩) hn.1
  ·rcases List.mem_cons.1 hb with h2 | hb
   ·exact absurd (List.mem_map.2 ⟨a, ha, by rw [he, h2]⟩) hn.1
   ·exact nodup_inj hn.2 ha hb he
abbrev RP : List TypeId := [129, 131]
section
variable {w w' : World} {n0 : Lim} {p mb : Nat} {room U : Int} {es : List Pe}
theorem PileS.toT (h : PileS w n0 p room mb es) : PileT w n0 p room (usedP es) mb es := ⟨h.blk, h.node, h.mp, h.nd, h.kd, h.b0, h.hz⟩
theorem PileT.toS (h : PileT w n0 p room (usedP es) mb es) (rm : 1 ≤ room ∧ room ≤ 1000000) (sz : ∀ x ∈ es, 1 ≤ x.t.size) (us : usedP es ≤ room) : PileS w n0 p room mb es := ⟨h.blk, h.node, h.mp, h.nd, h.kd, h.b0, h.hz, rm, sz, us⟩
theorem PileT.kept {row : Option Nat} (h : PileT w n0 p room U mb es) (hg : w.grownBy w' row) (hp : some p ≠ row) (hm : some mb ≠ row) (hn : ∀ x ∈ es, some x.b ≠ row) : PileT w' n0 p room U mb es :=
 ⟨Blk.keptR h.blk hg hp, fun x hx => Blk.keptR (h.node x hx) hg (hn x hx), h.mp.kept hg hm, h.nd, h.kd, h.b0, Nat.le_trans h.hz hg.size⟩
theorem PileT.drew (h : PileT w n0 p room U mb es) : PileT w.drew n0 p room U mb es := ⟨h.blk.drew, fun x hx => (h.node x hx).drew, h.mp.drew, h.nd, h.kd, h.b0, h.hz⟩
theorem PileT.alloc (h : PileT w n0 p room U mb es) (o : Obj) : PileT (w.alloc o) n0 p room U mb es := h.kept (World.grownBy_alloc w o none) (by simp) (by simp) (fun _ _ => by simp)
theorem PileT.keptO {row : Option Nat} (h : PileT w n0 p room U mb es) (hg : w.grownBy w' row) (hrow : ∀ k, row = some k → ∃ o, w.heap[k]? = some o ∧ okObj RP o = true) : PileT w' n0 p room U mb es := by
 refine h.kept hg (fun e => ?_) (fun e => ?_) (fun x hx e => ?_)
 ·obtain ⟨o, ho, hk⟩ := hrow _ e.symm
  have hb : w.heap[p]? = _ := h.blk
  rw [hb] at ho
  cases ho
  cases hk
 ·obtain ⟨o, ho, hk⟩ := hrow _ e.symm
  obtain ⟨e1, c1, hm⟩ := h.mp.isMapObj
  rw [hm] at ho
  cases ho
  cases hk
 ·obtain ⟨o, ho, hk⟩ := hrow _ e.symm
  have hb : w.heap[x.b]? = _ := h.node x hx
  rw [hb] at ho
  cases ho
  cases hk
theorem pF_add {es : List Pe} {x : Pe} (h : ∀ y ∈ es, y.n ≠ x.n) (k : ByteArray) : fput (pF es) x.n (ptr x.b) k = pF (es ++ [x]) k := by
 unfold fput
 by_cases hk : k = x.n
 ·subst hk
  rw [if_pos rfl]
  unfold pF
  rw [List.find?_append, List.find?_eq_none.2 (fun y hy => by simpa using h y hy)]
  simp
 ·rw [if_neg hk]
  unfold pF
  rw [List.find?_append]
  have : ¬ x.n = k := fun e => hk e.symm
  simp [this]
theorem PileT.add {x : Pe} (h : PileT w n0 p room U mb es) (hx : x.b = w.heap.size) (hk : ∀ y ∈ es, y.n ≠ x.n) (hn : n0.lo ≤ w.heap.size)
  (hm : MapS Tryz.prog w' 9 mb (fput (pF es) x.n (ptr x.b)) (if ((pF es) x.n).isSome then es.length else es.length + 1)) (hg : (w.alloc (.cells #[.string x.t, .int .i64 x.c] 131)).grownBy w' (some mb)) : PileT w' n0 p room U mb (es ++ [x]) := by
 have hB : Blk (w.alloc (.cells #[.string x.t, .int .i64 x.c] 131)) x.b 131 #[.string x.t, .int .i64 x.c] := by rw [hx]; exact Blk.new w _ _
 have hA := h.alloc (.cells #[.string x.t, .int .i64 x.c] 131)
 have hne : ∀ {g : Nat} {t : TypeId} {cs : Array Value}, Blk (w.alloc (.cells #[.string x.t, .int .i64 x.c] 131)) g t cs → some g ≠ some mb := fun hb e => by
  injection e with e
  exact hA.mp.ne_blk hb e.symm
 refine ⟨Blk.keptR hA.blk hg (hne hA.blk), fun y hy => ?_, hm.congr (pF_add hk) (by rw [pF_none hk]; simp), ?_, ?_, ⟨h.b0.1, h.b0.2.1, fun y hy => ?_⟩, Nat.le_trans hA.hz hg.size⟩
 ·rcases List.mem_append.1 hy with hy | hy
  ·exact Blk.keptR (hA.node y hy) hg (hne (hA.node y hy))
  ·rw [List.mem_singleton.1 hy]
   exact Blk.keptR hB hg (hne hB)
 ·rw [List.map_append, List.nodup_append]
  refine ⟨h.nd, by simp, fun a ha b hb => ?_⟩
  obtain ⟨y, hy, rfl⟩ := List.mem_map.1 ha
  simp only [List.map_cons, List.map_nil, List.mem_singleton] at hb
  rw [hb, hx]
  have := (h.node y hy).lt
  omega
 ·rw [List.map_append, List.nodup_append]
  refine ⟨h.kd, by simp, fun a ha b hb => ?_⟩
  obtain ⟨y, hy, rfl⟩ := List.mem_map.1 ha
  simp only [List.map_cons, List.map_nil, List.mem_singleton] at hb
  rw [hb]
  exact hk y hy
 ·rcases List.mem_append.1 hy with hy | hy
  ·exact h.b0.2.2 y hy
  ·rw [List.mem_singleton.1 hy, hx]; exact .inl hn
theorem PileT.more {ds : List ByteArray} {t : ByteArray} {x : Pe} (h : PileT w n0 p room U mb (inc ds es)) (hx : x ∈ es) (ht : x.n = hxn t) :
  PileT (w.setCell ⟨x.b, 1, none⟩ (.int .i64 (x.c + (cntN ds x.n : Int) + 1))) n0 p room U mb (inc (ds ++ [t]) es) := by
 have hxi : ({ x with c := x.c + (cntN ds x.n : Int) } : Pe) ∈ inc ds es := List.mem_map.2 ⟨x, hx, rfl⟩
 have hbx : Blk w x.b 131 #[.string x.t, .int .i64 (x.c + (cntN ds x.n : Int))] := h.node _ hxi
 have hnd : (es.map (·.b)).Nodup := by have := h.nd; rwa [inc_b] at this
 have hkd : (es.map (·.n)).Nodup := by have := h.kd; rwa [inc_n] at this
 have hpb : p ≠ x.b := by
  intro e
  have hb := h.blk
  unfold Blk at hb hbx
  rw [e, hbx] at hb
  cases hb
 refine ⟨Blk.far h.blk hpb _, fun y hy => ?_, (h.mp.setCell hbx _).congr (fun k => by rw [pF_inc, pF_inc]) (by simp [inc]), by rw [inc_b]; exact hnd, by rw [inc_n]; exact hkd, ⟨h.b0.1, h.b0.2.1, fun y hy => ?_⟩, by simpa [World.setCell] using h.hz⟩
 ·obtain ⟨z, hz, rfl⟩ := List.mem_map.1 hy
  by_cases hzx : z = x
  ·subst hzx
   have := hbx.set_ 1 (.int .i64 (z.c + (cntN ds z.n : Int) + 1))
   have e : z.c + (cntN ds z.n : Int) + 1 = z.c + (cntN (ds ++ [t]) z.n : Int) := by rw [cntN_snoc, if_pos ht.symm]; omega
   rw [← e]
   exact this
  ·have hzb : z.b ≠ x.b := fun e => hzx (nodup_inj hnd hz hx e)
   have hzn : ¬ hxn t = z.n := fun e => hzx (nodup_inj hkd hz hx (e.symm.trans ht.symm))
   have hbz : Blk w z.b 131 #[.string z.t, .int .i64 (z.c + (cntN ds z.n : Int))] := h.node _ (List.mem_map.2 ⟨z, hz, rfl⟩)
   have := Blk.far hbz hzb (p := ⟨x.b, 1, none⟩) (.int .i64 (x.c + (cntN ds x.n : Int) + 1))
   have e : cntN (ds ++ [t]) z.n = cntN ds z.n := by rw [cntN_snoc, if_neg hzn, Nat.add_zero]
   show Blk _ z.b _ #[_, .int .i64 (z.c + (cntN (ds ++ [t]) z.n : Int))]
   rw [e]
   exact this
 ·obtain ⟨z, hz, rfl⟩ := List.mem_map.1 hy
  exact h.b0.2.2 { z with c := z.c + (cntN ds z.n : Int) } (List.mem_map.2 ⟨z, hz, rfl⟩)
end
end Go.Proofs.YtgnblkmpoigejaaGreatDoor
