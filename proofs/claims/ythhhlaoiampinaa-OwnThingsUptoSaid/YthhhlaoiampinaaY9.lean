/-
  DERIVED: THE SHELF's CONTRACTS AT THIS DUMP, IN PLAIN WORDS (tools/lay-plain.mjs out of 'TryShelf.lean', which tools/lay-shelf.mjs wrote): THE SAME DECLARATIONS UNDER THE SAME NAMES: 'import', 'namespace', 'open', 'def', 'theorem' AND NOTHING ELSE: no command of the shelf's: FOR A HAND-IN. Each laying: the table of numbers ('.._ren') and one theorem, a field a fact of the dump's own or the kernel's comparison; each contract: ONE APPLICATION.
-/
import Derived.Shelf.Strings.Builder1
import Derived.Shelf.Strings.Builder2
import Derived.Shelf.Strings.OnBuilder
import Derived.Shelf.Small.Bits
import Derived.Shelf.Small.Strs
import Derived.Shelf.Small.Wraps
import Derived.Shelf.Strings.BuilderF
import Derived.Shelf.Strings.BuilderK
import Derived.Shelf.Strings.Builder2Cap
import Derived.Shelf.Strconv.Itoa0
import Derived.Shelf.Strings.Search1
import Derived.Shelf.Sort.Plain
import Derived.Shelf.Strings.BuilderCap
import Derived.Shelf.Slices.Turned
import Derived.Ground.Names2Prog
import Derived.Shelf.Slices.SearchI
import Derived.Shelf.Slices.In.SortNone
import Derived.Test.YthhhlaoiampinaaProg
import Derived.Test.YthhhlaoiampinaaY0
import Derived.Lib.Join
import Derived.Test.YthhhlaoiampinaaY8
import Derived.Test.YthhhlaoiampinaaY2
import Derived.RangeFuncNested
import Derived.RangeFuncBound
import Derived.RangeFuncCalls
import Derived.RangeFuncLeaves
import Derived.Shelf.Abstract
import Derived.Shelf.RegionOpen
import Derived.WalkKit
import Derived.OwnWalkIn
import Derived.TacticsInMore
import Derived.LoopNIn
import Derived.LoopIn
import Derived.LaidEqlPtr
import Derived.Lib.Builder
namespace Go.Proofs
open Go.Shelf
def Try.lays169_ren : Go.Shelf.Ren := ⟨fun | 169 => 78 | n => n, fun | 70 => 118 | 9 => 9 | 0 => 0 | 72 => 120 | 37 => 110 | 127 => 167 | 3 => 3 | 5 => 5 | n => n, fun | n => n⟩
theorem Try.lays169 : Go.Proofs.Lays.n169 Try.prog Try.lays169_ren := {
  mixed := by kernel_rfl
  f169 := Try.func78.trans (congrArg some (by kernel_rfl))
  t0 := Try.underlying0
  a0 := Try.isAgg0
  z0 := Try.sizeOf0
  v0 := Try.zeroValue0
  t3 := Try.underlying3
  a3 := Try.isAgg3
  z3 := Try.sizeOf3
  v3 := Try.zeroValue3
  t9 := Try.underlying9
  a9 := Try.isAgg9
  z9 := Try.sizeOf9
  v9 := Try.zeroValue9
  t37 := Try.underlying110
  a37 := Try.isAgg110
  z37 := Try.sizeOf110
  v37 := Try.zeroValue110
  t70 := Try.underlying118
  a70 := Try.isAgg118
  z70 := Try.sizeOf118
  v70 := Try.zeroValue118
  t72 := Try.underlying120
  a72 := Try.isAgg120
  z72 := Try.sizeOf120
  v72 := Try.zeroValue120
  t127 := Try.underlying167
  a127 := Try.isAgg167
  z127 := Try.sizeOf167
  v127 := Try.zeroValue167 }
theorem Try.Builder_Extra_169 : Builder.Extra Try.prog Try.lays169_ren := {
  sizeBuilder := by kernel_rfl
  liesBuilder := by kernel_rfl
  t5 := Try.underlying5
  a5 := Try.isAgg5
  z5 := Try.sizeOf5
  v5 := Try.zeroValue5
  infoByte := by kernel_rfl
  cellsByte := by kernel_rfl
  sizeByte := by kernel_rfl
  neB5 := by decide }
open Go.RowKit in
/-- (*strings.Builder).String: "String returns the accumulated string.": OF A BUILDER THAT HOLDS AT LEAST ONE BYTE. ✋ THE MODEL FREEZES THOSE BYTES IN THE BUFFER (unsafe.String): a later write INTO them ends the model's run without an answer; a later append BEHIND them goes on. The statement's order of evaluation is drawn: one draw. (LAID: no walk: one application.) -/
theorem Try.Builder_String (B b : Nat) (l : List UInt8) (w : World) (h : Lib.IsBuilder 120 5 B b (Lib.byteCells l) w) (h0 : l ≠ []) :
    Calls Try.prog 78 #[.pointer (some ⟨b, 0, none⟩)] w fun e w' => e = .returned (.string ⟨l.toArray⟩) ∧ Below B w w' := Any.Builder_String Try.lays169 Try.Builder_Extra_169 B b l w h h0
open Go.RowKit in
/-- (*strings.Builder).String OF A BUILDER THAT HOLDS NO BYTE: the empty string. (Its buffer is nil, or a row of which it has taken nothing yet; where that row has NO capacity the model lays one new block for unsafe.SliceData's 'some address'.) One draw. (LAID: no walk: one application.) -/
theorem Try.Builder_String_empty (B b : Nat) (w : World) (h : Lib.IsBuilder 120 5 B b [] w) (hBw : B ≤ w.heap.size) :
    Calls Try.prog 78 #[.pointer (some ⟨b, 0, none⟩)] w fun e w' => e = .returned (.string ⟨#[]⟩) ∧ Below B w w' := Any.Builder_String_empty Try.lays169 Try.Builder_Extra_169 B b w h hBw
open Go.RowKit in
/-- (*strings.Builder).String: "String returns the accumulated string.": WHATEVER THE BUILDER HOLDS. (LAID: no walk: one application.) -/
theorem Try.Builder_String_any (B b : Nat) (l : List UInt8) (w : World) (h : Lib.IsBuilder 120 5 B b (Lib.byteCells l) w) (hBw : B ≤ w.heap.size) :
    Calls Try.prog 78 #[.pointer (some ⟨b, 0, none⟩)] w fun e w' => e = .returned (.string ⟨l.toArray⟩) ∧ Below B w w' := Any.Builder_String_any Try.lays169 Try.Builder_Extra_169 B b l w h hBw
def Try.lays241_ren : Go.Shelf.Ren := ⟨fun | 241 => 105 | 277 => 121 | n => n, fun | 70 => 118 | 3 => 3 | 0 => 0 | 72 => 120 | 37 => 110 | 5 => 5 | n => n, fun | n => n⟩
theorem Try.lays241 : Go.Proofs.Lays.n241 Try.prog Try.lays241_ren := {
  mixed := by kernel_rfl
  f241 := Try.func105.trans (congrArg some (by kernel_rfl))
  f277 := Try.func121.trans (congrArg some (by kernel_rfl))
  t0 := Try.underlying0
  a0 := Try.isAgg0
  z0 := Try.sizeOf0
  v0 := Try.zeroValue0
  t3 := Try.underlying3
  a3 := Try.isAgg3
  z3 := Try.sizeOf3
  v3 := Try.zeroValue3
  t37 := Try.underlying110
  a37 := Try.isAgg110
  z37 := Try.sizeOf110
  v37 := Try.zeroValue110
  t70 := Try.underlying118
  a70 := Try.isAgg118
  z70 := Try.sizeOf118
  v70 := Try.zeroValue118
  t72 := Try.underlying120
  a72 := Try.isAgg120
  z72 := Try.sizeOf120
  v72 := Try.zeroValue120 }
theorem Try.Builder_Extra_241 : Builder.Extra Try.prog Try.lays241_ren := {
  sizeBuilder := by kernel_rfl
  liesBuilder := by kernel_rfl
  t5 := Try.underlying5
  a5 := Try.isAgg5
  z5 := Try.sizeOf5
  v5 := Try.zeroValue5
  infoByte := by kernel_rfl
  cellsByte := by kernel_rfl
  sizeByte := by kernel_rfl
  neB5 := by decide }
open Go.RowKit in
/-- (*strings.Builder).grow (no doc but "grow copies the buffer to a new, larger buffer so that there are at least n bytes of capacity beyond len(b.buf)."): AT A BUILDER WITHOUT A BUFFER: a new row of whatever bytes for its buffer, none of them its own yet. Three draws. (LAID: no walk: one application.) -/
theorem Try.Builder_grow_fresh (B b n : Nat) (w : World) (hB : B ≤ b) (hbk : w.heap[b]? = some (.cells #[.pointer (some ⟨b, 0, none⟩), .slice none 0 0] 120 (0, 0))) (hBw : B ≤ w.heap.size) (hn : n ≤ 281474976710656) :
    Calls Try.prog 105 #[.pointer (some ⟨b, 0, none⟩), .int .i64 n] w fun e w' => e = .returned (.tuple #[]) ∧ (Lib.BuilderAt 120 5 B b (.pointer (some ⟨b, 0, none⟩)) [] w' ∧ Below B w w') := Any.Builder_grow_fresh Try.lays241 Try.Builder_Extra_241 B b n w hB hbk hBw hn
def Try.lays165_ren : Go.Shelf.Ren := ⟨fun | 165 => 76 | 240 => 104 | 241 => 105 | 276 => 120 | 277 => 121 | n => n, fun | 70 => 118 | 3 => 3 | 0 => 0 | 4 => 4 | 9 => 9 | 20 => 20 | 72 => 120 | 37 => 110 | 164 => 186 | 5 => 5 | n => n, fun | n => n⟩
theorem Try.lays165 : Go.Proofs.Lays.n165 Try.prog Try.lays165_ren := {
  mixed := by kernel_rfl
  f165 := Try.func76.trans (congrArg some (by kernel_rfl))
  f240 := Try.func104.trans (congrArg some (by kernel_rfl))
  f241 := Try.func105.trans (congrArg some (by kernel_rfl))
  f276 := Try.func120.trans (congrArg some (by kernel_rfl))
  f277 := Try.func121.trans (congrArg some (by kernel_rfl))
  t0 := Try.underlying0
  a0 := Try.isAgg0
  z0 := Try.sizeOf0
  v0 := Try.zeroValue0
  t3 := Try.underlying3
  a3 := Try.isAgg3
  z3 := Try.sizeOf3
  v3 := Try.zeroValue3
  t4 := Try.underlying4
  a4 := Try.isAgg4
  z4 := Try.sizeOf4
  v4 := Try.zeroValue4
  t9 := Try.underlying9
  a9 := Try.isAgg9
  z9 := Try.sizeOf9
  v9 := Try.zeroValue9
  t20 := Try.underlying20
  a20 := Try.isAgg20
  z20 := Try.sizeOf20
  v20 := Try.zeroValue20
  t37 := Try.underlying110
  a37 := Try.isAgg110
  z37 := Try.sizeOf110
  v37 := Try.zeroValue110
  t70 := Try.underlying118
  a70 := Try.isAgg118
  z70 := Try.sizeOf118
  v70 := Try.zeroValue118
  t72 := Try.underlying120
  a72 := Try.isAgg120
  z72 := Try.sizeOf120
  v72 := Try.zeroValue120
  t164 := Try.underlying186
  a164 := Try.isAgg186
  z164 := Try.sizeOf186
  v164 := Try.zeroValue186 }
theorem Try.Builder_Extra_165 : Builder.Extra Try.prog Try.lays165_ren := {
  sizeBuilder := by kernel_rfl
  liesBuilder := by kernel_rfl
  t5 := Try.underlying5
  a5 := Try.isAgg5
  z5 := Try.sizeOf5
  v5 := Try.zeroValue5
  infoByte := by kernel_rfl
  cellsByte := by kernel_rfl
  sizeByte := by kernel_rfl
  neB5 := by decide }
open Go.RowKit in
/-- (*strings.Builder).Grow AT A BUILDER THAT HAS NOT BEEN WRITTEN ('var b strings.Builder; b.Grow(n)'): "Grow grows b's capacity, if necessary, to guarantee space for another n bytes.": it holds no byte behind it as before it. (LAID: no walk: one application.) -/
theorem Try.Builder_Grow_fresh (B b n : Nat) (w : World) (hB : B ≤ b) (hbk : w.heap[b]? = some (.cells #[.pointer none, .slice none 0 0] 120 (0, 0))) (hBw : B ≤ w.heap.size) (hn : n ≤ 281474976710656) :
    Calls Try.prog 76 #[.pointer (some ⟨b, 0, none⟩), .int .i64 n] w fun e w' => e = .returned (.tuple #[]) ∧ (Lib.BuilderAt 120 5 B b (.pointer (some ⟨b, 0, none⟩)) [] w' ∧ Below B w w') := Any.Builder_Grow_fresh Try.lays165 Try.Builder_Extra_165 B b n w hB hbk hBw hn
def Try.lays156_ren : Go.Shelf.Ren := ⟨fun | 156 => 45 | 165 => 76 | 166 => 77 | 169 => 78 | 240 => 104 | 241 => 105 | 276 => 120 | 277 => 121 | n => n, fun | 31 => 42 | 9 => 9 | 3 => 3 | 4 => 4 | 0 => 0 | 20 => 20 | 72 => 120 | 76 => 134 | 70 => 118 | 37 => 110 | 75 => 133 | 127 => 167 | 164 => 186 | 5 => 5 | 80 => 102 | n => n, fun | n => n⟩
theorem Try.lays156 : Go.Proofs.Lays.n156 Try.prog Try.lays156_ren := {
  mixed := by kernel_rfl
  f156 := Try.func45.trans (congrArg some (by kernel_rfl))
  f165 := Try.func76.trans (congrArg some (by kernel_rfl))
  f166 := Try.func77.trans (congrArg some (by kernel_rfl))
  f169 := Try.func78.trans (congrArg some (by kernel_rfl))
  f240 := Try.func104.trans (congrArg some (by kernel_rfl))
  f241 := Try.func105.trans (congrArg some (by kernel_rfl))
  f276 := Try.func120.trans (congrArg some (by kernel_rfl))
  f277 := Try.func121.trans (congrArg some (by kernel_rfl))
  t0 := Try.underlying0
  a0 := Try.isAgg0
  z0 := Try.sizeOf0
  v0 := Try.zeroValue0
  t3 := Try.underlying3
  a3 := Try.isAgg3
  z3 := Try.sizeOf3
  v3 := Try.zeroValue3
  t4 := Try.underlying4
  a4 := Try.isAgg4
  z4 := Try.sizeOf4
  v4 := Try.zeroValue4
  t9 := Try.underlying9
  a9 := Try.isAgg9
  z9 := Try.sizeOf9
  v9 := Try.zeroValue9
  t20 := Try.underlying20
  a20 := Try.isAgg20
  z20 := Try.sizeOf20
  v20 := Try.zeroValue20
  t31 := Try.underlying42
  a31 := Try.isAgg42
  z31 := Try.sizeOf42
  v31 := Try.zeroValue42
  t37 := Try.underlying110
  a37 := Try.isAgg110
  z37 := Try.sizeOf110
  v37 := Try.zeroValue110
  t70 := Try.underlying118
  a70 := Try.isAgg118
  z70 := Try.sizeOf118
  v70 := Try.zeroValue118
  t72 := Try.underlying120
  a72 := Try.isAgg120
  z72 := Try.sizeOf120
  v72 := Try.zeroValue120
  t75 := Try.underlying133
  a75 := Try.isAgg133
  z75 := Try.sizeOf133
  v75 := Try.zeroValue133
  t76 := Try.underlying134
  a76 := Try.isAgg134
  z76 := Try.sizeOf134
  v76 := Try.zeroValue134
  t127 := Try.underlying167
  a127 := Try.isAgg167
  z127 := Try.sizeOf167
  v127 := Try.zeroValue167
  t164 := Try.underlying186
  a164 := Try.isAgg186
  z164 := Try.sizeOf186
  v164 := Try.zeroValue186 }
theorem Try.Builder_Extra_156 : Builder.Extra Try.prog Try.lays156_ren := {
  sizeBuilder := by kernel_rfl
  liesBuilder := by kernel_rfl
  t5 := Try.underlying5
  a5 := Try.isAgg5
  z5 := Try.sizeOf5
  v5 := Try.zeroValue5
  infoByte := by kernel_rfl
  cellsByte := by kernel_rfl
  sizeByte := by kernel_rfl
  neB5 := by decide }
open Go.RowKit in
/-- No element: the empty string; the world is as it was. (Whatever the slice's address and capacity: a nil slice too.) (LAID: no walk: one application.) -/
theorem Try.strings_Join_none (a : Option Addr) (c : Nat) (sep : ByteArray) (w : World) :
    Calls Try.prog 45 #[.slice a 0 c, .string sep] w fun e w' => e = .returned (.string ⟨#[]⟩) ∧ w' = w := Any.strings_Join_none Try.lays156 Try.Builder_Extra_156 a c sep w
open Go.RowKit in
/-- strings.Join: "Join concatenates the elements of its first argument to create a single string. The separator string sep is placed between elements in the resulting string.": HOWEVER MANY ELEMENTS. Below the heap's end the world is as it was. (LAID: no walk: one application.) -/
theorem Try.strings_Join (bk o c : Nat) (xs : List ByteArray) (sep : ByteArray) (w : World) (hcells : ∀ (j : Nat) x, xs[j]? = some x → w.cell? ⟨bk, o + j, none⟩ = some (.string x)) (hbk : bk < w.heap.size) (hN : xs.length ≤ 140737488355328) (hcap : xs.length ≤ c) (hlen : (Lib.join (xs.map (·.data.toList)) sep.data.toList).length ≤ 140737488355328) :
    Calls Try.prog 45 #[.slice (some ⟨bk, o, none⟩) xs.length c, .string sep] w fun e w' => e = .returned (.string ⟨(Lib.join (xs.map (·.data.toList)) sep.data.toList).toArray⟩) ∧ Below w.heap.size w w' := Any.strings_Join Try.lays156 Try.Builder_Extra_156 bk o c xs sep w hcells hbk hN hcap hlen
def Try.lays128_ren : Go.Shelf.Ren := ⟨fun | 128 => 99 | n => n, fun | 51 => 136 | 3 => 3 | 4 => 4 | 46 => 126 | 5 => 5 | 9 => 9 | n => n, fun | n => n⟩
theorem Try.lays128 : Go.Proofs.Lays.n128 Try.prog Try.lays128_ren := {
  mixed := by kernel_rfl
  f128 := Try.func99.trans (congrArg some (by kernel_rfl))
  t3 := Try.underlying3
  a3 := Try.isAgg3
  z3 := Try.sizeOf3
  v3 := Try.zeroValue3
  t4 := Try.underlying4
  a4 := Try.isAgg4
  z4 := Try.sizeOf4
  v4 := Try.zeroValue4
  t5 := Try.underlying5
  a5 := Try.isAgg5
  z5 := Try.sizeOf5
  v5 := Try.zeroValue5
  t9 := Try.underlying9
  a9 := Try.isAgg9
  z9 := Try.sizeOf9
  v9 := Try.zeroValue9
  t46 := Try.underlying126
  a46 := Try.isAgg126
  z46 := Try.sizeOf126
  v46 := Try.zeroValue126
  t51 := Try.underlying136
  a51 := Try.isAgg136
  z51 := Try.sizeOf136
  v51 := Try.zeroValue136 }
/-- bits.Len32: "Len32 returns the minimum number of bits required to represent x; the result is 0 for x == 0.": IT RETURNS 'Lib.bitLen x'; the world is as it was. ('h0', 'h1': x is a uint32.) (LAID: no walk: one application.) -/
theorem Try.bits_Len32 (x : Int) (w : World) (h0 : 0 ≤ x) (h1 : x ≤ 4294967295) :
    Calls Try.prog 99 #[.int .u32 x] w fun e w' => e = .returned (.int .i64 (Lib.bitLen x.toNat)) ∧ w' = w := Any.bits_Len32 Try.lays128 x w h0 h1
def Try.lays125_ren : Go.Shelf.Ren := ⟨fun | 125 => 68 | 128 => 99 | 129 => 100 | n => n, fun | 46 => 126 | 3 => 3 | 51 => 136 | 53 => 164 | 4 => 4 | 5 => 5 | 9 => 9 | n => n, fun | n => n⟩
theorem Try.lays125 : Go.Proofs.Lays.n125 Try.prog Try.lays125_ren := {
  mixed := by kernel_rfl
  f125 := Try.func68.trans (congrArg some (by kernel_rfl))
  f128 := Try.func99.trans (congrArg some (by kernel_rfl))
  f129 := Try.func100.trans (congrArg some (by kernel_rfl))
  t3 := Try.underlying3
  a3 := Try.isAgg3
  z3 := Try.sizeOf3
  v3 := Try.zeroValue3
  t4 := Try.underlying4
  a4 := Try.isAgg4
  z4 := Try.sizeOf4
  v4 := Try.zeroValue4
  t5 := Try.underlying5
  a5 := Try.isAgg5
  z5 := Try.sizeOf5
  v5 := Try.zeroValue5
  t9 := Try.underlying9
  a9 := Try.isAgg9
  z9 := Try.sizeOf9
  v9 := Try.zeroValue9
  t46 := Try.underlying126
  a46 := Try.isAgg126
  z46 := Try.sizeOf126
  v46 := Try.zeroValue126
  t51 := Try.underlying136
  a51 := Try.isAgg136
  z51 := Try.sizeOf136
  v51 := Try.zeroValue136
  t53 := Try.underlying164
  a53 := Try.isAgg164
  z53 := Try.sizeOf164
  v53 := Try.zeroValue164 }
/-- bits.Len: "Len returns the minimum number of bits required to represent x; the result is 0 for x == 0.": IT RETURNS 'Lib.bitLen x'; the world is as it was. (A uint has 64 bits in the model.) ITS CALLEE bits.Len64 IS MET BY ITS OWN CONTRACT OFF THE SHELF (lay that first). (LAID: no walk: one application.) -/
theorem Try.bits_Len (x : Int) (w : World) (h0 : 0 ≤ x) (h1 : x ≤ 18446744073709551615) :
    Calls Try.prog 68 #[.int .u64 x] w fun e w' => e = .returned (.int .i64 (Lib.bitLen x.toNat)) ∧ w' = w := Any.bits_Len Try.lays125 x w h0 h1
def Try.lays137_ren : Go.Shelf.Ren := ⟨fun | 137 => 119 | 217 => 136 | 266 => 142 | n => n, fun | 9 => 9 | 5 => 5 | 3 => 3 | n => n, fun | n => n⟩
theorem Try.lays137 : Go.Proofs.Lays.n137 Try.prog Try.lays137_ren := {
  mixed := by kernel_rfl
  f137 := Try.func119.trans (congrArg some (by kernel_rfl))
  f217 := Try.func136.trans (congrArg some (by kernel_rfl))
  f266 := Try.func142.trans (congrArg some (by kernel_rfl))
  t3 := Try.underlying3
  a3 := Try.isAgg3
  z3 := Try.sizeOf3
  v3 := Try.zeroValue3
  t5 := Try.underlying5
  a5 := Try.isAgg5
  z5 := Try.sizeOf5
  v5 := Try.zeroValue5
  t9 := Try.underlying9
  a9 := Try.isAgg9
  z9 := Try.sizeOf9
  v9 := Try.zeroValue9 }
open Go.RowKit in
/-- strings.IndexByte: "IndexByte returns the index of the first instance of c in s, or -1 if c is not present in s.": IT RETURNS 'Lib.indexByte s c'; the world is as it was. (LAID: no walk: one application.) -/
theorem Try.strings_IndexByte (s : ByteArray) (c : Int) (w : World) :
    Calls Try.prog 119 #[.string s, .int .u8 c] w fun e w' => e = .returned (.int .i64 (Lib.indexByte s.data.toList c.toNat.toUInt8)) ∧ w' = w := Any.strings_IndexByte Try.lays137 s c w
def Try.lays215_ren : Go.Shelf.Ren := ⟨fun | 215 => 69 | n => n, fun | 3 => 3 | 4 => 4 | n => n, fun | n => n⟩
theorem Try.lays215 : Go.Proofs.Lays.n215 Try.prog Try.lays215_ren := {
  mixed := by kernel_rfl
  f215 := Try.func69.trans (congrArg some (by kernel_rfl))
  t3 := Try.underlying3
  a3 := Try.isAgg3
  z3 := Try.sizeOf3
  v3 := Try.zeroValue3
  t4 := Try.underlying4
  a4 := Try.isAgg4
  z4 := Try.sizeOf4
  v4 := Try.zeroValue4 }
open Go.RowKit in
/-- cmp.isNaN at int: 'x != x': false. (LAID: no walk: one application.) -/
theorem Try.cmp_isNaN_int (x : Int) (w : World) :
    Calls Try.prog 69 #[.int .i64 x] w fun e w' => e = .returned (.bool false) ∧ w' = w := Any.cmp_isNaN_int Try.lays215 x w
def Try.lays122_ren : Go.Shelf.Ren := ⟨fun | 122 => 35 | 215 => 69 | n => n, fun | 3 => 3 | 4 => 4 | n => n, fun | n => n⟩
theorem Try.lays122 : Go.Proofs.Lays.n122 Try.prog Try.lays122_ren := {
  mixed := by kernel_rfl
  f122 := Try.func35.trans (congrArg some (by kernel_rfl))
  f215 := Try.func69.trans (congrArg some (by kernel_rfl))
  t3 := Try.underlying3
  a3 := Try.isAgg3
  z3 := Try.sizeOf3
  v3 := Try.zeroValue3
  t4 := Try.underlying4
  a4 := Try.isAgg4
  z4 := Try.sizeOf4
  v4 := Try.zeroValue4 }
open Go.RowKit in
/-- cmp.Compare at int: "Compare returns -1 if x is less than y, 0 if x equals y, +1 if x is greater than y.": IT RETURNS 'Lib.compareInt x y'; the world is as it was. (LAID: no walk: one application.) -/
theorem Try.cmp_Compare_int (x y : Int) (w : World) :
    Calls Try.prog 35 #[.int .i64 x, .int .i64 y] w fun e w' => e = .returned (.int .i64 (Lib.compareInt x y)) ∧ w' = w := Any.cmp_Compare_int Try.lays122 x y w
open Go.RowKit in
/-- (*strings.Builder).String: "String returns the accumulated string.": OF A BUILDER THAT HOLDS AT LEAST ONE BYTE. ✋ THE MODEL FREEZES THOSE BYTES IN THE BUFFER (unsafe.String): a later write INTO them ends the model's run without an answer; a later append BEHIND them goes on. The statement's order of evaluation is drawn: one draw. THE FORM '_f': IT SAYS BESIDES THAT THE BUILDER IS A BUILDER STILL ('Lib.IsBuilderF', the same bytes): SO IT CAN BE WRITTEN ON: 'b.WriteString(b.String()[:k])'. (LAID: no walk: one application.) -/
theorem Try.Builder_String_f (B b : Nat) (l : List UInt8) (w : World) (h : Lib.IsBuilderF 120 5 B b (Lib.byteCells l) w) (h0 : l ≠ []) :
    Calls Try.prog 78 #[.pointer (some ⟨b, 0, none⟩)] w fun e w' => e = .returned (.string ⟨l.toArray⟩) ∧ (Lib.IsBuilderF 120 5 B b (Lib.byteCells l) w' ∧ Below B w w') := Any.Builder_String_f Try.lays169 Try.Builder_Extra_169 B b l w h h0
open Go.RowKit in
/-- (*strings.Builder).String OF A BUILDER THAT HOLDS NO BYTE: the empty string; THE FORM '_f': a builder still. (LAID: no walk: one application.) -/
theorem Try.Builder_String_empty_f (B b : Nat) (w : World) (h : Lib.IsBuilderF 120 5 B b [] w) (hBw : B ≤ w.heap.size) :
    Calls Try.prog 78 #[.pointer (some ⟨b, 0, none⟩)] w fun e w' => e = .returned (.string ⟨#[]⟩) ∧ (Lib.IsBuilderF 120 5 B b [] w' ∧ Below B w w') := Any.Builder_String_empty_f Try.lays169 Try.Builder_Extra_169 B b w h hBw
open Go.RowKit in
/-- (*strings.Builder).String: "String returns the accumulated string.": WHATEVER THE BUILDER HOLDS; THE FORM '_f': OF A BUILDER THAT MAY HAVE BEEN READ BEFORE; AND IT IS A BUILDER STILL, holding the same bytes: it can be written on. (LAID: no walk: one application.) -/
theorem Try.Builder_String_any_f (B b : Nat) (l : List UInt8) (w : World) (h : Lib.IsBuilderF 120 5 B b (Lib.byteCells l) w) (hBw : B ≤ w.heap.size) :
    Calls Try.prog 78 #[.pointer (some ⟨b, 0, none⟩)] w fun e w' => e = .returned (.string ⟨l.toArray⟩) ∧ (Lib.IsBuilderF 120 5 B b (Lib.byteCells l) w' ∧ Below B w w') := Any.Builder_String_any_f Try.lays169 Try.Builder_Extra_169 B b l w h hBw
open Go.RowKit in
/-- (*strings.Builder).String: "String returns the accumulated string.": OF A BUILDER THAT HOLDS AT LEAST ONE BYTE. ✋ THE MODEL FREEZES THOSE BYTES IN THE BUFFER (unsafe.String): a later write INTO them ends the model's run without an answer; a later append BEHIND them goes on. The statement's order of evaluation is drawn: one draw. THE FORM '_k': OVER 'Lib.IsBuilderF' (a builder that 'String()' may have read), AND WITH THE FRAME THAT REACHES ABOVE THE BUILDER: 'Lib.OthersKept': every block that is not b and is no row of uint8's stands as it stood: the iterator of a range among them. (LAID: no walk: one application.) -/
theorem Try.Builder_String_k (B b : Nat) (l : List UInt8) (w : World) (h : Lib.IsBuilderF 120 5 B b (Lib.byteCells l) w) (h0 : l ≠ []) :
    Calls Try.prog 78 #[.pointer (some ⟨b, 0, none⟩)] w fun e w' => e = .returned (.string ⟨l.toArray⟩) ∧ (Lib.IsBuilderF 120 5 B b (Lib.byteCells l) w' ∧ Below B w w' ∧ Lib.OthersKept 5 (some b) w w') := Any.Builder_String_k Try.lays169 Try.Builder_Extra_169 B b l w h h0
open Go.RowKit in
/-- (*strings.Builder).String OF A BUILDER THAT HOLDS NO BYTE: the empty string; THE FORM '_k': OVER 'Lib.IsBuilderF' (a builder that 'String()' may have read), AND WITH THE FRAME THAT REACHES ABOVE THE BUILDER: 'Lib.OthersKept': every block that is not b and is no row of uint8's stands as it stood: the iterator of a range among them. (LAID: no walk: one application.) -/
theorem Try.Builder_String_empty_k (B b : Nat) (w : World) (h : Lib.IsBuilderF 120 5 B b [] w) (hBw : B ≤ w.heap.size) :
    Calls Try.prog 78 #[.pointer (some ⟨b, 0, none⟩)] w fun e w' => e = .returned (.string ⟨#[]⟩) ∧ (Lib.IsBuilderF 120 5 B b [] w' ∧ Below B w w' ∧ Lib.OthersKept 5 (some b) w w') := Any.Builder_String_empty_k Try.lays169 Try.Builder_Extra_169 B b w h hBw
open Go.RowKit in
/-- (*strings.Builder).String: "String returns the accumulated string.": WHATEVER THE BUILDER HOLDS; THE FORM '_k': OVER 'Lib.IsBuilderF' (a builder that 'String()' may have read), AND WITH THE FRAME THAT REACHES ABOVE THE BUILDER: 'Lib.OthersKept': every block that is not b and is no row of uint8's stands as it stood: the iterator of a range among them. (LAID: no walk: one application.) -/
theorem Try.Builder_String_any_k (B b : Nat) (l : List UInt8) (w : World) (h : Lib.IsBuilderF 120 5 B b (Lib.byteCells l) w) (hBw : B ≤ w.heap.size) :
    Calls Try.prog 78 #[.pointer (some ⟨b, 0, none⟩)] w fun e w' => e = .returned (.string ⟨l.toArray⟩) ∧ (Lib.IsBuilderF 120 5 B b (Lib.byteCells l) w' ∧ Below B w w' ∧ Lib.OthersKept 5 (some b) w w') := Any.Builder_String_any_k Try.lays169 Try.Builder_Extra_169 B b l w h hBw
open Go.RowKit in
/-- (*strings.Builder).grow (no doc but "grow copies the buffer to a new, larger buffer so that there are at least n bytes of capacity beyond len(b.buf)."): AT A BUILDER WITHOUT A BUFFER: a new row of whatever bytes for its buffer, none of them its own yet. Three draws. (LAID: no walk: one application.) -/
theorem Try.Builder_grow_fresh_cap (B b n : Nat) (w : World) (hB : B ≤ b) (hbk : w.heap[b]? = some (.cells #[.pointer (some ⟨b, 0, none⟩), .slice none 0 0] 120 (0, 0))) (hBw : B ≤ w.heap.size) (hn : n ≤ 281474976710656) :
    Calls Try.prog 105 #[.pointer (some ⟨b, 0, none⟩), .int .i64 n] w fun e w' => e = .returned (.tuple #[]) ∧ (Lib.BuilderAt 120 5 B b (.pointer (some ⟨b, 0, none⟩)) [] w' ∧ Below B w w') ∧ ∃ p cap, w'.cell? ⟨b, 1, none⟩ = some (.slice p 0 cap) ∧ n ≤ cap := Any.Builder_grow_fresh_cap Try.lays241 Try.Builder_Extra_241 B b n w hB hbk hBw hn
open Go.RowKit in
/-- (*strings.Builder).Grow AT A BUILDER THAT HAS NOT BEEN WRITTEN ('var b strings.Builder; b.Grow(n)'): "Grow grows b's capacity, if necessary, to guarantee space for another n bytes.": it holds no byte behind it as before it. (LAID: no walk: one application.) -/
theorem Try.Builder_Grow_fresh_cap (B b n : Nat) (w : World) (hB : B ≤ b) (hbk : w.heap[b]? = some (.cells #[.pointer none, .slice none 0 0] 120 (0, 0))) (hBw : B ≤ w.heap.size) (hn : n ≤ 281474976710656) :
    Calls Try.prog 76 #[.pointer (some ⟨b, 0, none⟩), .int .i64 n] w fun e w' => e = .returned (.tuple #[]) ∧ (Lib.BuilderAt 120 5 B b (.pointer (some ⟨b, 0, none⟩)) [] w' ∧ Below B w w') ∧ ∃ p cap, w'.cell? ⟨b, 1, none⟩ = some (.slice p 0 cap) ∧ n ≤ cap := Any.Builder_Grow_fresh_cap Try.lays165 Try.Builder_Extra_165 B b n w hB hbk hBw hn
def Try.lays129_ren : Go.Shelf.Ren := ⟨fun | 129 => 100 | n => n, fun | 53 => 164 | 3 => 3 | 4 => 4 | 46 => 126 | 5 => 5 | 9 => 9 | n => n, fun | n => n⟩
theorem Try.lays129 : Go.Proofs.Lays.n129 Try.prog Try.lays129_ren := {
  mixed := by kernel_rfl
  f129 := Try.func100.trans (congrArg some (by kernel_rfl))
  t3 := Try.underlying3
  a3 := Try.isAgg3
  z3 := Try.sizeOf3
  v3 := Try.zeroValue3
  t4 := Try.underlying4
  a4 := Try.isAgg4
  z4 := Try.sizeOf4
  v4 := Try.zeroValue4
  t5 := Try.underlying5
  a5 := Try.isAgg5
  z5 := Try.sizeOf5
  v5 := Try.zeroValue5
  t9 := Try.underlying9
  a9 := Try.isAgg9
  z9 := Try.sizeOf9
  v9 := Try.zeroValue9
  t46 := Try.underlying126
  a46 := Try.isAgg126
  z46 := Try.sizeOf126
  v46 := Try.zeroValue126
  t53 := Try.underlying164
  a53 := Try.isAgg164
  z53 := Try.sizeOf164
  v53 := Try.zeroValue164 }
/-- bits.Len64: "Len64 returns the minimum number of bits required to represent x; the result is 0 for x == 0.": IT RETURNS 'Lib.bitLen x'; the world is as it was. ('h0', 'h1': x is a uint64.) (LAID: no walk: one application.) -/
theorem Try.bits_Len64 (x : Int) (w : World) (h0 : 0 ≤ x) (h1 : x ≤ 18446744073709551615) :
    Calls Try.prog 100 #[.int .u64 x] w fun e w' => e = .returned (.int .i64 (Lib.bitLen x.toNat)) ∧ w' = w := Any.bits_Len64 Try.lays129 x w h0 h1
def Try.lays217_ren : Go.Shelf.Ren := ⟨fun | 217 => 136 | 266 => 142 | n => n, fun | 9 => 9 | 5 => 5 | 3 => 3 | n => n, fun | n => n⟩
theorem Try.lays217 : Go.Proofs.Lays.n217 Try.prog Try.lays217_ren := {
  mixed := by kernel_rfl
  f217 := Try.func136.trans (congrArg some (by kernel_rfl))
  f266 := Try.func142.trans (congrArg some (by kernel_rfl))
  t3 := Try.underlying3
  a3 := Try.isAgg3
  z3 := Try.sizeOf3
  v3 := Try.zeroValue3
  t5 := Try.underlying5
  a5 := Try.isAgg5
  z5 := Try.sizeOf5
  v5 := Try.zeroValue5
  t9 := Try.underlying9
  a9 := Try.isAgg9
  z9 := Try.sizeOf9
  v9 := Try.zeroValue9 }
open Go.RowKit Go.Lib in
/-- internal/stringslite.IndexByte (what strings.IndexByte calls): IT RETURNS 'Lib.indexByte s c'; the world is as it was. (LAID: no walk: one application.) -/
theorem Try.stringslite_IndexByte (s : ByteArray) (c : Int) (w : World) :
    Calls Try.prog 136 #[.string s, .int .u8 c] w fun e w' => e = .returned (.int .i64 (Lib.indexByte s.data.toList c.toNat.toUInt8)) ∧ w' = w := Any.stringslite_IndexByte Try.lays217 s c w
def Try.lays190_ren : Go.Shelf.Ren := ⟨fun | 190 => 89 | 125 => 68 | 258 => 112 | 128 => 99 | 129 => 100 | 302 => 125 | 303 => 126 | 304 => 127 | 305 => 128 | 306 => 129 | 307 => 130 | 308 => 131 | 309 => 132 | 310 => 133 | 333 => 138 | 329 => 114 | 330 => 115 | 334 => 139 | 335 => 140 | 336 => 141 | 344 => 143 | n => n, fun | 31 => 42 | 9 => 9 | 3 => 3 | 46 => 126 | 0 => 0 | 51 => 136 | 53 => 164 | 4 => 4 | 183 => 157 | 182 => 156 | 131 => 142 | 5 => 5 | 218 => 179 | 222 => 183 | 228 => 205 | 229 => 206 | n => n, fun | n => n⟩
theorem Try.lays190 : Go.Proofs.Lays.n190 Try.prog Try.lays190_ren := {
  mixed := by kernel_rfl
  f125 := Try.func68.trans (congrArg some (by kernel_rfl))
  f128 := Try.func99.trans (congrArg some (by kernel_rfl))
  f129 := Try.func100.trans (congrArg some (by kernel_rfl))
  f190 := Try.func89.trans (congrArg some (by kernel_rfl))
  f258 := Try.func112.trans (congrArg some (by kernel_rfl))
  f302 := Try.func125.trans (congrArg some (by kernel_rfl))
  f303 := Try.func126.trans (congrArg some (by kernel_rfl))
  f304 := Try.func127.trans (congrArg some (by kernel_rfl))
  f305 := Try.func128.trans (congrArg some (by kernel_rfl))
  f306 := Try.func129.trans (congrArg some (by kernel_rfl))
  f307 := Try.func130.trans (congrArg some (by kernel_rfl))
  f308 := Try.func131.trans (congrArg some (by kernel_rfl))
  f309 := Try.func132.trans (congrArg some (by kernel_rfl))
  f310 := Try.func133.trans (congrArg some (by kernel_rfl))
  f329 := Try.func114.trans (congrArg some (by kernel_rfl))
  f330 := Try.func115.trans (congrArg some (by kernel_rfl))
  f333 := Try.func138.trans (congrArg some (by kernel_rfl))
  f334 := Try.func139.trans (congrArg some (by kernel_rfl))
  f335 := Try.func140.trans (congrArg some (by kernel_rfl))
  f336 := Try.func141.trans (congrArg some (by kernel_rfl))
  f344 := Try.func143.trans (congrArg some (by kernel_rfl))
  t0 := Try.underlying0
  a0 := Try.isAgg0
  z0 := Try.sizeOf0
  v0 := Try.zeroValue0
  t3 := Try.underlying3
  a3 := Try.isAgg3
  z3 := Try.sizeOf3
  v3 := Try.zeroValue3
  t4 := Try.underlying4
  a4 := Try.isAgg4
  z4 := Try.sizeOf4
  v4 := Try.zeroValue4
  t5 := Try.underlying5
  a5 := Try.isAgg5
  z5 := Try.sizeOf5
  v5 := Try.zeroValue5
  t9 := Try.underlying9
  a9 := Try.isAgg9
  z9 := Try.sizeOf9
  v9 := Try.zeroValue9
  t31 := Try.underlying42
  a31 := Try.isAgg42
  z31 := Try.sizeOf42
  v31 := Try.zeroValue42
  t46 := Try.underlying126
  a46 := Try.isAgg126
  z46 := Try.sizeOf126
  v46 := Try.zeroValue126
  t51 := Try.underlying136
  a51 := Try.isAgg136
  z51 := Try.sizeOf136
  v51 := Try.zeroValue136
  t53 := Try.underlying164
  a53 := Try.isAgg164
  z53 := Try.sizeOf164
  v53 := Try.zeroValue164
  t131 := Try.underlying142
  a131 := Try.isAgg142
  z131 := Try.sizeOf142
  v131 := Try.zeroValue142
  t182 := Try.underlying156
  a182 := Try.isAgg156
  z182 := Try.sizeOf156
  v182 := Try.zeroValue156
  t183 := Try.underlying157
  a183 := Try.isAgg157
  z183 := Try.sizeOf157
  v183 := Try.zeroValue157
  t218 := Try.underlying179
  a218 := Try.isAgg179
  z218 := Try.sizeOf179
  v218 := Try.zeroValue179
  t222 := Try.underlying183
  a222 := Try.isAgg183
  z222 := Try.sizeOf183
  v222 := Try.zeroValue183
  t228 := Try.underlying205
  a228 := Try.isAgg205
  z228 := Try.sizeOf205
  v228 := Try.zeroValue205
  t229 := Try.underlying206
  a229 := Try.isAgg206
  z229 := Try.sizeOf206
  v229 := Try.zeroValue206 }
open Go.Sort Go.RowKit in
theorem Try.slices_Sort_string (blk off cap : Nat) (ss : List (List UInt8)) (w : World) (hH : Holds encStr w blk off ss.toArray) (hblk : blk < w.heap.size) (hsz : ss.length < 4611686018427387904) :
    Calls Try.prog 89 #[.slice (some ⟨blk, off, none⟩) ss.length cap] w fun e w' =>
      e = .returned (.tuple #[]) ∧ ∃ n os, w' = grow (putRow encStr (Sort.ahead w n) blk off (ss.mergeSort fun x y => decide (x ≤ y)).toArray) os := Any.slices_Sort_string Try.lays190 blk off cap ss w hH hblk hsz
def Try.lays109_ren : Go.Shelf.Ren := ⟨fun | 109 => 73 | n => n, fun | 31 => 42 | 9 => 9 | 3 => 3 | 0 => 0 | 4 => 4 | n => n, fun | n => n⟩
theorem Try.lays109 : Go.Proofs.Lays.n109 Try.prog Try.lays109_ren := {
  mixed := by kernel_rfl
  f109 := Try.func73.trans (congrArg some (by kernel_rfl))
  t0 := Try.underlying0
  a0 := Try.isAgg0
  z0 := Try.sizeOf0
  v0 := Try.zeroValue0
  t3 := Try.underlying3
  a3 := Try.isAgg3
  z3 := Try.sizeOf3
  v3 := Try.zeroValue3
  t4 := Try.underlying4
  a4 := Try.isAgg4
  z4 := Try.sizeOf4
  v4 := Try.zeroValue4
  t9 := Try.underlying9
  a9 := Try.isAgg9
  z9 := Try.sizeOf9
  v9 := Try.zeroValue9
  t31 := Try.underlying42
  a31 := Try.isAgg42
  z31 := Try.sizeOf42
  v31 := Try.zeroValue42 }
open Go.Lib in
/-- slices.Index at []string: "Index returns the index of the first occurrence of v in s, or -1 if not present.": IT RETURNS 'Lib.idxOfS (the elements) v'; the world is as it was. 'zs': what the cells behind the slice's address hold (its spare capacity too, if you have it); 'zs.take n': its elements. (LAID: no walk: one application.) -/
theorem Try.slices_Index_string (b off n c : Nat) (zs : List ByteArray) (x : ByteArray) (w : World) (hz : n ≤ zs.length) (hbig : n ≤ 9223372036854775807) (hc : ∀ j, j < zs.length → w.cell? ⟨b, off + j, none⟩ = some (.string (zs.getD j ByteArray.empty))) :
    Calls Try.prog 73 #[.slice (some ⟨b, off, none⟩) n c, .string x] w fun e w' => e = .returned (.int .i64 (Lib.idxOfS (zs.take n) x)) ∧ w' = w := Any.slices_Index_string Try.lays109 b off n c zs x w hz hbig hc
open Go.Lib in
/-- The same at a slice of length 0, a nil one too: no cell is known, none is asked for. (LAID: no walk: one application.) -/
theorem Try.slices_Index_string_empty (a : Option Addr) (c : Nat) (x : ByteArray) (w : World) :
    Calls Try.prog 73 #[.slice a 0 c, .string x] w fun e w' => e = .returned (.int .i64 (Lib.idxOfS [] x)) ∧ w' = w := Any.slices_Index_string_empty Try.lays109 a c x w
def Try.lays110_ren : Go.Shelf.Ren := ⟨fun | 110 => 43 | 109 => 73 | n => n, fun | 31 => 42 | 9 => 9 | 4 => 4 | 3 => 3 | 0 => 0 | n => n, fun | n => n⟩
theorem Try.lays110 : Go.Proofs.Lays.n110 Try.prog Try.lays110_ren := {
  mixed := by kernel_rfl
  f109 := Try.func73.trans (congrArg some (by kernel_rfl))
  f110 := Try.func43.trans (congrArg some (by kernel_rfl))
  t0 := Try.underlying0
  a0 := Try.isAgg0
  z0 := Try.sizeOf0
  v0 := Try.zeroValue0
  t3 := Try.underlying3
  a3 := Try.isAgg3
  z3 := Try.sizeOf3
  v3 := Try.zeroValue3
  t4 := Try.underlying4
  a4 := Try.isAgg4
  z4 := Try.sizeOf4
  v4 := Try.zeroValue4
  t9 := Try.underlying9
  a9 := Try.isAgg9
  z9 := Try.sizeOf9
  v9 := Try.zeroValue9
  t31 := Try.underlying42
  a31 := Try.isAgg42
  z31 := Try.sizeOf42
  v31 := Try.zeroValue42 }
open Go.Lib in
/-- slices.Contains at []string: "Contains reports whether v is present in s.": IT RETURNS 'Lib.containsS (the elements) v', which is true just where v is among them ('Lib.containsS_iff'); the world is as it was. ITS CALLEE slices.Index IS MET BY ITS OWN CONTRACT OFF THE SHELF (lay that first): no loop is walked here. (LAID: no walk: one application.) -/
theorem Try.slices_Contains_string (b off n c : Nat) (zs : List ByteArray) (x : ByteArray) (w : World) (hz : n ≤ zs.length) (hbig : n ≤ 9223372036854775807) (hc : ∀ j, j < zs.length → w.cell? ⟨b, off + j, none⟩ = some (.string (zs.getD j ByteArray.empty))) :
    Calls Try.prog 43 #[.slice (some ⟨b, off, none⟩) n c, .string x] w fun e w' => e = .returned (.bool (Lib.containsS (zs.take n) x)) ∧ w' = w := Any.slices_Contains_string Try.lays110 b off n c zs x w hz hbig hc
open Go.Lib in
/-- The same at a slice of length 0, a nil one too. (LAID: no walk: one application.) -/
theorem Try.slices_Contains_string_empty (a : Option Addr) (c : Nat) (x : ByteArray) (w : World) :
    Calls Try.prog 43 #[.slice a 0 c, .string x] w fun e w' => e = .returned (.bool false) ∧ w' = w := Any.slices_Contains_string_empty Try.lays110 a c x w
def Try.laysNm237_ren : Go.Shelf.Ren := ⟨fun | 37 => 69 | n => n, fun | 3 => 3 | 4 => 4 | n => n, fun | n => n⟩
theorem Try.laysNm237 : Go.Proofs.Lays2.n37 Try.prog Try.laysNm237_ren := {
  mixed := by kernel_rfl
  f37 := Try.func69.trans (congrArg some (by kernel_rfl))
  t3 := Try.underlying3
  a3 := Try.isAgg3
  z3 := Try.sizeOf3
  v3 := Try.zeroValue3
  t4 := Try.underlying4
  a4 := Try.isAgg4
  z4 := Try.sizeOf4
  v4 := Try.zeroValue4 }
open Go.RowKit Go.Lib in
/-- cmp.isNaN[int]: 'x != x': false. (LAID: no walk: one application.) -/
theorem Try.cmp_isNaN_int2 (x : Int) (w : World) :
    Calls Try.prog 69 #[.int .i64 x] w fun e w' => e = .returned (.bool false) ∧ w' = w := Any.cmp_isNaN_int2 Try.laysNm237 x w
open Go.RowKit Go.Sort in
/-- .. and plain. (LAID: no walk: one application.) -/
theorem Try.slices_Sort_string_none (p : Option Addr) (cap : Nat) (w : World) :
    Calls Try.prog 89 #[.slice p 0 cap] w fun e w' => e = .returned (.tuple #[]) ∧ w' = w := Any.slices_Sort_string_none Try.lays190 p cap w
end Go.Proofs
namespace Go.Proofs.Ythhhlaoiampinaa
open Go.RowKit
def joinL (xs : List ByteArray) (sep : ByteArray) : List UInt8 := Lib.join (xs.map sl) (sl sep)
def joinS (xs : List ByteArray) (sep : ByteArray) : ByteArray := mkS (joinL xs sep)
theorem joinS_nil (sep : ByteArray) : joinS [] sep = ByteArray.empty := rfl
theorem join_len : ∀ (xs : List (List UInt8)) (sep : List UInt8), (Lib.join xs sep).length ≤ (xs.map (fun x => x.length + sep.length)).sum
  | [], sep => by simp [Lib.join_nil]
  | x :: xs, sep => by
    have key : ∀ r : List (List UInt8), (Lib.joinTail sep r).length = (r.map (fun x => x.length + sep.length)).sum := by
      intro r
      induction r with
      | nil => rfl
      | cons y ys ih => simp only [Lib.joinTail, List.map_cons, List.flatten_cons, List.length_append, List.sum_cons] at ih ⊢; rw [ih]; omega
    rw [Lib.join_cons, List.length_append, key, List.map_cons, List.sum_cons]
    omega
theorem joinL_len (xs : List ByteArray) (sep : ByteArray) : (joinL xs sep).length ≤ (xs.map (fun x => x.size + sep.size)).sum := by
  refine Nat.le_trans (join_len _ _) (Nat.le_of_eq ?_)
  rw [List.map_map]
  exact congrArg List.sum (List.map_congr_left (fun x _ => by simp only [Function.comp, sl_len]))
theorem join_any (v : Value) (xs : List ByteArray) (sep : ByteArray) (w : World) (h : SlR w es v xs) (hx : xs.length ≤ 140737488351232) (hlen : (joinL xs sep).length ≤ 140737488351232) :
    Calls Try.prog 45 #[v, .string sep] w fun e w' => e = .returned (.string (joinS xs sep)) ∧ Below w.heap.size w w' := by
  by_cases hn : 0 < xs.length
  · obtain ⟨b, o, c, rfl, hc, hb, hcell⟩ := h.texts hn
    refine (Try.strings_Join b o c xs sep w (fun j x hj => ?_) hb (by omega) hc (by unfold joinL at hlen; exact Nat.le_trans hlen (by decide))).mono ?_
    · obtain ⟨hj1, rfl⟩ := List.getElem?_eq_some_iff.1 hj
      exact hcell j hj1
    · rintro e w' ⟨rfl, hb'⟩
      exact ⟨rfl, hb'⟩
  · have : xs = [] := List.eq_nil_of_length_eq_zero (by omega)
    subst this
    obtain ⟨A, c, rfl, hc, -⟩ := h
    refine (Try.strings_Join_none A c sep w).mono ?_
    rintro e w' ⟨rfl, rfl⟩
    exact ⟨rfl, Below.refl _ _⟩
end Go.Proofs.Ythhhlaoiampinaa
namespace Go.Proofs.Ythhhlaoiampinaa
set_option maxRecDepth 20000
open Go.RowKit Go.Shelf
theorem joinL_flat : ∀ xs : List ByteArray, joinL xs ByteArray.empty = (xs.map sl).flatten
  | [] => rfl
  | x :: xs => by
    unfold joinL
    rw [List.map_cons, Lib.join_cons, sl_empty, List.flatten_cons]
    congr 1
    unfold Lib.joinTail
    simp
    rfl
theorem map_sl_mkS (l : List (List UInt8)) : (l.map mkS).map sl = l := by
  rw [List.map_map]
  conv => rhs; rw [← List.map_id l]
  exact List.map_congr_left (fun x _ => sl_mkS x)
theorem cut_x : (Pc.cut gear (sl ⟨#[120]⟩)).length = 1 := by
  have : sl ⟨#[120]⟩ = [120] := rfl
  rw [this]
  simp [Pc.cut, Pc.cuts, Pc.ends, Pc.tl]
theorem cut_x_any (w : World) :
    Calls Try.prog 19 #[.string ⟨#[120]⟩] w fun e w' => (∃ A c, e = .returned (.slice A 1 c)) ∧ Below w.heap.size w w' := by
  refine (ckCut_any ⟨#[120]⟩ w (by decide)).mono ?_
  rintro e w' ⟨v, rfl, ho, hb⟩
  obtain ⟨A, c, hv⟩ := ho.slice
  rw [List.length_map, cut_x] at hv
  exact ⟨⟨A, c, by rw [hv]⟩, hb⟩
theorem cut_count (s : List UInt8) (h : s.length ≤ 140737488355328) : (Pc.cut gear s).length * 16 ≤ 140737488355328 := by
  have := cut_len s h
  rw [Pc.cut, List.length_append]
  exact this
end Go.Proofs.Ythhhlaoiampinaa
namespace Go.Proofs.Ythhhlaoiampinaa
set_option maxRecDepth 20000
open Go.RowKit Go.Shelf
/-- A piece's name. -/
def hxn (t : ByteArray) : ByteArray := mkS ((sl (mkS (digB (sl t)))).flatMap hexC)
theorem hxn_size (t : ByteArray) : (hxn t).size = 64 := by
  unfold hxn
  rw [mkS_size, hexC_len, sl_mkS, digB_len]
def fF (fs : List ByteArray) (k : ByteArray) : Option Value := (fs.find? (fun t => decide (hxn t = k))).map .string
theorem fF_none {fs : List ByteArray} {k : ByteArray} (h : ∀ t ∈ fs, hxn t ≠ k) : fF fs k = none := by
  unfold fF
  rw [List.find?_eq_none.2 (fun x hx => by simpa using h x hx)]
  rfl
theorem fF_some {fs : List ByteArray} {t : ByteArray} (hk : (fs.map hxn).Nodup) (ht : t ∈ fs) : fF fs (hxn t) = some (.string t) := by
  induction fs with
  | nil => cases ht
  | cons y l ih =>
    unfold fF
    rw [List.map_cons, List.nodup_cons] at hk
    rcases List.mem_cons.1 ht with rfl | hx
    · simp
    · have hne : ¬ hxn y = hxn t := fun e => hk.1 (List.mem_map.2 ⟨t, hx, e.symm⟩)
      rw [List.find?_cons_of_neg (by simpa using hne)]
      exact ih hk.2 hx
theorem fF_inv {fs : List ByteArray} {k : ByteArray} {v : Value} (h : fF fs k = some v) : ∃ t ∈ fs, hxn t = k ∧ v = .string t := by
  unfold fF at h
  cases hf : fs.find? (fun t => decide (hxn t = k)) with
  | none => rw [hf] at h; cases h
  | some t =>
    rw [hf] at h
    have h1 := List.find?_some hf
    exact ⟨t, List.mem_of_find?_eq_some hf, by simpa using h1, by simpa using h.symm⟩
theorem fF_put {fs : List ByteArray} {t : ByteArray} (h : ∀ u ∈ fs, hxn u ≠ hxn t) (k : ByteArray) : fput (fF fs) (hxn t) (.string t) k = fF (fs ++ [t]) k := by
  unfold fput
  by_cases hk : k = hxn t
  · subst hk
    rw [if_pos rfl]
    unfold fF
    rw [List.find?_append, List.find?_eq_none.2 (fun x hx => by simpa using h x hx)]
    simp
  · rw [if_neg hk]
    unfold fF
    rw [List.find?_append]
    have : ¬ hxn t = k := fun e => hk e.symm
    simp [this]
/-- What is known behind the texts ds: fs are those of them that are not in es yet. -/
structure FreshI (es : List Pe) (ds fs : List ByteArray) : Prop where
  sub : fs.Sublist ds
  nd : (fs.map hxn).Nodup
  new : ∀ t ∈ fs, ∀ x ∈ es, x.n ≠ hxn t
  all : ∀ t ∈ ds, t ∈ fs ∨ ∃ x ∈ es, x.n = hxn t ∧ x.t = t
section
variable {es : List Pe} {ds fs : List ByteArray} {t : ByteArray}
theorem FreshI.nil (es : List Pe) : FreshI es [] [] := ⟨List.Sublist.refl _, by simp, by simp, by simp⟩
theorem FreshI.old (h : FreshI es ds fs) (ht : t ∈ fs ∨ ∃ x ∈ es, x.n = hxn t ∧ x.t = t) : FreshI es (ds ++ [t]) fs :=
  ⟨h.sub.trans (List.sublist_append_left ..), h.nd, h.new, fun u hu => (List.mem_append.1 hu).elim (h.all u) fun hu => by rw [List.mem_singleton.1 hu]; exact ht⟩
theorem FreshI.add (h : FreshI es ds fs) (h1 : ∀ u ∈ fs, hxn u ≠ hxn t) (h2 : ∀ x ∈ es, x.n ≠ hxn t) : FreshI es (ds ++ [t]) (fs ++ [t]) := by
  refine ⟨h.sub.append (List.Sublist.refl _), ?_, fun u hu => ?_, fun u hu => ?_⟩
  · rw [List.map_append, List.nodup_append]
    refine ⟨h.nd, by simp, fun a ha b hb => ?_⟩
    obtain ⟨u, hu, rfl⟩ := List.mem_map.1 ha
    simp only [List.map_cons, List.map_nil, List.mem_singleton] at hb
    rw [hb]
    exact h1 u hu
  · rcases List.mem_append.1 hu with hu | hu
    · exact h.new u hu
    · rw [List.mem_singleton.1 hu]; exact h2
  · rcases List.mem_append.1 hu with hu | hu
    · exact (h.all u hu).imp (fun hm => List.mem_append_left _ hm) id
    · rw [List.mem_singleton.1 hu]; exact .inl (by simp)
theorem size_mem_sum {l : List ByteArray} : t ∈ l → t.size ≤ (l.map (·.size)).sum := by
  induction l with
  | nil => intro h; cases h
  | cons y l ih =>
    intro h
    rw [List.map_cons, List.sum_cons]
    rcases List.mem_cons.1 h with rfl | h
    · omega
    · have := ih h; omega
theorem sub_sum {a b : List ByteArray} (h : a.Sublist b) : (a.map (·.size)).sum ≤ (b.map (·.size)).sum := by
  induction h with
  | slnil => simp
  | cons x _ ih => rw [List.map_cons, List.sum_cons]; omega
  | cons_cons x _ ih => rw [List.map_cons, List.map_cons, List.sum_cons, List.sum_cons]; omega
end
/-- How often a name is among the texts' names. -/
def cntN (ds : List ByteArray) (n : ByteArray) : Nat := (ds.filter fun t => decide (hxn t = n)).length
def inc (ds : List ByteArray) (es : List Pe) : List Pe := es.map fun x => { x with c := x.c + (cntN ds x.n : Int) }
theorem cntN_snoc (ds : List ByteArray) (t n : ByteArray) : cntN (ds ++ [t]) n = cntN ds n + (if hxn t = n then 1 else 0) := by
  unfold cntN
  rw [List.filter_append, List.length_append]
  congr 1
  by_cases h : hxn t = n <;> simp [h]
theorem inc_nil (es : List Pe) : inc [] es = es := by
  unfold inc cntN
  simp
theorem inc_n (ds : List ByteArray) (es : List Pe) : (inc ds es).map (·.n) = es.map (·.n) := by simp [inc]
theorem inc_b (ds : List ByteArray) (es : List Pe) : (inc ds es).map (·.b) = es.map (·.b) := by simp [inc]
theorem inc_t (ds : List ByteArray) (es : List Pe) : (inc ds es).map (·.t) = es.map (·.t) := by simp [inc]
theorem usedP_t (es : List Pe) : usedP es = ((es.map (·.t)).map fun t => (t.size : Int)).sum := by simp [usedP, Function.comp_def]
theorem usedP_inc (ds : List ByteArray) (es : List Pe) : usedP (inc ds es) = usedP es := by rw [usedP_t, usedP_t, inc_t]
theorem usedP_app (a b : List Pe) : usedP (a ++ b) = usedP a + usedP b := by simp [usedP]
theorem pF_inc (ds : List ByteArray) (es : List Pe) (k : ByteArray) : pF (inc ds es) k = pF es k := by
  induction es with
  | nil => rfl
  | cons y l ih =>
    unfold pF inc at *
    rw [List.map_cons]
    by_cases h : y.n = k
    · simp [h]
    · rw [List.find?_cons_of_neg (by simpa using h), List.find?_cons_of_neg (by simpa using h)]
      exact ih
/-- What Put leaves behind: ds the texts that were put. -/
def PutRes (es : List Pe) (ds : List ByteArray) (es' : List Pe) : Prop :=
  ∃ new fs, FreshI es ds fs ∧ (new.map (·.t)).Perm fs ∧ (∀ x ∈ new, x.n = hxn x.t ∧ x.c = 0) ∧ es' = inc ds (es ++ new)
end Go.Proofs.Ythhhlaoiampinaa
namespace Go.Proofs.Ythhhlaoiampinaa
set_option maxRecDepth 20000
open Go.RowKit Go.Shelf
attribute [local go_sem] Oper.semAt_some
/-- A round, whose body goes off its end or is left by a break. -/
theorem yieldB_of {F : Fence} {m D : Nat} {P : Program} {rec : Loop} {W : World} {args : Array Value} {R : Ending → World → Prop} (a₁ : Act) (hF : F.fn rec.fn) (hl : W.heap[D]? = some (.loop rec)) (hr : rec.state = .ready) (hp : rec.pending = none) (hs : args.size = rec.params.size)
    (hassign : ∀ K : Act → World → Prop, K a₁ W → rec.assign.wpIn (F.inRound D) m P (Exit.then K (fun _ _ _ => False)) { tmps := (rec.params.zip args).foldl (fun tmps (t, a) => tmps.setIfInBounds t a) rec.tmps, defers := [] } W)
    (hbody : rec.body.wpIn (F.inRound D) m P (fun e _ W3 => W3.heap[D]? = some (.loop { rec with state := .busy }) ∧ ((e = .normal ∧ R (.returned (.bool true)) (W3.putObj D (.loop rec))) ∨ ∃ id, e = .exit id ∧ R (.returned (.bool false)) (W3.putObj D (.loop { rec with state := .done, pending := some (.exit id) })))) a₁ (W.putObj D (.loop { rec with state := .busy }))) :
    YieldAt F m P D args W R := by
  refine ⟨rec.fn, _, rec.assign, rec.body, run_yield hl hs, roundIn_of_wpIn hF (wpIn_mono (hassign (fun a1 w1 => w1.heap[D]? = some (.loop rec) ∧ rec.body.wpIn (F.inRound D) m P (fun e _ W3 => W3.heap[D]? = some (.loop { rec with state := .busy }) ∧ ((e = .normal ∧ R (.returned (.bool true)) (W3.putObj D (.loop rec))) ∨ ∃ id, e = .exit id ∧ R (.returned (.bool false)) (W3.putObj D (.loop { rec with state := .done, pending := some (.exit id) })))) a1 (w1.putObj D (.loop { rec with state := .busy }))) ⟨hl, hbody⟩) ?_)⟩
  rintro e a1 w1 hq
  cases e with
  | normal =>
    obtain ⟨h1, h2⟩ := hq
    refine ⟨_, run_beginRound h1 hr, wpIn_mono h2 ?_⟩
    rintro e2 a2 w2 ⟨h3, h4⟩
    rcases h4 with ⟨rfl, h4⟩ | ⟨id, rfl, h4⟩
    · refine ⟨_, _, run_endRound none h3, ?_⟩
      have e : ({ { rec with state := LoopState.busy } with state := if (none : Option Code).isNone then LoopState.ready else LoopState.done, pending := none } : Loop) = rec := by
        obtain ⟨s, p, f, t, ps, asg, b, d⟩ := rec
        simp only at hr hp
        subst hr hp
        rfl
      rw [e]
      exact h4
    · exact ⟨_, _, run_endRound (some (.exit id)) h3, h4⟩
  | _ => exact hq.elim
/-- 'for .. := range f' over a method's value or a closure: the record laid, the iterator called; what hangs over. -/
theorem wpIn_rangeFunc_out {F : Fence} {n : Nat} {P : Program} {g : Operand} {ps : Array Tmp} {assign body : Code} {Q : Exit → Act → World → Prop} {a : Act} {w : World}
    (hro : F.round = none) (h1 : 1 ≤ n) {gf : Nat} {fs lb : Array Value} (hg : a.eval g = .func (.func gf) fs lb) (hFg : F.fn gf) (eg : ∀ args w, (callFunc gf args).run P w = .ok (.enter gf args) w)
    (h : ∀ rec : Loop, F.fn rec.fn → rec.state = .ready → rec.pending = none → rec.tmps = a.tmps → rec.params = ps → rec.assign = assign → rec.body = body →
      CallsIn F (n - 1) P gf (fs ++ #[.func (.yield (w.heap.size + 1)) #[] #[]] ++ lb) ((w.alloc (.deferred (some []))).alloc (.loop rec)) fun e W2 => (∃ v, e = .returned v) ∧ ∃ st pd, W2.heap[w.heap.size + 1]? = some (.loop { rec with state := st, pending := pd }) ∧ st ≠ .busy ∧
        (match pd with
          | none => Q .normal { a with defers := { target := .collected w.heap.size, args := #[] } :: a.defers } (W2.putObj (w.heap.size + 1) (.loop { rec with state := .exhausted, pending := none }))
          | some c => c.wpIn F n P Q { a with defers := { target := .collected w.heap.size, args := #[] } :: a.defers } (W2.putObj (w.heap.size + 1) (.loop { rec with state := .exhausted, pending := some c })))) :
    (Code.rangeFunc g ps assign body).wpIn F n P Q a w := by
  refine wpIn_rangeFunc ?_
  intro fn hfn
  rw [hro]
  obtain ⟨rec, hrec⟩ : ∃ rec : Loop, rec = { state := .ready, pending := none, fn, tmps := a.tmps, params := ps, assign, body, defers := w.heap.size } := ⟨_, rfl⟩
  refine ⟨w.heap.size + 1, [{ target := .collected w.heap.size, args := #[] }], (w.alloc (.deferred (some []))).alloc (.loop rec), { target := .fn (.func gf) lb, args := fs ++ #[.func (.yield (w.heap.size + 1)) #[] #[]] }, (w.alloc (.deferred (some []))).alloc (.loop rec), gf,
    fs ++ #[.func (.yield (w.heap.size + 1)) #[] #[]] ++ lb, (w.alloc (.deferred (some []))).alloc (.loop rec), ?_, ?_, ?_, ?_, fun _ => h1, ?_⟩
  · rw [hrec]; exact run_enterLoop_outer _ _ _ _ _
  · simp only [resolve, hg]
    simp [go_sem]
  · intro f' hf'; simp [Target.leads] at hf'; subst hf'; exact hFg
  · simp [invoke, go_sem, eg]
  · refine (h rec (by rw [hrec]; exact hfn) (by rw [hrec]) (by rw [hrec]) (by rw [hrec]) (by rw [hrec]) (by rw [hrec]) (by rw [hrec])).mono ?_
    rintro e W2 ⟨⟨v, rfl⟩, st, pd, hl, hst, hq⟩
    have := run_endLoop (P := P) hl hst
    cases pd with
    | none => exact ⟨none, _, this, hq⟩
    | some c => exact ⟨some c, _, this, hq⟩
end Go.Proofs.Ythhhlaoiampinaa
namespace Go.Proofs.Ythhhlaoiampinaa
set_option maxRecDepth 20000
open Go.RowKit Go.Shelf
attribute [local go_sem] Oper.semAt_some
/-- The block of the first, or of the root. -/
def hdB (ns : List Nd) (c : Nat) : Nat := match ns with | [] => c | x :: _ => x.1
theorem neq_other (W : World) {a b : Nat} {ca cb : Array Value} {ta tb : TypeId} (ha : Blk W a ta ca) (hb : Blk W b tb cb) (hne : a ≠ b) : (binOp .neq 148 (ptr a) (.pointer (some ⟨b, 0, none⟩))).run Try.prog W = .ok (.bool true) W := by
  obtain ⟨j, hj, hz⟩ : ∃ j, Try.prog.info? 150 = some j ∧ j.size ≠ 0 := by
    have h : ((Try.prog.info? 150).map fun j => decide (j.size ≠ 0)) = some true := by kernel_rfl
    cases hq : Try.prog.info? 150 with
    | none => rw [hq] at h; cases h
    | some j => rw [hq] at h; exact ⟨j, rfl, by simpa using h⟩
  have h : ∀ d : Nat, (Op.equalIn (d + 1) 148 (.pointer (some ⟨a, 0, none⟩)) (.pointer (some ⟨b, 0, none⟩))).run Try.prog W = .ok false W := fun d => by
    simp [Op.equalIn, run_underlying Try.underlying148, sizeOf, typeInfo, hj, hz, run_sameAddr_other W (a := ⟨a, 0, none⟩) (b := ⟨b, 0, none⟩) (by intro e; injection e with e; exact hne e) ha hb]
  simp only [binOp]
  simp [Op.equal, Op.maxDepth, h 9999]
theorem neq_same (W : World) (a : Nat) : (binOp .neq 148 (ptr a) (.pointer (some ⟨a, 0, none⟩))).run Try.prog W = .ok (.bool false) W := by
  obtain ⟨j, hj⟩ : ∃ j, Try.prog.info? 150 = some j := by
    have h : (Try.prog.info? 150).isSome = true := by kernel_rfl
    exact Option.isSome_iff_exists.1 h
  exact Lib.run_neq_ptr_same W ⟨a, 0, none⟩ Try.underlying148 hj
set_option maxHeartbeats 1000000 in
theorem all_in (n c D : Nat) (I : List Nd → World → Prop) (J : World → Prop) (μ : World → Nat) (hn : 1 ≤ n)
    (hμ : ∀ rest W, I rest W → μ W = rest.length) (hdrew : ∀ rest W, I rest W → I rest W.drew)
    (hkey : ∀ x rest W, I (x :: rest) W → NodeB W x ∧ x.1 ≠ c ∧ ∃ mb, RootB W c mb)
    (hround : ∀ x rest W, I (x :: rest) W → YieldAt Fence.wide (n - 1) Try.prog D #[.string x.2.1] W fun e W' => (e = .returned (.bool true) ∧ I rest W' ∧ W'.cell? ⟨x.1, 3, none⟩ = some (ptr (hdB rest c))) ∨ (e = .returned (.bool false) ∧ J W'))
    (hend : ∀ W, I [] W → J W) (ns : List Nd) (w : World) (h : I ns w) (h3 : w.cell? ⟨c, 3, none⟩ = some (ptr (hdB ns c))) :
    CallsIn Fence.wide n Try.prog 63 #[ptr c, .func (.yield D) #[] #[]] w fun e w' => (∃ v, e = .returned v) ∧ J w' := by
  have HM := Lib.hid hμ
  have HD := Lib.hid hdrew
  have HK := Lib.hid hkey
  have HR := Lib.hid hround
  have HE := Lib.hid hend
  clear hμ hdrew hkey hround hend
  refine callsIn_of_wp Try.func63 rfl trivial ?_ rfl
  simp only [Try.ntmps63, List.size_toArray, List.length_cons, List.length_nil, Nat.reduceAdd, Nat.reduceSub, Array.replicate_succ, Array.replicate_zero, List.push_toArray, List.append_toArray, List.nil_append, List.cons_append]
  gi_wp2
  gi_loopw [4] (fun t wr => ∃ rest, t = ptr (hdB rest c) ∧ I rest wr) (fun _ wr => μ wr)
  case atStart => exact ⟨ns, rfl, h⟩
  case round =>
    obtain ⟨rest, rfl, hI⟩ := hrel
    clear h3 h
    cases rest with
    | nil =>
      have HI := Lib.hid hI
      clear hI
      have kcmp := neq_same wr c
      show Code.wpIn _ _ _ _ _ { tmps := #[ptr c, .func (.yield D) #[] #[], undef, undef, ptr c, _, _, _, _, _, _, _, _, _, _, _, _, _, _, _, _, _, _, _, _, _], defers := [] } _
      gi_wp2
      exact Great.bodyPost_end0 rfl rfl ⟨⟨_, rfl⟩, HE.out _ HI.out⟩
    | cons x rest =>
      obtain ⟨⟨_, _, kb⟩, kne, mb, ⟨_, _, kr⟩⟩ := HK.out x rest _ hI
      have k0 := kb.cell 0
      have kcmp := neq_other wr kb kr kne
      obtain ⟨fn, tmps, assign, body, hy, hR⟩ := HR.out x rest _ hI
      have HI := Lib.hid hI
      clear hI
      clear kb kr kne
      show Code.wpIn _ _ _ _ _ { tmps := #[ptr c, .func (.yield D) #[] #[], undef, undef, ptr x.1, _, _, _, _, _, _, _, _, _, _, _, _, _, _, _, _, _, _, _, _, _], defers := [] } _
      gi_wp2
      refine hR.mono ?_
      rintro e W5 (⟨rfl, hI5, h35⟩ | ⟨rfl, hJ⟩)
      · have HI5 := Lib.hid hI5
        clear hI5 kcmp hy hR
        gi_wp2
        go_roundw
        case rel => exact ⟨rest, rfl, HI5.out⟩
        case measure => rw [HM.out _ _ HI5.out, HM.out _ _ HI.out]; exact Nat.lt_succ_self _
      · clear kcmp hy hR
        have HJ := Lib.hid hJ
        clear hJ
        gi_wp2
        exact bodyPost_ret (v := .tuple #[]) (by kernel_rfl) rfl ⟨⟨_, rfl⟩, HJ.out⟩
end Go.Proofs.Ythhhlaoiampinaa
