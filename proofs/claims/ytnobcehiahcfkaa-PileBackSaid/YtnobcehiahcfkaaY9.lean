/-
  DERIVED: THE SHELF's CONTRACTS AT THIS DUMP, IN PLAIN WORDS (tools/lay-plain.mjs out of 'TryShelf.lean', which tools/lay-shelf.mjs wrote): THE SAME DECLARATIONS UNDER THE SAME NAMES: 'import', 'namespace', 'open', 'def', 'theorem' AND NOTHING ELSE: no command of the shelf's: FOR A HAND-IN. Each laying: the table of numbers ('.._ren') and one theorem, a field a fact of the dump's own or the kernel's comparison; each contract: ONE APPLICATION.
-/
import Derived.Shelf.Strings.Builder1
import Derived.Shelf.Strings.Builder2
import Derived.Shelf.Strings.OnBuilder
import Derived.Shelf.Strings.BuilderF
import Derived.Shelf.Strings.BuilderK
import Derived.Shelf.Strings.Builder2Cap
import Derived.Shelf.Strings.BuilderCap
import Derived.Test.YtnobcehiahcfkaaProg
import Derived.Test.YtnobcehiahcfkaaY0
import Derived.Lib.Join
import Derived.Test.YtnobcehiahcfkaaY8
import Derived.Test.YtnobcehiahcfkaaY2
import Derived.RangeFuncNested
import Derived.RangeFuncBound
import Derived.RangeFuncCalls
import Derived.RangeFuncLeaves
import Derived.Shelf.Abstract
import Derived.Shelf.RegionOpen
import Derived.WalkKit
import Derived.OwnWalkIn
import Derived.TacticsInMore
import Derived.LoopNIn
import Derived.LoopIn
import Derived.LaidEqlPtr
import Derived.Lib.Builder
import Derived.Test.YtnobcehiahcfkaaY3
namespace Go.Proofs
open Go.Shelf
def Try.lays169_ren : Go.Shelf.Ren := ⟨fun | 169 => 46 | n => n, fun | 70 => 77 | 9 => 9 | 0 => 0 | 72 => 80 | 37 => 78 | 127 => 117 | 3 => 3 | 5 => 5 | n => n, fun | n => n⟩
theorem Try.lays169 : Go.Proofs.Lays.n169 Try.prog Try.lays169_ren := {
  mixed := by kernel_rfl
  f169 := Try.func46.trans (congrArg some (by kernel_rfl))
  t0 := Try.underlying0
  a0 := Try.isAgg0
  z0 := Try.sizeOf0
  v0 := Try.zeroValue0
  t3 := Try.underlying3
  a3 := Try.isAgg3
  z3 := Try.sizeOf3
  v3 := Try.zeroValue3
  t9 := Try.underlying9
  a9 := Try.isAgg9
  z9 := Try.sizeOf9
  v9 := Try.zeroValue9
  t37 := Try.underlying78
  a37 := Try.isAgg78
  z37 := Try.sizeOf78
  v37 := Try.zeroValue78
  t70 := Try.underlying77
  a70 := Try.isAgg77
  z70 := Try.sizeOf77
  v70 := Try.zeroValue77
  t72 := Try.underlying80
  a72 := Try.isAgg80
  z72 := Try.sizeOf80
  v72 := Try.zeroValue80
  t127 := Try.underlying117
  a127 := Try.isAgg117
  z127 := Try.sizeOf117
  v127 := Try.zeroValue117 }
theorem Try.Builder_Extra_169 : Builder.Extra Try.prog Try.lays169_ren := {
  sizeBuilder := by kernel_rfl
  liesBuilder := by kernel_rfl
  t5 := Try.underlying5
  a5 := Try.isAgg5
  z5 := Try.sizeOf5
  v5 := Try.zeroValue5
  infoByte := by kernel_rfl
  cellsByte := by kernel_rfl
  sizeByte := by kernel_rfl
  neB5 := by decide }
open Go.RowKit in
/-- (*strings.Builder).String: "String returns the accumulated string.": OF A BUILDER THAT HOLDS AT LEAST ONE BYTE. ✋ THE MODEL FREEZES THOSE BYTES IN THE BUFFER (unsafe.String): a later write INTO them ends the model's run without an answer; a later append BEHIND them goes on. The statement's order of evaluation is drawn: one draw. (LAID: no walk: one application.) -/
theorem Try.Builder_String (B b : Nat) (l : List UInt8) (w : World) (h : Lib.IsBuilder 80 5 B b (Lib.byteCells l) w) (h0 : l ≠ []) :
    Calls Try.prog 46 #[.pointer (some ⟨b, 0, none⟩)] w fun e w' => e = .returned (.string ⟨l.toArray⟩) ∧ Below B w w' := Any.Builder_String Try.lays169 Try.Builder_Extra_169 B b l w h h0
open Go.RowKit in
/-- (*strings.Builder).String OF A BUILDER THAT HOLDS NO BYTE: the empty string. (Its buffer is nil, or a row of which it has taken nothing yet; where that row has NO capacity the model lays one new block for unsafe.SliceData's 'some address'.) One draw. (LAID: no walk: one application.) -/
theorem Try.Builder_String_empty (B b : Nat) (w : World) (h : Lib.IsBuilder 80 5 B b [] w) (hBw : B ≤ w.heap.size) :
    Calls Try.prog 46 #[.pointer (some ⟨b, 0, none⟩)] w fun e w' => e = .returned (.string ⟨#[]⟩) ∧ Below B w w' := Any.Builder_String_empty Try.lays169 Try.Builder_Extra_169 B b w h hBw
open Go.RowKit in
/-- (*strings.Builder).String: "String returns the accumulated string.": WHATEVER THE BUILDER HOLDS. (LAID: no walk: one application.) -/
theorem Try.Builder_String_any (B b : Nat) (l : List UInt8) (w : World) (h : Lib.IsBuilder 80 5 B b (Lib.byteCells l) w) (hBw : B ≤ w.heap.size) :
    Calls Try.prog 46 #[.pointer (some ⟨b, 0, none⟩)] w fun e w' => e = .returned (.string ⟨l.toArray⟩) ∧ Below B w w' := Any.Builder_String_any Try.lays169 Try.Builder_Extra_169 B b l w h hBw
def Try.lays241_ren : Go.Shelf.Ren := ⟨fun | 241 => 55 | 277 => 62 | n => n, fun | 70 => 77 | 3 => 3 | 0 => 0 | 72 => 80 | 37 => 78 | 5 => 5 | n => n, fun | n => n⟩
theorem Try.lays241 : Go.Proofs.Lays.n241 Try.prog Try.lays241_ren := {
  mixed := by kernel_rfl
  f241 := Try.func55.trans (congrArg some (by kernel_rfl))
  f277 := Try.func62.trans (congrArg some (by kernel_rfl))
  t0 := Try.underlying0
  a0 := Try.isAgg0
  z0 := Try.sizeOf0
  v0 := Try.zeroValue0
  t3 := Try.underlying3
  a3 := Try.isAgg3
  z3 := Try.sizeOf3
  v3 := Try.zeroValue3
  t37 := Try.underlying78
  a37 := Try.isAgg78
  z37 := Try.sizeOf78
  v37 := Try.zeroValue78
  t70 := Try.underlying77
  a70 := Try.isAgg77
  z70 := Try.sizeOf77
  v70 := Try.zeroValue77
  t72 := Try.underlying80
  a72 := Try.isAgg80
  z72 := Try.sizeOf80
  v72 := Try.zeroValue80 }
theorem Try.Builder_Extra_241 : Builder.Extra Try.prog Try.lays241_ren := {
  sizeBuilder := by kernel_rfl
  liesBuilder := by kernel_rfl
  t5 := Try.underlying5
  a5 := Try.isAgg5
  z5 := Try.sizeOf5
  v5 := Try.zeroValue5
  infoByte := by kernel_rfl
  cellsByte := by kernel_rfl
  sizeByte := by kernel_rfl
  neB5 := by decide }
open Go.RowKit in
/-- (*strings.Builder).grow (no doc but "grow copies the buffer to a new, larger buffer so that there are at least n bytes of capacity beyond len(b.buf)."): AT A BUILDER WITHOUT A BUFFER: a new row of whatever bytes for its buffer, none of them its own yet. Three draws. (LAID: no walk: one application.) -/
theorem Try.Builder_grow_fresh (B b n : Nat) (w : World) (hB : B ≤ b) (hbk : w.heap[b]? = some (.cells #[.pointer (some ⟨b, 0, none⟩), .slice none 0 0] 80 (0, 0))) (hBw : B ≤ w.heap.size) (hn : n ≤ 281474976710656) :
    Calls Try.prog 55 #[.pointer (some ⟨b, 0, none⟩), .int .i64 n] w fun e w' => e = .returned (.tuple #[]) ∧ (Lib.BuilderAt 80 5 B b (.pointer (some ⟨b, 0, none⟩)) [] w' ∧ Below B w w') := Any.Builder_grow_fresh Try.lays241 Try.Builder_Extra_241 B b n w hB hbk hBw hn
def Try.lays165_ren : Go.Shelf.Ren := ⟨fun | 165 => 44 | 240 => 54 | 241 => 55 | 276 => 61 | 277 => 62 | n => n, fun | 70 => 77 | 3 => 3 | 0 => 0 | 4 => 4 | 9 => 9 | 20 => 20 | 72 => 80 | 37 => 78 | 164 => 135 | 5 => 5 | n => n, fun | n => n⟩
theorem Try.lays165 : Go.Proofs.Lays.n165 Try.prog Try.lays165_ren := {
  mixed := by kernel_rfl
  f165 := Try.func44.trans (congrArg some (by kernel_rfl))
  f240 := Try.func54.trans (congrArg some (by kernel_rfl))
  f241 := Try.func55.trans (congrArg some (by kernel_rfl))
  f276 := Try.func61.trans (congrArg some (by kernel_rfl))
  f277 := Try.func62.trans (congrArg some (by kernel_rfl))
  t0 := Try.underlying0
  a0 := Try.isAgg0
  z0 := Try.sizeOf0
  v0 := Try.zeroValue0
  t3 := Try.underlying3
  a3 := Try.isAgg3
  z3 := Try.sizeOf3
  v3 := Try.zeroValue3
  t4 := Try.underlying4
  a4 := Try.isAgg4
  z4 := Try.sizeOf4
  v4 := Try.zeroValue4
  t9 := Try.underlying9
  a9 := Try.isAgg9
  z9 := Try.sizeOf9
  v9 := Try.zeroValue9
  t20 := Try.underlying20
  a20 := Try.isAgg20
  z20 := Try.sizeOf20
  v20 := Try.zeroValue20
  t37 := Try.underlying78
  a37 := Try.isAgg78
  z37 := Try.sizeOf78
  v37 := Try.zeroValue78
  t70 := Try.underlying77
  a70 := Try.isAgg77
  z70 := Try.sizeOf77
  v70 := Try.zeroValue77
  t72 := Try.underlying80
  a72 := Try.isAgg80
  z72 := Try.sizeOf80
  v72 := Try.zeroValue80
  t164 := Try.underlying135
  a164 := Try.isAgg135
  z164 := Try.sizeOf135
  v164 := Try.zeroValue135 }
theorem Try.Builder_Extra_165 : Builder.Extra Try.prog Try.lays165_ren := {
  sizeBuilder := by kernel_rfl
  liesBuilder := by kernel_rfl
  t5 := Try.underlying5
  a5 := Try.isAgg5
  z5 := Try.sizeOf5
  v5 := Try.zeroValue5
  infoByte := by kernel_rfl
  cellsByte := by kernel_rfl
  sizeByte := by kernel_rfl
  neB5 := by decide }
open Go.RowKit in
/-- (*strings.Builder).Grow AT A BUILDER THAT HAS NOT BEEN WRITTEN ('var b strings.Builder; b.Grow(n)'): "Grow grows b's capacity, if necessary, to guarantee space for another n bytes.": it holds no byte behind it as before it. (LAID: no walk: one application.) -/
theorem Try.Builder_Grow_fresh (B b n : Nat) (w : World) (hB : B ≤ b) (hbk : w.heap[b]? = some (.cells #[.pointer none, .slice none 0 0] 80 (0, 0))) (hBw : B ≤ w.heap.size) (hn : n ≤ 281474976710656) :
    Calls Try.prog 44 #[.pointer (some ⟨b, 0, none⟩), .int .i64 n] w fun e w' => e = .returned (.tuple #[]) ∧ (Lib.BuilderAt 80 5 B b (.pointer (some ⟨b, 0, none⟩)) [] w' ∧ Below B w w') := Any.Builder_Grow_fresh Try.lays165 Try.Builder_Extra_165 B b n w hB hbk hBw hn
def Try.lays156_ren : Go.Shelf.Ren := ⟨fun | 156 => 18 | 165 => 44 | 166 => 45 | 169 => 46 | 240 => 54 | 241 => 55 | 276 => 61 | 277 => 62 | n => n, fun | 31 => 24 | 9 => 9 | 3 => 3 | 4 => 4 | 0 => 0 | 20 => 20 | 72 => 80 | 76 => 84 | 70 => 77 | 37 => 78 | 75 => 83 | 127 => 117 | 164 => 135 | 5 => 5 | 80 => 53 | n => n, fun | n => n⟩
theorem Try.lays156 : Go.Proofs.Lays.n156 Try.prog Try.lays156_ren := {
  mixed := by kernel_rfl
  f156 := Try.func18.trans (congrArg some (by kernel_rfl))
  f165 := Try.func44.trans (congrArg some (by kernel_rfl))
  f166 := Try.func45.trans (congrArg some (by kernel_rfl))
  f169 := Try.func46.trans (congrArg some (by kernel_rfl))
  f240 := Try.func54.trans (congrArg some (by kernel_rfl))
  f241 := Try.func55.trans (congrArg some (by kernel_rfl))
  f276 := Try.func61.trans (congrArg some (by kernel_rfl))
  f277 := Try.func62.trans (congrArg some (by kernel_rfl))
  t0 := Try.underlying0
  a0 := Try.isAgg0
  z0 := Try.sizeOf0
  v0 := Try.zeroValue0
  t3 := Try.underlying3
  a3 := Try.isAgg3
  z3 := Try.sizeOf3
  v3 := Try.zeroValue3
  t4 := Try.underlying4
  a4 := Try.isAgg4
  z4 := Try.sizeOf4
  v4 := Try.zeroValue4
  t9 := Try.underlying9
  a9 := Try.isAgg9
  z9 := Try.sizeOf9
  v9 := Try.zeroValue9
  t20 := Try.underlying20
  a20 := Try.isAgg20
  z20 := Try.sizeOf20
  v20 := Try.zeroValue20
  t31 := Try.underlying24
  a31 := Try.isAgg24
  z31 := Try.sizeOf24
  v31 := Try.zeroValue24
  t37 := Try.underlying78
  a37 := Try.isAgg78
  z37 := Try.sizeOf78
  v37 := Try.zeroValue78
  t70 := Try.underlying77
  a70 := Try.isAgg77
  z70 := Try.sizeOf77
  v70 := Try.zeroValue77
  t72 := Try.underlying80
  a72 := Try.isAgg80
  z72 := Try.sizeOf80
  v72 := Try.zeroValue80
  t75 := Try.underlying83
  a75 := Try.isAgg83
  z75 := Try.sizeOf83
  v75 := Try.zeroValue83
  t76 := Try.underlying84
  a76 := Try.isAgg84
  z76 := Try.sizeOf84
  v76 := Try.zeroValue84
  t127 := Try.underlying117
  a127 := Try.isAgg117
  z127 := Try.sizeOf117
  v127 := Try.zeroValue117
  t164 := Try.underlying135
  a164 := Try.isAgg135
  z164 := Try.sizeOf135
  v164 := Try.zeroValue135 }
theorem Try.Builder_Extra_156 : Builder.Extra Try.prog Try.lays156_ren := {
  sizeBuilder := by kernel_rfl
  liesBuilder := by kernel_rfl
  t5 := Try.underlying5
  a5 := Try.isAgg5
  z5 := Try.sizeOf5
  v5 := Try.zeroValue5
  infoByte := by kernel_rfl
  cellsByte := by kernel_rfl
  sizeByte := by kernel_rfl
  neB5 := by decide }
open Go.RowKit in
/-- No element: the empty string; the world is as it was. (Whatever the slice's address and capacity: a nil slice too.) (LAID: no walk: one application.) -/
theorem Try.strings_Join_none (a : Option Addr) (c : Nat) (sep : ByteArray) (w : World) :
    Calls Try.prog 18 #[.slice a 0 c, .string sep] w fun e w' => e = .returned (.string ⟨#[]⟩) ∧ w' = w := Any.strings_Join_none Try.lays156 Try.Builder_Extra_156 a c sep w
open Go.RowKit in
/-- strings.Join: "Join concatenates the elements of its first argument to create a single string. The separator string sep is placed between elements in the resulting string.": HOWEVER MANY ELEMENTS. Below the heap's end the world is as it was. (LAID: no walk: one application.) -/
theorem Try.strings_Join (bk o c : Nat) (xs : List ByteArray) (sep : ByteArray) (w : World) (hcells : ∀ (j : Nat) x, xs[j]? = some x → w.cell? ⟨bk, o + j, none⟩ = some (.string x)) (hbk : bk < w.heap.size) (hN : xs.length ≤ 140737488355328) (hcap : xs.length ≤ c) (hlen : (Lib.join (xs.map (·.data.toList)) sep.data.toList).length ≤ 140737488355328) :
    Calls Try.prog 18 #[.slice (some ⟨bk, o, none⟩) xs.length c, .string sep] w fun e w' => e = .returned (.string ⟨(Lib.join (xs.map (·.data.toList)) sep.data.toList).toArray⟩) ∧ Below w.heap.size w w' := Any.strings_Join Try.lays156 Try.Builder_Extra_156 bk o c xs sep w hcells hbk hN hcap hlen
open Go.RowKit in
/-- (*strings.Builder).String: "String returns the accumulated string.": OF A BUILDER THAT HOLDS AT LEAST ONE BYTE. ✋ THE MODEL FREEZES THOSE BYTES IN THE BUFFER (unsafe.String): a later write INTO them ends the model's run without an answer; a later append BEHIND them goes on. The statement's order of evaluation is drawn: one draw. THE FORM '_f': IT SAYS BESIDES THAT THE BUILDER IS A BUILDER STILL ('Lib.IsBuilderF', the same bytes): SO IT CAN BE WRITTEN ON: 'b.WriteString(b.String()[:k])'. (LAID: no walk: one application.) -/
theorem Try.Builder_String_f (B b : Nat) (l : List UInt8) (w : World) (h : Lib.IsBuilderF 80 5 B b (Lib.byteCells l) w) (h0 : l ≠ []) :
    Calls Try.prog 46 #[.pointer (some ⟨b, 0, none⟩)] w fun e w' => e = .returned (.string ⟨l.toArray⟩) ∧ (Lib.IsBuilderF 80 5 B b (Lib.byteCells l) w' ∧ Below B w w') := Any.Builder_String_f Try.lays169 Try.Builder_Extra_169 B b l w h h0
open Go.RowKit in
/-- (*strings.Builder).String OF A BUILDER THAT HOLDS NO BYTE: the empty string; THE FORM '_f': a builder still. (LAID: no walk: one application.) -/
theorem Try.Builder_String_empty_f (B b : Nat) (w : World) (h : Lib.IsBuilderF 80 5 B b [] w) (hBw : B ≤ w.heap.size) :
    Calls Try.prog 46 #[.pointer (some ⟨b, 0, none⟩)] w fun e w' => e = .returned (.string ⟨#[]⟩) ∧ (Lib.IsBuilderF 80 5 B b [] w' ∧ Below B w w') := Any.Builder_String_empty_f Try.lays169 Try.Builder_Extra_169 B b w h hBw
open Go.RowKit in
/-- (*strings.Builder).String: "String returns the accumulated string.": WHATEVER THE BUILDER HOLDS; THE FORM '_f': OF A BUILDER THAT MAY HAVE BEEN READ BEFORE; AND IT IS A BUILDER STILL, holding the same bytes: it can be written on. (LAID: no walk: one application.) -/
theorem Try.Builder_String_any_f (B b : Nat) (l : List UInt8) (w : World) (h : Lib.IsBuilderF 80 5 B b (Lib.byteCells l) w) (hBw : B ≤ w.heap.size) :
    Calls Try.prog 46 #[.pointer (some ⟨b, 0, none⟩)] w fun e w' => e = .returned (.string ⟨l.toArray⟩) ∧ (Lib.IsBuilderF 80 5 B b (Lib.byteCells l) w' ∧ Below B w w') := Any.Builder_String_any_f Try.lays169 Try.Builder_Extra_169 B b l w h hBw
open Go.RowKit in
/-- (*strings.Builder).String: "String returns the accumulated string.": OF A BUILDER THAT HOLDS AT LEAST ONE BYTE. ✋ THE MODEL FREEZES THOSE BYTES IN THE BUFFER (unsafe.String): a later write INTO them ends the model's run without an answer; a later append BEHIND them goes on. The statement's order of evaluation is drawn: one draw. THE FORM '_k': OVER 'Lib.IsBuilderF' (a builder that 'String()' may have read), AND WITH THE FRAME THAT REACHES ABOVE THE BUILDER: 'Lib.OthersKept': every block that is not b and is no row of uint8's stands as it stood: the iterator of a range among them. (LAID: no walk: one application.) -/
theorem Try.Builder_String_k (B b : Nat) (l : List UInt8) (w : World) (h : Lib.IsBuilderF 80 5 B b (Lib.byteCells l) w) (h0 : l ≠ []) :
    Calls Try.prog 46 #[.pointer (some ⟨b, 0, none⟩)] w fun e w' => e = .returned (.string ⟨l.toArray⟩) ∧ (Lib.IsBuilderF 80 5 B b (Lib.byteCells l) w' ∧ Below B w w' ∧ Lib.OthersKept 5 (some b) w w') := Any.Builder_String_k Try.lays169 Try.Builder_Extra_169 B b l w h h0
open Go.RowKit in
/-- (*strings.Builder).String OF A BUILDER THAT HOLDS NO BYTE: the empty string; THE FORM '_k': OVER 'Lib.IsBuilderF' (a builder that 'String()' may have read), AND WITH THE FRAME THAT REACHES ABOVE THE BUILDER: 'Lib.OthersKept': every block that is not b and is no row of uint8's stands as it stood: the iterator of a range among them. (LAID: no walk: one application.) -/
theorem Try.Builder_String_empty_k (B b : Nat) (w : World) (h : Lib.IsBuilderF 80 5 B b [] w) (hBw : B ≤ w.heap.size) :
    Calls Try.prog 46 #[.pointer (some ⟨b, 0, none⟩)] w fun e w' => e = .returned (.string ⟨#[]⟩) ∧ (Lib.IsBuilderF 80 5 B b [] w' ∧ Below B w w' ∧ Lib.OthersKept 5 (some b) w w') := Any.Builder_String_empty_k Try.lays169 Try.Builder_Extra_169 B b w h hBw
open Go.RowKit in
/-- (*strings.Builder).String: "String returns the accumulated string.": WHATEVER THE BUILDER HOLDS; THE FORM '_k': OVER 'Lib.IsBuilderF' (a builder that 'String()' may have read), AND WITH THE FRAME THAT REACHES ABOVE THE BUILDER: 'Lib.OthersKept': every block that is not b and is no row of uint8's stands as it stood: the iterator of a range among them. (LAID: no walk: one application.) -/
theorem Try.Builder_String_any_k (B b : Nat) (l : List UInt8) (w : World) (h : Lib.IsBuilderF 80 5 B b (Lib.byteCells l) w) (hBw : B ≤ w.heap.size) :
    Calls Try.prog 46 #[.pointer (some ⟨b, 0, none⟩)] w fun e w' => e = .returned (.string ⟨l.toArray⟩) ∧ (Lib.IsBuilderF 80 5 B b (Lib.byteCells l) w' ∧ Below B w w' ∧ Lib.OthersKept 5 (some b) w w') := Any.Builder_String_any_k Try.lays169 Try.Builder_Extra_169 B b l w h hBw
open Go.RowKit in
/-- (*strings.Builder).grow (no doc but "grow copies the buffer to a new, larger buffer so that there are at least n bytes of capacity beyond len(b.buf)."): AT A BUILDER WITHOUT A BUFFER: a new row of whatever bytes for its buffer, none of them its own yet. Three draws. (LAID: no walk: one application.) -/
theorem Try.Builder_grow_fresh_cap (B b n : Nat) (w : World) (hB : B ≤ b) (hbk : w.heap[b]? = some (.cells #[.pointer (some ⟨b, 0, none⟩), .slice none 0 0] 80 (0, 0))) (hBw : B ≤ w.heap.size) (hn : n ≤ 281474976710656) :
    Calls Try.prog 55 #[.pointer (some ⟨b, 0, none⟩), .int .i64 n] w fun e w' => e = .returned (.tuple #[]) ∧ (Lib.BuilderAt 80 5 B b (.pointer (some ⟨b, 0, none⟩)) [] w' ∧ Below B w w') ∧ ∃ p cap, w'.cell? ⟨b, 1, none⟩ = some (.slice p 0 cap) ∧ n ≤ cap := Any.Builder_grow_fresh_cap Try.lays241 Try.Builder_Extra_241 B b n w hB hbk hBw hn
open Go.RowKit in
/-- (*strings.Builder).Grow AT A BUILDER THAT HAS NOT BEEN WRITTEN ('var b strings.Builder; b.Grow(n)'): "Grow grows b's capacity, if necessary, to guarantee space for another n bytes.": it holds no byte behind it as before it. (LAID: no walk: one application.) -/
theorem Try.Builder_Grow_fresh_cap (B b n : Nat) (w : World) (hB : B ≤ b) (hbk : w.heap[b]? = some (.cells #[.pointer none, .slice none 0 0] 80 (0, 0))) (hBw : B ≤ w.heap.size) (hn : n ≤ 281474976710656) :
    Calls Try.prog 44 #[.pointer (some ⟨b, 0, none⟩), .int .i64 n] w fun e w' => e = .returned (.tuple #[]) ∧ (Lib.BuilderAt 80 5 B b (.pointer (some ⟨b, 0, none⟩)) [] w' ∧ Below B w w') ∧ ∃ p cap, w'.cell? ⟨b, 1, none⟩ = some (.slice p 0 cap) ∧ n ≤ cap := Any.Builder_Grow_fresh_cap Try.lays165 Try.Builder_Extra_165 B b n w hB hbk hBw hn
end Go.Proofs
namespace Go.Proofs.Ytnobcehiahcfkaa
open Go.RowKit
def joinL (xs : List ByteArray) (sep : ByteArray) : List UInt8 := Lib.join (xs.map sl) (sl sep)
def joinS (xs : List ByteArray) (sep : ByteArray) : ByteArray := mkS (joinL xs sep)
theorem joinS_nil (sep : ByteArray) : joinS [] sep = ByteArray.empty := rfl
theorem join_len : ∀ (xs : List (List UInt8)) (sep : List UInt8), (Lib.join xs sep).length ≤ (xs.map (fun x => x.length + sep.length)).sum
  | [], sep => by simp [Lib.join_nil]
  | x :: xs, sep => by
    have key : ∀ r : List (List UInt8), (Lib.joinTail sep r).length = (r.map (fun x => x.length + sep.length)).sum := by
      intro r
      induction r with
      | nil => rfl
      | cons y ys ih => simp only [Lib.joinTail, List.map_cons, List.flatten_cons, List.length_append, List.sum_cons] at ih ⊢; rw [ih]; omega
    rw [Lib.join_cons, List.length_append, key, List.map_cons, List.sum_cons]
    omega
theorem joinL_len (xs : List ByteArray) (sep : ByteArray) : (joinL xs sep).length ≤ (xs.map (fun x => x.size + sep.size)).sum := by
  refine Nat.le_trans (join_len _ _) (Nat.le_of_eq ?_)
  rw [List.map_map]
  exact congrArg List.sum (List.map_congr_left (fun x _ => by simp only [Function.comp, sl_len]))
theorem join_any (v : Value) (xs : List ByteArray) (sep : ByteArray) (w : World) (h : SlR w es v xs) (hx : xs.length ≤ 140737488351232) (hlen : (joinL xs sep).length ≤ 140737488351232) :
    Calls Try.prog 18 #[v, .string sep] w fun e w' => e = .returned (.string (joinS xs sep)) ∧ Below w.heap.size w w' := by
  by_cases hn : 0 < xs.length
  · obtain ⟨b, o, c, rfl, hc, hb, hcell⟩ := h.texts hn
    refine (Try.strings_Join b o c xs sep w (fun j x hj => ?_) hb (by omega) hc (by unfold joinL at hlen; exact Nat.le_trans hlen (by decide))).mono ?_
    · obtain ⟨hj1, rfl⟩ := List.getElem?_eq_some_iff.1 hj
      exact hcell j hj1
    · rintro e w' ⟨rfl, hb'⟩
      exact ⟨rfl, hb'⟩
  · have : xs = [] := List.eq_nil_of_length_eq_zero (by omega)
    subst this
    obtain ⟨A, c, rfl, hc, -⟩ := h
    refine (Try.strings_Join_none A c sep w).mono ?_
    rintro e w' ⟨rfl, rfl⟩
    exact ⟨rfl, Below.refl _ _⟩
end Go.Proofs.Ytnobcehiahcfkaa
namespace Go.Proofs.Ytnobcehiahcfkaa
set_option maxRecDepth 20000
open Go.RowKit Go.Shelf
theorem joinL_flat : ∀ xs : List ByteArray, joinL xs ByteArray.empty = (xs.map sl).flatten
  | [] => rfl
  | x :: xs => by
    unfold joinL
    rw [List.map_cons, Lib.join_cons, sl_empty, List.flatten_cons]
    congr 1
    unfold Lib.joinTail
    simp
    rfl
theorem map_sl_mkS (l : List (List UInt8)) : (l.map mkS).map sl = l := by
  rw [List.map_map]
  conv => rhs; rw [← List.map_id l]
  exact List.map_congr_left (fun x _ => sl_mkS x)
theorem cut_x : (Pc.cut gear (sl ⟨#[120]⟩)).length = 1 := by
  have : sl ⟨#[120]⟩ = [120] := rfl
  rw [this]
  simp [Pc.cut, Pc.cuts, Pc.ends, Pc.tl]
theorem cut_x_any (w : World) :
    Calls Try.prog 16 #[.string ⟨#[120]⟩] w fun e w' => (∃ A c, e = .returned (.slice A 1 c)) ∧ Below w.heap.size w w' := by
  refine (cut_any ⟨#[120]⟩ w (by decide)).mono ?_
  rintro e w' ⟨v, rfl, ho, hb⟩
  obtain ⟨A, c, hv⟩ := ho.slice
  rw [List.length_map, cut_x] at hv
  exact ⟨⟨A, c, by rw [hv]⟩, hb⟩
theorem cut_count (s : List UInt8) (h : s.length ≤ 140737488355328) : (Pc.cut gear s).length * 16 ≤ 140737488355328 := by
  have := cut_len s h
  rw [Pc.cut, List.length_append]
  exact this
set_option maxHeartbeats 1000000 in
theorem chunkWhole_walk (s : ByteArray) (w : World) (hs : s.size ≤ 140737488351232) :
    Calls Try.prog 5 #[.string s] w fun e w' => e = .returned (.bool true) ∧ Below w.heap.size w w' := by
  have HN := Lib.hid (cut_count (sl s) (by rw [sl_len]; omega))
  have HZ := Lib.hid (Pc.cut_sizes gear (sl s))
  have HJ : Hid (joinL ((Pc.cut gear (sl s)).map mkS) ByteArray.empty = sl s) := by
    show _ = _
    rw [joinL_flat, map_sl_mkS, Pc.cut_flat]
  have HL : Hid (((Pc.cut gear (sl s)).map mkS).length = (Pc.cut gear (sl s)).length) := List.length_map ..
  have HG : Hid (∀ (k : Nat) (hk : k < ((Pc.cut gear (sl s)).map mkS).length), 0 < ((Pc.cut gear (sl s)).map mkS)[k].size ∧ ((Pc.cut gear (sl s)).map mkS)[k].size ≤ 128 ∧ (k + 1 < ((Pc.cut gear (sl s)).map mkS).length → 16 ≤ ((Pc.cut gear (sl s)).map mkS)[k].size)) := by
    intro k hk
    have := HZ.out k (by rw [← HL.out]; exact hk)
    rw [List.getElem_map, mkS_size]
    exact ⟨this.1, this.2.1, fun h => this.2.2 (by rw [← HL.out]; exact h)⟩
  rw [← HL.out] at HN
  clear HZ HL
  go_enter Try.func5, Try.ntmps5
  go_wp2_with fail
  refine (cut_any s w (by omega)).mono ?_
  rintro e w1 ⟨v, rfl, ho, b1⟩
  generalize (Pc.cut gear (sl s)).map mkS = xs at *
  have hr := SlR.of_owns ho
  clear ho
  go_wp2_with fail
  refine (cut_x_any w1).mono ?_
  rintro e w2 ⟨⟨A', c', rfl⟩, b2⟩
  have hr2 := hr.below b2
  have bB := b1.trans (b2.mono b1.size)
  have HR := Lib.hid hr2
  obtain ⟨A, c, hv, -, -⟩ := hr2
  subst hv
  clear hr
  go_wp2_with fail
  have hxn : xs.length ≤ 8796093022208 := by have := HN.out; omega
  go_loop [13] (fun i => ∃ k : Nat, i = .int .i64 k ∧ k ≤ xs.length) (fun i => xs.length - (intOf i).toNat)
  case atStart => exact ⟨0, rfl, Nat.zero_le _⟩
  case round =>
    obtain ⟨k, rfl, hk⟩ := hrel
    by_cases hlt : k < xs.length
    · obtain ⟨b, off, c2, hv, hc2, hb, hcell⟩ := HR.out.texts (by omega)
      injection hv with h1 h2 h3
      subst h1 h3
      have c0 := hcell k hlt
      obtain ⟨g1, g2, g3⟩ := HG.out k hlt
      clear hcell h2
      generalize xs[k] = p at *
      have e0 : p.toList.isEmpty = false := isEmpty_no p g1
      have e1 : decide ((128 : Int) < (p.size : Int)) = false := decide_eq_false (by omega)
      have e1' : decide (128 < p.size) = false := decide_eq_false (by omega)
      by_cases h16 : p.size < 16
      · have e2 : decide ((p.size : Int) < 16) = true := decide_eq_true (by omega)
        have e2' : decide (p.size < 16) = true := decide_eq_true h16
        have e3 : decide ((k : Int) < (xs.length : Int) - 1) = false := decide_eq_false (by omega)
        clear g3
        go_wp2_with fail
        go_round
        case rel => exact ⟨k + 1, by go_num, hlt⟩
        case measure => simp [intOf]; omega
      · have e2 : decide ((p.size : Int) < 16) = false := decide_eq_false (by omega)
        have e2' : decide (p.size < 16) = false := decide_eq_false h16
        clear g3
        go_wp2_with fail
        go_round
        case rel => exact ⟨k + 1, by go_num, hlt⟩
        case measure => simp [intOf]; omega
    · go_wp2_with fail
      refine (join_any _ xs ByteArray.empty w2 HR.out (by have := HN.out; omega) (by rw [HJ.out, sl_len]; exact hs)).mono ?_
      rintro e w3 ⟨rfl, b3⟩
      have hj : joinS xs ByteArray.empty = s := by unfold joinS; rw [HJ.out, mkS_sl]
      rw [hj]
      go_wp2_with fail
      go_ret
      exact ⟨by simp, bB.trans (b3.mono bB.size)⟩
end Go.Proofs.Ytnobcehiahcfkaa
namespace Go.Proofs.Ytnobcehiahcfkaa
set_option maxRecDepth 20000
open Go.RowKit Go.Shelf
/-- A piece's name. -/
def hxn (t : ByteArray) : ByteArray := mkS ((sl (mkS (digB (sl t)))).flatMap hexC)
theorem hxn_size (t : ByteArray) : (hxn t).size = 64 := by
  unfold hxn
  rw [mkS_size, hexC_len, sl_mkS, digB_len]
def fF (fs : List ByteArray) (k : ByteArray) : Option Value := (fs.find? (fun t => decide (hxn t = k))).map .string
theorem fF_none {fs : List ByteArray} {k : ByteArray} (h : ∀ t ∈ fs, hxn t ≠ k) : fF fs k = none := by
  unfold fF
  rw [List.find?_eq_none.2 (fun x hx => by simpa using h x hx)]
  rfl
theorem fF_some {fs : List ByteArray} {t : ByteArray} (hk : (fs.map hxn).Nodup) (ht : t ∈ fs) : fF fs (hxn t) = some (.string t) := by
  induction fs with
  | nil => cases ht
  | cons y l ih =>
    unfold fF
    rw [List.map_cons, List.nodup_cons] at hk
    rcases List.mem_cons.1 ht with rfl | hx
    · simp
    · have hne : ¬ hxn y = hxn t := fun e => hk.1 (List.mem_map.2 ⟨t, hx, e.symm⟩)
      rw [List.find?_cons_of_neg (by simpa using hne)]
      exact ih hk.2 hx
theorem fF_inv {fs : List ByteArray} {k : ByteArray} {v : Value} (h : fF fs k = some v) : ∃ t ∈ fs, hxn t = k ∧ v = .string t := by
  unfold fF at h
  cases hf : fs.find? (fun t => decide (hxn t = k)) with
  | none => rw [hf] at h; cases h
  | some t =>
    rw [hf] at h
    have h1 := List.find?_some hf
    exact ⟨t, List.mem_of_find?_eq_some hf, by simpa using h1, by simpa using h.symm⟩
theorem fF_put {fs : List ByteArray} {t : ByteArray} (h : ∀ u ∈ fs, hxn u ≠ hxn t) (k : ByteArray) : fput (fF fs) (hxn t) (.string t) k = fF (fs ++ [t]) k := by
  unfold fput
  by_cases hk : k = hxn t
  · subst hk
    rw [if_pos rfl]
    unfold fF
    rw [List.find?_append, List.find?_eq_none.2 (fun x hx => by simpa using h x hx)]
    simp
  · rw [if_neg hk]
    unfold fF
    rw [List.find?_append]
    have : ¬ hxn t = k := fun e => hk e.symm
    simp [this]
/-- What is known behind the texts ds: fs are those of them that are not in es yet. -/
structure FreshI (es : List Pe) (ds fs : List ByteArray) : Prop where
  sub : fs.Sublist ds
  nd : (fs.map hxn).Nodup
  new : ∀ t ∈ fs, ∀ x ∈ es, x.n ≠ hxn t
  all : ∀ t ∈ ds, t ∈ fs ∨ ∃ x ∈ es, x.n = hxn t ∧ x.t = t
section
variable {es : List Pe} {ds fs : List ByteArray} {t : ByteArray}
theorem FreshI.nil (es : List Pe) : FreshI es [] [] := ⟨List.Sublist.refl _, by simp, by simp, by simp⟩
theorem FreshI.old (h : FreshI es ds fs) (ht : t ∈ fs ∨ ∃ x ∈ es, x.n = hxn t ∧ x.t = t) : FreshI es (ds ++ [t]) fs :=
  ⟨h.sub.trans (List.sublist_append_left ..), h.nd, h.new, fun u hu => (List.mem_append.1 hu).elim (h.all u) fun hu => by rw [List.mem_singleton.1 hu]; exact ht⟩
theorem FreshI.add (h : FreshI es ds fs) (h1 : ∀ u ∈ fs, hxn u ≠ hxn t) (h2 : ∀ x ∈ es, x.n ≠ hxn t) : FreshI es (ds ++ [t]) (fs ++ [t]) := by
  refine ⟨h.sub.append (List.Sublist.refl _), ?_, fun u hu => ?_, fun u hu => ?_⟩
  · rw [List.map_append, List.nodup_append]
    refine ⟨h.nd, by simp, fun a ha b hb => ?_⟩
    obtain ⟨u, hu, rfl⟩ := List.mem_map.1 ha
    simp only [List.map_cons, List.map_nil, List.mem_singleton] at hb
    rw [hb]
    exact h1 u hu
  · rcases List.mem_append.1 hu with hu | hu
    · exact h.new u hu
    · rw [List.mem_singleton.1 hu]; exact h2
  · rcases List.mem_append.1 hu with hu | hu
    · exact (h.all u hu).imp (fun hm => List.mem_append_left _ hm) id
    · rw [List.mem_singleton.1 hu]; exact .inl (by simp)
theorem size_mem_sum {l : List ByteArray} : t ∈ l → t.size ≤ (l.map (·.size)).sum := by
  induction l with
  | nil => intro h; cases h
  | cons y l ih =>
    intro h
    rw [List.map_cons, List.sum_cons]
    rcases List.mem_cons.1 h with rfl | h
    · omega
    · have := ih h; omega
theorem sub_sum {a b : List ByteArray} (h : a.Sublist b) : (a.map (·.size)).sum ≤ (b.map (·.size)).sum := by
  induction h with
  | slnil => simp
  | cons x _ ih => rw [List.map_cons, List.sum_cons]; omega
  | cons_cons x _ ih => rw [List.map_cons, List.map_cons, List.sum_cons, List.sum_cons]; omega
end
/-- How often a name is among the texts' names. -/
def cntN (ds : List ByteArray) (n : ByteArray) : Nat := (ds.filter fun t => decide (hxn t = n)).length
def inc (ds : List ByteArray) (es : List Pe) : List Pe := es.map fun x => { x with c := x.c + (cntN ds x.n : Int) }
theorem cntN_snoc (ds : List ByteArray) (t n : ByteArray) : cntN (ds ++ [t]) n = cntN ds n + (if hxn t = n then 1 else 0) := by
  unfold cntN
  rw [List.filter_append, List.length_append]
  congr 1
  by_cases h : hxn t = n <;> simp [h]
theorem inc_nil (es : List Pe) : inc [] es = es := by
  unfold inc cntN
  simp
theorem inc_n (ds : List ByteArray) (es : List Pe) : (inc ds es).map (·.n) = es.map (·.n) := by simp [inc]
theorem inc_b (ds : List ByteArray) (es : List Pe) : (inc ds es).map (·.b) = es.map (·.b) := by simp [inc]
theorem inc_t (ds : List ByteArray) (es : List Pe) : (inc ds es).map (·.t) = es.map (·.t) := by simp [inc]
theorem usedP_t (es : List Pe) : usedP es = ((es.map (·.t)).map fun t => (t.size : Int)).sum := by simp [usedP, Function.comp_def]
theorem usedP_inc (ds : List ByteArray) (es : List Pe) : usedP (inc ds es) = usedP es := by rw [usedP_t, usedP_t, inc_t]
theorem usedP_app (a b : List Pe) : usedP (a ++ b) = usedP a + usedP b := by simp [usedP]
theorem pF_inc (ds : List ByteArray) (es : List Pe) (k : ByteArray) : pF (inc ds es) k = pF es k := by
  induction es with
  | nil => rfl
  | cons y l ih =>
    unfold pF inc at *
    rw [List.map_cons]
    by_cases h : y.n = k
    · simp [h]
    · rw [List.find?_cons_of_neg (by simpa using h), List.find?_cons_of_neg (by simpa using h)]
      exact ih
/-- What Put leaves behind: ds the texts that were put. -/
def PutRes (es : List Pe) (ds : List ByteArray) (es' : List Pe) : Prop :=
  ∃ new fs, FreshI es ds fs ∧ (new.map (·.t)).Perm fs ∧ (∀ x ∈ new, x.n = hxn x.t ∧ x.c = 0) ∧ es' = inc ds (es ++ new)
end Go.Proofs.Ytnobcehiahcfkaa
namespace Go.Proofs.Ytnobcehiahcfkaa
set_option maxRecDepth 20000
open Go.RowKit Go.Shelf
attribute [local go_sem] Oper.semAt_some
/-- A round, whose body goes off its end or is left by a break. -/
theorem yieldB_of {F : Fence} {m D : Nat} {P : Program} {rec : Loop} {W : World} {args : Array Value} {R : Ending → World → Prop} (a₁ : Act) (hF : F.fn rec.fn) (hl : W.heap[D]? = some (.loop rec)) (hr : rec.state = .ready) (hp : rec.pending = none) (hs : args.size = rec.params.size)
    (hassign : ∀ K : Act → World → Prop, K a₁ W → rec.assign.wpIn (F.inRound D) m P (Exit.then K (fun _ _ _ => False)) { tmps := (rec.params.zip args).foldl (fun tmps (t, a) => tmps.setIfInBounds t a) rec.tmps, defers := [] } W)
    (hbody : rec.body.wpIn (F.inRound D) m P (fun e _ W3 => W3.heap[D]? = some (.loop { rec with state := .busy }) ∧ ((e = .normal ∧ R (.returned (.bool true)) (W3.putObj D (.loop rec))) ∨ ∃ id, e = .exit id ∧ R (.returned (.bool false)) (W3.putObj D (.loop { rec with state := .done, pending := some (.exit id) })))) a₁ (W.putObj D (.loop { rec with state := .busy }))) :
    YieldAt F m P D args W R := by
  refine ⟨rec.fn, _, rec.assign, rec.body, run_yield hl hs, roundIn_of_wpIn hF (wpIn_mono (hassign (fun a1 w1 => w1.heap[D]? = some (.loop rec) ∧ rec.body.wpIn (F.inRound D) m P (fun e _ W3 => W3.heap[D]? = some (.loop { rec with state := .busy }) ∧ ((e = .normal ∧ R (.returned (.bool true)) (W3.putObj D (.loop rec))) ∨ ∃ id, e = .exit id ∧ R (.returned (.bool false)) (W3.putObj D (.loop { rec with state := .done, pending := some (.exit id) })))) a1 (w1.putObj D (.loop { rec with state := .busy }))) ⟨hl, hbody⟩) ?_)⟩
  rintro e a1 w1 hq
  cases e with
  | normal =>
    obtain ⟨h1, h2⟩ := hq
    refine ⟨_, run_beginRound h1 hr, wpIn_mono h2 ?_⟩
    rintro e2 a2 w2 ⟨h3, h4⟩
    rcases h4 with ⟨rfl, h4⟩ | ⟨id, rfl, h4⟩
    · refine ⟨_, _, run_endRound none h3, ?_⟩
      have e : ({ { rec with state := LoopState.busy } with state := if (none : Option Code).isNone then LoopState.ready else LoopState.done, pending := none } : Loop) = rec := by
        obtain ⟨s, p, f, t, ps, asg, b, d⟩ := rec
        simp only at hr hp
        subst hr hp
        rfl
      rw [e]
      exact h4
    · exact ⟨_, _, run_endRound (some (.exit id)) h3, h4⟩
  | _ => exact hq.elim
/-- 'for .. := range f' over a method's value or a closure: the record laid, the iterator called; what hangs over. -/
theorem wpIn_rangeFunc_out {F : Fence} {n : Nat} {P : Program} {g : Operand} {ps : Array Tmp} {assign body : Code} {Q : Exit → Act → World → Prop} {a : Act} {w : World}
    (hro : F.round = none) (h1 : 1 ≤ n) {gf : Nat} {fs lb : Array Value} (hg : a.eval g = .func (.func gf) fs lb) (hFg : F.fn gf) (eg : ∀ args w, (callFunc gf args).run P w = .ok (.enter gf args) w)
    (h : ∀ rec : Loop, F.fn rec.fn → rec.state = .ready → rec.pending = none → rec.tmps = a.tmps → rec.params = ps → rec.assign = assign → rec.body = body →
      CallsIn F (n - 1) P gf (fs ++ #[.func (.yield (w.heap.size + 1)) #[] #[]] ++ lb) ((w.alloc (.deferred (some []))).alloc (.loop rec)) fun e W2 => (∃ v, e = .returned v) ∧ ∃ st pd, W2.heap[w.heap.size + 1]? = some (.loop { rec with state := st, pending := pd }) ∧ st ≠ .busy ∧
        (match pd with
          | none => Q .normal { a with defers := { target := .collected w.heap.size, args := #[] } :: a.defers } (W2.putObj (w.heap.size + 1) (.loop { rec with state := .exhausted, pending := none }))
          | some c => c.wpIn F n P Q { a with defers := { target := .collected w.heap.size, args := #[] } :: a.defers } (W2.putObj (w.heap.size + 1) (.loop { rec with state := .exhausted, pending := some c })))) :
    (Code.rangeFunc g ps assign body).wpIn F n P Q a w := by
  refine wpIn_rangeFunc ?_
  intro fn hfn
  rw [hro]
  obtain ⟨rec, hrec⟩ : ∃ rec : Loop, rec = { state := .ready, pending := none, fn, tmps := a.tmps, params := ps, assign, body, defers := w.heap.size } := ⟨_, rfl⟩
  refine ⟨w.heap.size + 1, [{ target := .collected w.heap.size, args := #[] }], (w.alloc (.deferred (some []))).alloc (.loop rec), { target := .fn (.func gf) lb, args := fs ++ #[.func (.yield (w.heap.size + 1)) #[] #[]] }, (w.alloc (.deferred (some []))).alloc (.loop rec), gf,
    fs ++ #[.func (.yield (w.heap.size + 1)) #[] #[]] ++ lb, (w.alloc (.deferred (some []))).alloc (.loop rec), ?_, ?_, ?_, ?_, fun _ => h1, ?_⟩
  · rw [hrec]; exact run_enterLoop_outer _ _ _ _ _
  · simp only [resolve, hg]
    simp [go_sem]
  · intro f' hf'; simp [Target.leads] at hf'; subst hf'; exact hFg
  · simp [invoke, go_sem, eg]
  · refine (h rec (by rw [hrec]; exact hfn) (by rw [hrec]) (by rw [hrec]) (by rw [hrec]) (by rw [hrec]) (by rw [hrec]) (by rw [hrec])).mono ?_
    rintro e W2 ⟨⟨v, rfl⟩, st, pd, hl, hst, hq⟩
    have := run_endLoop (P := P) hl hst
    cases pd with
    | none => exact ⟨none, _, this, hq⟩
    | some c => exact ⟨some c, _, this, hq⟩
end Go.Proofs.Ytnobcehiahcfkaa
namespace Go.Proofs.Ytnobcehiahcfkaa
set_option maxRecDepth 20000
open Go.RowKit Go.Shelf
attribute [local go_sem] Oper.semAt_some
/-- The block of the first, or of the root. -/
def hdB (ns : List Nd) (c : Nat) : Nat := match ns with | [] => c | x :: _ => x.1
theorem neq_other (W : World) {a b : Nat} {ca cb : Array Value} {ta tb : TypeId} (ha : Blk W a ta ca) (hb : Blk W b tb cb) (hne : a ≠ b) : (binOp .neq 120 (ptr a) (.pointer (some ⟨b, 0, none⟩))).run Try.prog W = .ok (.bool true) W := by
  obtain ⟨j, hj, hz⟩ : ∃ j, Try.prog.info? 122 = some j ∧ j.size ≠ 0 := by
    have h : ((Try.prog.info? 122).map fun j => decide (j.size ≠ 0)) = some true := by kernel_rfl
    cases hq : Try.prog.info? 122 with
    | none => rw [hq] at h; cases h
    | some j => rw [hq] at h; exact ⟨j, rfl, by simpa using h⟩
  have h : ∀ d : Nat, (Op.equalIn (d + 1) 120 (.pointer (some ⟨a, 0, none⟩)) (.pointer (some ⟨b, 0, none⟩))).run Try.prog W = .ok false W := fun d => by
    simp [Op.equalIn, run_underlying Try.underlying120, sizeOf, typeInfo, hj, hz, run_sameAddr_other W (a := ⟨a, 0, none⟩) (b := ⟨b, 0, none⟩) (by intro e; injection e with e; exact hne e) ha hb]
  simp only [binOp]
  simp [Op.equal, Op.maxDepth, h 9999]
theorem neq_same (W : World) (a : Nat) : (binOp .neq 120 (ptr a) (.pointer (some ⟨a, 0, none⟩))).run Try.prog W = .ok (.bool false) W := by
  obtain ⟨j, hj⟩ : ∃ j, Try.prog.info? 122 = some j := by
    have h : (Try.prog.info? 122).isSome = true := by kernel_rfl
    exact Option.isSome_iff_exists.1 h
  exact Lib.run_neq_ptr_same W ⟨a, 0, none⟩ Try.underlying120 hj
set_option maxHeartbeats 1000000 in
theorem all_in (n c D : Nat) (I : List Nd → World → Prop) (J : World → Prop) (μ : World → Nat) (hn : 1 ≤ n)
    (hμ : ∀ rest W, I rest W → μ W = rest.length) (hdrew : ∀ rest W, I rest W → I rest W.drew)
    (hkey : ∀ x rest W, I (x :: rest) W → NodeB W x ∧ x.1 ≠ c ∧ ∃ mb, RootB W c mb)
    (hround : ∀ x rest W, I (x :: rest) W → YieldAt Fence.wide (n - 1) Try.prog D #[.string x.2.1] W fun e W' => (e = .returned (.bool true) ∧ I rest W' ∧ W'.cell? ⟨x.1, 3, none⟩ = some (ptr (hdB rest c))) ∨ (e = .returned (.bool false) ∧ J W'))
    (hend : ∀ W, I [] W → J W) (ns : List Nd) (w : World) (h : I ns w) (h3 : w.cell? ⟨c, 3, none⟩ = some (ptr (hdB ns c))) :
    CallsIn Fence.wide n Try.prog 49 #[ptr c, .func (.yield D) #[] #[]] w fun e w' => (∃ v, e = .returned v) ∧ J w' := by
  have HM := Lib.hid hμ
  have HD := Lib.hid hdrew
  have HK := Lib.hid hkey
  have HR := Lib.hid hround
  have HE := Lib.hid hend
  clear hμ hdrew hkey hround hend
  refine callsIn_of_wp Try.func49 rfl trivial ?_ rfl
  simp only [Try.ntmps49, List.size_toArray, List.length_cons, List.length_nil, Nat.reduceAdd, Nat.reduceSub, Array.replicate_succ, Array.replicate_zero, List.push_toArray, List.append_toArray, List.nil_append, List.cons_append]
  gi_wp2
  gi_loopw [4] (fun t wr => ∃ rest, t = ptr (hdB rest c) ∧ I rest wr) (fun _ wr => μ wr)
  case atStart => exact ⟨ns, rfl, h⟩
  case round =>
    obtain ⟨rest, rfl, hI⟩ := hrel
    clear h3 h
    cases rest with
    | nil =>
      have HI := Lib.hid hI
      clear hI
      have kcmp := neq_same wr c
      show Code.wpIn _ _ _ _ _ { tmps := #[ptr c, .func (.yield D) #[] #[], undef, undef, ptr c, _, _, _, _, _, _, _, _, _, _, _, _, _, _, _, _, _, _, _, _, _], defers := [] } _
      gi_wp2
      exact Great.bodyPost_end0 rfl rfl ⟨⟨_, rfl⟩, HE.out _ HI.out⟩
    | cons x rest =>
      obtain ⟨⟨_, _, kb⟩, kne, mb, ⟨_, _, kr⟩⟩ := HK.out x rest _ hI
      have k0 := kb.cell 0
      have kcmp := neq_other wr kb kr kne
      obtain ⟨fn, tmps, assign, body, hy, hR⟩ := HR.out x rest _ hI
      have HI := Lib.hid hI
      clear hI
      clear kb kr kne
      show Code.wpIn _ _ _ _ _ { tmps := #[ptr c, .func (.yield D) #[] #[], undef, undef, ptr x.1, _, _, _, _, _, _, _, _, _, _, _, _, _, _, _, _, _, _, _, _, _], defers := [] } _
      gi_wp2
      refine hR.mono ?_
      rintro e W5 (⟨rfl, hI5, h35⟩ | ⟨rfl, hJ⟩)
      · have HI5 := Lib.hid hI5
        clear hI5 kcmp hy hR
        gi_wp2
        go_roundw
        case rel => exact ⟨rest, rfl, HI5.out⟩
        case measure => rw [HM.out _ _ HI5.out, HM.out _ _ HI.out]; exact Nat.lt_succ_self _
      · clear kcmp hy hR
        have HJ := Lib.hid hJ
        clear hJ
        gi_wp2
        exact bodyPost_ret (v := .tuple #[]) (by kernel_rfl) rfl ⟨⟨_, rfl⟩, HJ.out⟩
end Go.Proofs.Ytnobcehiahcfkaa
namespace Go.Proofs.Ytnobcehiahcfkaa
set_option maxRecDepth 20000
open Go.RowKit Go.Shelf
attribute [local go_sem] Oper.semAt_some
/-- What lies in the loop's frame: the list that grows, the loop's record. -/
structure OL (B D : Nat) (rec : Loop) (pre : List ByteArray) (W : World) : Prop where
  out : ∃ o, Blk W B 24 #[o] ∧ Owns W (D + 2) 9 1 es o pre
  ld : W.heap[D]? = some (.deferred (some []))
  lr : W.heap[D + 1]? = some (.loop rec)
  sz : D + 2 ≤ W.heap.size
  lt : B < D
def lenAt (W : World) (B : Nat) : Nat := match W.cell? ⟨B, 0, none⟩ with | some (.slice _ n _) => n | _ => 0
theorem gput (w : World) (l : Nat) (o : Obj) : w.grownBy (w.putObj l o) (some l) :=
  ⟨rfl, rfl, rfl, by simp [World.putObj], fun k hk hne => World.putObj_heap_other (by intro e; exact hne (by rw [e]))⟩
section
variable {B D : Nat} {rec rec' : Loop} {pre : List ByteArray} {W W' : World}
theorem OL.len (h : OL B D rec pre W) : lenAt W B = pre.length := by
  obtain ⟨o, h1, h2⟩ := h.out
  unfold lenAt
  rw [h1.cell 0]
  rcases h2.form with ⟨rfl, rfl⟩ | ⟨g, c, rfl⟩ <;> rfl
theorem OL.put (h : OL B D rec pre W) : OL B D rec' pre (W.putObj (D + 1) (.loop rec')) := by
  have hg := gput W (D + 1) (.loop rec')
  obtain ⟨o, h1, h2⟩ := h.out
  refine ⟨⟨o, Blk.keptR h1 hg (by intro e; injection e with e; have := h.lt; omega), h2.grownOther hg ?_⟩, (hg.block _ (heap_lt' h.ld) (by simp)).trans h.ld, World.putObj_heap_same (heap_lt' h.lr), Nat.le_trans h.sz hg.size, h.lt⟩
  cases hv : o.ownBlock with
  | none => exact .inl rfl
  | some k => exact .inr fun e => by injection e with e; have := (h2.lt k hv).1; omega
theorem OL.rf {ex : List TypeId} {n0 : Nat} (h : OL B D rec pre W) (hr : RF ex n0 W W') (h1 : ex.contains 24 = false) (h2 : ex.contains 9 = false) : OL B D rec pre W' := by
  obtain ⟨o, g1, g2⟩ := h.out
  exact ⟨⟨o, g1.rf hr h1, g2.rf hr h2⟩, hr.fr _ _ h.ld rfl, hr.fr _ _ h.lr rfl, Nat.le_trans h.sz hr.size, h.lt⟩
theorem OL.drew (h : OL B D rec pre W) : OL B D rec pre W.drew := ⟨h.out, h.ld, h.lr, h.sz, h.lt⟩
theorem OL.grow {o v' : Value} {w1 : World} {p : ByteArray} (h : OL B D rec pre W) (ho1 : Blk W B 24 #[o]) (ho2 : Owns W (D + 2) 9 1 es o pre)
    (hg : W.grownBy w1 o.ownBlock) (hv : Owns w1 (D + 2) 9 1 es v' (pre ++ [p])) : OL B D rec (pre ++ [p]) (w1.setCell ⟨B, 0, none⟩ v') := by
  have hl := h.lt
  have far : ∀ k, k < D + 2 → some k ≠ o.ownBlock := fun k hk e => by have := (ho2.lt k e.symm).1; omega
  have hb1 : Blk w1 B 24 #[o] := Blk.keptR ho1 hg (far _ (by omega))
  have hg2 : w1.grownBy (w1.setCell ⟨B, 0, none⟩ v') (some B) := ⟨rfl, rfl, rfl, by simp [World.setCell], fun k _ hne => Below.heap_setCell _ _ _ _ (fun e => hne (by rw [e]))⟩
  have s1 : ∀ {a b : Nat}, a ≠ b → some a ≠ some b := fun h e => h (by injection e)
  have d1 := (hg.block _ (heap_lt' h.ld) (far _ (by omega))).trans h.ld
  have l1 := (hg.block _ (heap_lt' h.lr) (far _ (by omega))).trans h.lr
  refine ⟨⟨v', hb1.set_ 0 v', hv.grownOther hg2 ?_⟩, (hg2.block _ (heap_lt' d1) (s1 (by omega))).trans d1, (hg2.block _ (heap_lt' l1) (s1 (by omega))).trans l1, Nat.le_trans (Nat.le_trans h.sz hg.size) hg2.size, hl⟩
  cases hv' : v'.ownBlock with
  | none => exact .inl rfl
  | some k => exact .inr (s1 (by have := (hv.lt k hv').1; omega))
theorem OL.alloc (h : OL B D rec pre W) (o : Obj) : OL B D rec pre (W.alloc o) := h.rf (ex := []) (n0 := 0) ((RF.refl _ _ _).alloc (Nat.zero_le _) o) rfl rfl
end
theorem RowS.keptO {w w' : World} {n0 p c mb : Nat} {room : Int} {ns : List Nd} {row : Option Nat} (h : RowS w n0 p room c mb ns) (hg : w.grownBy w' row) (hrow : ∀ k, row = some k → ∃ o, w.heap[k]? = some o ∧ okObj RY o = true) : RowS w' n0 p room c mb ns := by
  have ne : ∀ {k : Nat} {t : TypeId} {cs : Array Value}, Blk w k t cs → RY.contains t = true → some k ≠ row := fun {k t cs} hb ht e => by
    obtain ⟨o, ho, hk⟩ := hrow k e.symm
    unfold Blk at hb
    rw [hb] at ho
    cases ho
    simp only [okObj, ht] at hk
    cases hk
  refine ⟨Blk.keptR h.blk hg (ne h.blk (by decide)), h.p0, h.ch.kept hg ?_ ?_ ?_, h.rm, h.sz, h.us, h.ks⟩
  · obtain ⟨_, _, hb⟩ := h.ch.root
    exact ne hb (by decide)
  · intro e
    obtain ⟨o, ho, hk⟩ := hrow mb e.symm
    obtain ⟨es, ck, hm⟩ := h.ch.mp.isMapObj
    rw [hm] at ho
    cases ho
    cases hk
  · intro x hx
    obtain ⟨_, _, hb⟩ := h.ch.node x hx
    exact ne hb (by decide)
theorem ring_first {w : World} {n0 c mb : Nat} {ns : List Nd} (h : Chn w n0 c mb ns) : w.cell? ⟨c, 3, none⟩ = some (ptr (hdB ns c)) := by
  have := h.ring
  cases ns with
  | nil => exact this.1.1
  | cons x ns => exact this.1.1
/-- What follows one in the chain. -/
theorem ring_next {w : World} {n0 c mb : Nat} {l r : List Nd} {x : Nd} (h : Chn w n0 c mb (l ++ x :: r)) : w.cell? ⟨x.1, 3, none⟩ = some (ptr (hdB r c)) := by
  have hr := h.ring
  rw [show c :: ((l ++ x :: r).map (·.1) ++ [c]) = (c :: l.map (·.1)) ++ x.1 :: (r.map (·.1) ++ [c]) by rw [List.map_append, List.map_cons, List.append_assoc]; rfl] at hr
  cases r with
  | nil => exact (links_next (xs := c :: l.map (·.1)) (ys := []) hr).1
  | cons y r => exact (links_next (xs := c :: l.map (·.1)) (ys := r.map (·.1) ++ [c]) hr).1
set_option maxHeartbeats 2000000 in
theorem keys_any (n0 p c mb : Nat) (room : Int) (ns : List Nd) (w : World) (h : RowS w n0 p room c mb ns) :
    Calls Try.prog 26 #[ptr p] w fun e w' => ∃ v, e = .returned v ∧ Owns w' w.heap.size 9 1 es v (ns.map (·.2.1)) ∧ Below w.heap.size w w' := by
  have hlen := h.len
  have p2 : (w.alloc (.cells #[.slice none 0 0] 24)).cell? ⟨p, 2, none⟩ = some (ptr c) := (h.alloc _).blk.cell 2
  have H := Lib.hid h
  clear h
  refine (callsIn_wide (n := 4)).1 ?_
  refine callsIn_of_wp_marks Try.func26 rfl trivial ?_ rfl
  simp only [Try.ntmps26, List.size_toArray, List.length_cons, List.length_nil, Nat.reduceAdd, Nat.reduceSub, Array.replicate_succ, Array.replicate_zero, List.push_toArray, List.append_toArray, List.nil_append, List.cons_append]
  have hmf : ∀ (fn : Fn) (first cap : Array Value) (w : World), (Instr.makeFunc fn first cap).run Try.prog w = .ok (.func fn first cap) w := fun _ _ _ _ => rfl
  have hB0 : Blk (w.alloc (.cells #[.slice none 0 0] 24)) w.heap.size 24 #[.slice none 0 0] := Blk.new w _ _
  have hb0 : Below w.heap.size w (w.alloc (.cells #[.slice none 0 0] 24)) := (Below.refl _ w).alloc (Nat.le_refl _) _
  have hz0 : (w.alloc (.cells #[.slice none 0 0] 24)).heap.size = w.heap.size + 1 := by simp
  gi_wp2
  generalize w.alloc (.cells #[.slice none 0 0] 24) = W0 at *
  refine wpIn_rangeFunc_out (n := 4) rfl (by decide) (gf := 49) (fs := #[ptr c]) (lb := #[]) rfl trivial (enters_of Try.func49 (by kernel_rfl) rfl) ?_
  intro rec hF hst hpe htm hpa has hbo
  have hl1 : ((W0.alloc (.deferred (some []))).alloc (.loop rec)).heap[W0.heap.size + 1]? = some (.loop rec) := by
    have := World.alloc_heap_new (W0.alloc (.deferred (some []))) (.loop rec); rwa [World.size_alloc] at this
  have hd1 : ((W0.alloc (.deferred (some []))).alloc (.loop rec)).heap[W0.heap.size]? = some (.deferred (some [])) :=
    (Below.heap_alloc _ _ _ (by simp)).trans (World.alloc_heap_new W0 _)
  have hol1 : OL w.heap.size W0.heap.size rec [] ((W0.alloc (.deferred (some []))).alloc (.loop rec)) :=
    ⟨⟨_, (hB0.alloc _).alloc _, Owns.nil ..⟩, hd1, hl1, by simp, by omega⟩
  have hb1 : Below w.heap.size w ((W0.alloc (.deferred (some []))).alloc (.loop rec)) := (hb0.alloc hb0.size _).alloc (Nat.le_trans hb0.size (le_alloc _ _)) _
  have HZ := Lib.hid hz0
  refine (all_in 3 c (W0.heap.size + 1) (fun rest W => ∃ pre, ns = pre ++ rest ∧ OL w.heap.size W0.heap.size rec (pre.map (·.2.1)) W ∧ Below w.heap.size w W)
    (fun W => OL w.heap.size W0.heap.size rec (ns.map (·.2.1)) W ∧ Below w.heap.size w W) (fun W => ns.length - lenAt W w.heap.size) (by decide) ?mu ?drew ?key ?round ?ends ns _ ⟨[], rfl, hol1, hb1⟩ ?first).mono ?_
  case mu =>
    rintro rest W ⟨pre, he, ho, _⟩
    show ns.length - lenAt W w.heap.size = _
    rw [ho.len, he]
    simp
  case drew =>
    rintro rest W ⟨pre, he, ho, hb⟩
    exact ⟨pre, he, ho.drew, hb.drew⟩
  case key =>
    rintro x rest W ⟨pre, he, ho, hb⟩
    have hR := (H.out.below hb).ch
    exact ⟨hR.node x (by rw [he]; simp), hR.ne_root x (by rw [he]; simp), mb, hR.root⟩
  case ends =>
    rintro W ⟨pre, he, ho, hb⟩
    rw [List.append_nil] at he
    subst he
    exact ⟨ho, hb⟩
  case first => exact ring_first (H.out.below hb1).ch
  case round =>
    rintro x rest W ⟨pre, he, ho, hb⟩
    have hnx := ring_next (l := pre) (r := rest) (x := x) (by rw [← he]; exact H.out.ch)
    have hxl : x.1 < w.heap.size := (H.out.ch.node x (by rw [he]; simp)).lt
    refine yieldB_of { tmps := #[ptr p, undef, .slice none 0 0, ptr w.heap.size, .string x.2.1, ptr p, ptr p, .pointer (some ⟨p, 2, none⟩), ptr c, .func (.func 49) #[ptr c] #[], .string x.2.1, undef, undef, undef, undef, undef], defers := [] } hF ho.lr hst hpe (by rw [hpa]; rfl) ?_ ?_
    · intro K hK
      rw [has, htm, hpa]
      gi_wp2
      exact hK
    · have hob : OL w.heap.size W0.heap.size { rec with state := .busy } (pre.map (·.2.1)) (W.putObj (W0.heap.size + 1) (.loop { rec with state := .busy })) := ho.put
      have hbb : Below w.heap.size w (W.putObj (W0.heap.size + 1) (.loop { rec with state := .busy })) := hb.grown (gput _ _ _) (by have := ho.sz; omega) (fun k hk => by cases hk; omega)
      have hpl : pre.length + 1 ≤ 1000000 := by have := congrArg List.length he; simp only [List.length_append, List.length_cons] at this; omega
      generalize W.putObj (W0.heap.size + 1) (.loop { rec with state := .busy }) = Wb at *
      have HRB : Hid (∀ W3, OL w.heap.size W0.heap.size { rec with state := .busy } ((pre ++ [x]).map (·.2.1)) W3 → Below w.heap.size w W3 → W3.heap[W0.heap.size + 1]? = some (.loop { rec with state := .busy }) ∧ ((∃ pre', ns = pre' ++ rest ∧ OL w.heap.size W0.heap.size rec (pre'.map (·.2.1)) (W3.putObj (W0.heap.size + 1) (.loop rec)) ∧ Below w.heap.size w (W3.putObj (W0.heap.size + 1) (.loop rec))) ∧ (W3.putObj (W0.heap.size + 1) (.loop rec)).cell? ⟨x.1, 3, none⟩ = some (ptr (hdB rest c)))) := by
        intro W3 h1 h2
        have hb3 : Below w.heap.size w (W3.putObj (W0.heap.size + 1) (.loop rec)) := h2.grown (gput _ _ _) (by have := h1.sz; omega) (fun k hk => by cases hk; omega)
        exact ⟨h1.lr, ⟨pre ++ [x], by rw [he, List.append_assoc]; rfl, h1.put, hb3⟩, (hb3.cell (p := ⟨x.1, 3, none⟩) hxl).trans hnx⟩
      generalize ({ rec with state := .busy } : Loop) = recB at *
      rw [hbo]
      clear hst hpe htm hpa has hbo hl1 hd1 hol1 hb1 ho hb hz0 hB0 hb0 hnx hxl he
      obtain ⟨o, ho1, ho2⟩ := hob.out
      have b0 := ho1.cell 0
      obtain ⟨i0, hi, hi0, hi1, hi2⟩ := info_parts stringInfo
      have hrow : Wb.ownsRow (W0.heap.size + 2) 9 1 o (pre.map (·.2.1)).length ((pre.map (·.2.1)).flatMap es) := ho2
      have hml : (pre.map (·.2.1)).length = pre.length := List.length_map ..
      gi_wp2_with (gi_at_builtin; refine wpListIn_append_own _ rfl _ _ 24 rfl (W0.heap.size + 2) 9 i0 (.string ByteArray.empty) 1 16 Try.underlying24 hi hi0 hi1 hi2 rfl (by decide) _ _ _ rfl (hrow.alloc _) ⟨Wb.heap.size, 0, none⟩ 1 1 [.string x.2.1] rfl rfl (new_cells _ [.string x.2.1] _) (by simp [Value.oneCell']) (by rw [hml]; simp only [maxLen]; omega) (by rw [hml]; omega) (by have := hob.sz; simp; omega) ?_; intro v' w1 hown' hgrow _; obtain ⟨g', cap', rfl⟩ := ownsRow_succ hown'; have hv1 := Blk.keptR (ho1.alloc (.cells #[.string x.2.1] 9)) hgrow (by intro e; have := (ho2.lt _ e.symm).1; have := HZ.out; omega); have hc1 := hv1.cell 0; have hf1 := hv1.frozen 0)
      have hol3 := (OL.alloc hob (.cells #[.string x.2.1] 9)).grow (p := x.2.1) (ho1.alloc _) (ho2.alloc _) hgrow (v' := .slice (some ⟨g', 0, none⟩) (pre.length + 1) cap') (by
        have := hown'
        unfold Owns
        rw [List.length_append, List.flatMap_append]
        simp only [List.length_cons, List.length_nil, List.flatMap_cons, List.flatMap_nil, List.append_nil, es, Nat.zero_add, hml] at this ⊢
        exact this)
      have hbe3 : Below w.heap.size w (w1.setCell ⟨w.heap.size, 0, none⟩ (.slice (some ⟨g', 0, none⟩) (pre.length + 1) cap')) := ((hbb.alloc (by have := hob.sz; have := HZ.out; omega) _).grown hgrow (by have := hob.sz; have := HZ.out; simp; omega) (fun k hk => by have := (ho2.lt k hk).1; have := HZ.out; omega)).setCell (p := ⟨w.heap.size, 0, none⟩) (Nat.le_refl _) _
      rw [← List.map_singleton (f := fun x : Nd => x.2.1), ← List.map_append] at hol3
      exact HRB.out _ hol3 hbe3
  · rintro e W2 ⟨hv, ho2, hb2⟩
    refine ⟨hv, _, _, ho2.lr, by rw [hst]; decide, ?_⟩
    rw [hpe]
    show Exit.inBlock _ _ _ _ _
    have ho3 : OL w.heap.size W0.heap.size { rec with state := .exhausted, pending := none } (ns.map (·.2.1)) (W2.putObj (W0.heap.size + 1) (.loop { rec with state := .exhausted, pending := none })) := ho2.put
    have hb3 : Below w.heap.size w (W2.putObj (W0.heap.size + 1) (.loop { rec with state := .exhausted, pending := none })) := hb2.grown (gput _ _ _) (by have := ho2.sz; omega) (fun k hk => by cases hk; omega)
    clear hl1 hd1 hol1 hb1 hB0 hb0 hz0
    generalize W2.putObj (W0.heap.size + 1) (.loop { rec with state := .exhausted, pending := none }) = W3 at *
    generalize ({ rec with state := .exhausted, pending := none } : Loop) = recX at *
    obtain ⟨o, h1, h2⟩ := ho3.out
    have b1 := h1.cell 0
    have hK := ho3.ld
    gi_wp2
    refine ⟨by simp, .inl ⟨_, _, rfl, run_takeDeferred hK, ?_⟩⟩
    have hg4 := gput W3 W0.heap.size (.deferred none)
    refine ⟨_, results_tmp rfl _ _ _, o, rfl, ?_, hb3.grown hg4 (by have := ho3.sz; have := HZ.out; omega) (fun k hk => by cases hk; have := HZ.out; omega)⟩
    refine (h2.mono (by have := HZ.out; omega)).grownOther hg4 ?_
    cases hv : o.ownBlock with
    | none => exact .inl rfl
    | some k => exact .inr fun e => by injection e with e; have := (h2.lt k hv).1; omega
end Go.Proofs.Ytnobcehiahcfkaa
