/- body's decoder: its cells; what its steps answer. -/
import Derived.Test.YtoalfjkbgeiggaaGreatDoorZip7
import Derived.Test.YtoalfjkbgeiggaaGreatDoorZFldY
import Derived.Test.YtoalfjkbgeiggaaGreatDoorZRegionL
import Derived.Test.YtoalfjkbgeiggaaGreatDoorZip6
import Derived.Test.YtoalfjkbgeiggaaGreatDoorZTwoOwn
import Derived.Laws.EntriesVeiled
namespace Go.Proofs.YtoalfjkbgeiggaaGreatDoor
set_option maxRecDepth 20000
open Go.RowKit
open Ck
namespace Ck
def fnOf : St → Value
  | .head => .func (.func 78) #[] #[]
  | .data _ => .func (.func 104) #[] #[]
  | .trailer => .func (.func 105) #[] #[]
/-- The decoder in block d, from base n0 on. -/
def Dec (w : World) (n0 d : Nat) (st : St) (rest : ByteArray) (body : List UInt8) (done : Bool) : Prop :=
  ∃ (left : Nat) (v : Value), Blk w d 118 #[fnOf st, .string rest, .int .i64 (left : Int), v, .bool done, .bool false] ∧ Owns w n0 5 1 eb v body ∧ n0 ≤ d ∧ body.length ≤ 5000 ∧ ∀ k, st = .data k → left = k ∧ body.length + k ≤ 5000
/-- One that is bad, or will be. -/
def Bad (w : World) (d : Nat) (bad : Bool) : Prop := ∃ x0 x1 x2 x3, Blk w d 118 #[x0, x1, x2, x3, .bool false, .bool bad]
/-- What a step answers. -/
def StepAns (n0 d : Nat) (st : St) (rest : ByteArray) (body : List UInt8) (a : Ans) (e : Ending) (w' : World) : Prop :=
  match a with
  | .short => (∃ n, e = .returned (.tuple #[.int .i64 n, .int .i64 8])) ∧ Dec w' n0 d st rest body false
  | .err c => (∃ n, e = .returned (.tuple #[.int .i64 n, .int .i64 c])) ∧ c ≠ 0 ∧ c ≠ 8 ∧ Bad w' d false
  | .go k st' b => e = .returned (.tuple #[.int .i64 (k : Int), .int .i64 0]) ∧ Dec w' n0 d st' rest b false
  | .fin k => e = .returned (.tuple #[.int .i64 (k : Int), .int .i64 0]) ∧ Dec w' n0 d st rest body true
def HasMaxN (n0 : Nat) (w : World) : Prop := (∃ m, w.cell? ⟨3, 0, none⟩ = some (.int .i64 m)) ∧ 3 < n0
theorem HasMaxN.below {n0 : Nat} {w w' : World} (h : HasMaxN n0 w) (hb : Below n0 w w') : HasMaxN n0 w' :=
  ⟨h.1.elim fun m hm => ⟨m, (hb.cell h.2).trans hm⟩, h.2⟩
end Ck
theorem hdrop {n : Nat} {s : ByteArray} (h : n ≤ s.size) : sl (s.extract n s.size) = (sl s).drop n := sl_extract_end s n
theorem hpre_ok (r : List UInt8) : Lib.hasPrefix (13 :: 10 :: r) [13, 10] = true := by simp [Lib.hasPrefix]
end Go.Proofs.YtoalfjkbgeiggaaGreatDoor
