import Derived.RangeFuncNested
import Derived.RangeFuncBound
import Derived.RangeFuncCalls
import Derived.RangeFuncLeaves
import Derived.Shelf.Abstract
import Derived.Shelf.RegionOpen
import Derived.WalkKit
import Derived.OwnWalkIn
import Derived.TacticsInMore
import Derived.LoopNIn
import Derived.LoopIn
import Derived.Test.YtgjfhgcjiglfkaaGreatDoorD0
import Derived.Test.YtgjfhgcjiglfkaaGreatDoorD4
import Derived.LaidEqlPtr
import Derived.Lib.Builder
import Derived.Test.YtgjfhgcjiglfkaaGreatDoorD5
import Derived.Test.YtgjfhgcjiglfkaaGreatDoorD10
import Derived.Test.YtgjfhgcjiglfkaaGreatDoorD1
import Derived.OrdersIn
import Derived.Test.YtgjfhgcjiglfkaaGreatDoorChecked
import Derived.ProofKit
import Derived.OpenShut
import Derived.SliceStrings
import Derived.Deep.Slices
import Derived.Deep.Fields
import Derived.ChangeSame
import Derived.SizedLaws
import Derived.Lib.SmallJoins
import Derived.Deep.MidRow
import Derived.Deep.WholeRow
import Derived.Test.YtgjfhgcjiglfkaaGreatDoorD2
import Derived.WalkSpells
import Derived.IntWalk
import Derived.Laws.StructEq
import Derived.Test.YtgjfhgcjiglfkaaGreatDoorD3
import Derived.Shelf.SlGeneric
import Derived.Shelf.SlIter.Nil
import Derived.Shelf.SortM.Plain
import Derived.Shelf.SortM.SortNone
import Derived.Ground.GgzProg
import Derived.Ground.SlgmProg
import Derived.Test.YtgjfhgcjiglfkaaGreatDoorProg
import Derived.Maps.Own
import Derived.Maps.OwnSet
import Derived.Maps.Keyed
import Derived.StringKeys
import Derived.ArgAppend
import Derived.Laws.BitsAllLaws
import Derived.Lib.Split
set_option linter.unusedVariables false
set_option linter.unusedSimpArgs false
namespace Go.Proofs.YtgjfhgcjiglfkaaGreatDoor
set_option maxRecDepth 20000
open Go.RowKit Go.Shelf
attribute [local go_sem] Oper.semAt_some
theorem yieldB_of {F : Fence} {m D : Nat} {P : Program} {rec : Loop} {W : World} {args : Array Value} {R : Ending → World → Prop} (a₁ : Act) (hF : F.fn rec.fn) (hl : W.heap[D]? = some (.loop rec)) (hr : rec.state = .ready) (hp : rec.pending = none) (hs : args.size = rec.params.size)
    (hassign : ∀ K : Act → World → Prop, K a₁ W → rec.assign.wpIn (F.inRound D) m P (Exit.then K (fun _ _ _ => False)) { tmps := (rec.params.zip args).foldl (fun tmps (t, a) => tmps.setIfInBounds t a) rec.tmps, defers := [] } W)
    (hbody : rec.body.wpIn (F.inRound D) m P (fun e _ W3 => W3.heap[D]? = some (.loop { rec with state := .busy }) ∧ ((e = .normal ∧ R (.returned (.bool true)) (W3.putObj D (.loop rec))) ∨ ∃ id, e = .exit id ∧ R (.returned (.bool false)) (W3.putObj D (.loop { rec with state := .done, pending := some (.exit id) })))) a₁ (W.putObj D (.loop { rec with state := .busy }))) :
    YieldAt F m P D args W R := by
  refine ⟨rec.fn, _, rec.assign, rec.body, run_yield hl hs, roundIn_of_wpIn hF (wpIn_mono (hassign (fun a1 w1 => w1.heap[D]? = some (.loop rec) ∧ rec.body.wpIn (F.inRound D) m P (fun e _ W3 => W3.heap[D]? = some (.loop { rec with state := .busy }) ∧ ((e = .normal ∧ R (.returned (.bool true)) (W3.putObj D (.loop rec))) ∨ ∃ id, e = .exit id ∧ R (.returned (.bool false)) (W3.putObj D (.loop { rec with state := .done, pending := some (.exit id) })))) a1 (w1.putObj D (.loop { rec with state := .busy }))) ⟨hl, hbody⟩) ?_)⟩
  rintro e a1 w1 hq
  cases e with
  | normal =>
    obtain ⟨h1, h2⟩ := hq
    refine ⟨_, run_beginRound h1 hr, wpIn_mono h2 ?_⟩
    rintro e2 a2 w2 ⟨h3, h4⟩
    rcases h4 with ⟨rfl, h4⟩ | ⟨id, rfl, h4⟩
    · refine ⟨_, _, run_endRound none h3, ?_⟩
      have e : ({ { rec with state := LoopState.busy } with state := if (none : Option Code).isNone then LoopState.ready else LoopState.done, pending := none } : Loop) = rec := by
        obtain ⟨s, p, f, t, ps, asg, b, d⟩ := rec
        simp only at hr hp
        subst hr hp
        rfl
      rw [e]
      exact h4
    · exact ⟨_, _, run_endRound (some (.exit id)) h3, h4⟩
  | _ => exact hq.elim
theorem yieldR_of {F : Fence} {m D : Nat} {P : Program} {rec : Loop} {W : World} {args : Array Value} {R : Ending → World → Prop} (a₁ : Act) (hF : F.fn rec.fn) (hl : W.heap[D]? = some (.loop rec)) (hr : rec.state = .ready) (hp : rec.pending = none) (hs : args.size = rec.params.size)
    (hassign : ∀ K : Act → World → Prop, K a₁ W → rec.assign.wpIn (F.inRound D) m P (Exit.then K (fun _ _ _ => False)) { tmps := (rec.params.zip args).foldl (fun tmps (t, a) => tmps.setIfInBounds t a) rec.tmps, defers := [] } W)
    (hbody : rec.body.wpIn (F.inRound D) m P (fun e _ W3 => W3.heap[D]? = some (.loop { rec with state := .busy }) ∧ ((e = .normal ∧ R (.returned (.bool true)) (W3.putObj D (.loop rec))) ∨ (e = .ret ∧ R (.returned (.bool false)) (W3.putObj D (.loop { rec with state := .done, pending := some .ret }))))) a₁ (W.putObj D (.loop { rec with state := .busy }))) :
    YieldAt F m P D args W R := by
  refine ⟨rec.fn, _, rec.assign, rec.body, run_yield hl hs, roundIn_of_wpIn hF (wpIn_mono (hassign (fun a1 w1 => w1.heap[D]? = some (.loop rec) ∧ rec.body.wpIn (F.inRound D) m P (fun e _ W3 => W3.heap[D]? = some (.loop { rec with state := .busy }) ∧ ((e = .normal ∧ R (.returned (.bool true)) (W3.putObj D (.loop rec))) ∨ (e = .ret ∧ R (.returned (.bool false)) (W3.putObj D (.loop { rec with state := .done, pending := some .ret }))))) a1 (w1.putObj D (.loop { rec with state := .busy }))) ⟨hl, hbody⟩) ?_)⟩
  rintro e a1 w1 hq
  cases e with
  | normal =>
    obtain ⟨h1, h2⟩ := hq
    refine ⟨_, run_beginRound h1 hr, wpIn_mono h2 ?_⟩
    rintro e2 a2 w2 ⟨h3, h4⟩
    rcases h4 with ⟨rfl, h4⟩ | ⟨rfl, h4⟩
    · refine ⟨_, _, run_endRound none h3, ?_⟩
      have e : ({ { rec with state := LoopState.busy } with state := if (none : Option Code).isNone then LoopState.ready else LoopState.done, pending := none } : Loop) = rec := by
        obtain ⟨s, p, f, t, ps, asg, b, d⟩ := rec
        simp only at hr hp
        subst hr hp
        rfl
      rw [e]
      exact h4
    · exact ⟨_, _, run_endRound (some .ret) h3, h4⟩
  | _ => exact hq.elim
theorem wpIn_rangeFunc_out {F : Fence} {n : Nat} {P : Program} {g : Operand} {ps : Array Tmp} {assign body : Code} {Q : Exit → Act → World → Prop} {a : Act} {w : World}
    (hro : F.round = none) (h1 : 1 ≤ n) {gf : Nat} {fs lb : Array Value} (hg : a.eval g = .func (.func gf) fs lb) (hFg : F.fn gf) (eg : ∀ args w, (callFunc gf args).run P w = .ok (.enter gf args) w)
    (h : ∀ rec : Loop, F.fn rec.fn → rec.state = .ready → rec.pending = none → rec.tmps = a.tmps → rec.params = ps → rec.assign = assign → rec.body = body →
      CallsIn F (n - 1) P gf (fs ++ #[.func (.yield (w.heap.size + 1)) #[] #[]] ++ lb) ((w.alloc (.deferred (some []))).alloc (.loop rec)) fun e W2 => (∃ v, e = .returned v) ∧ ∃ st pd, W2.heap[w.heap.size + 1]? = some (.loop { rec with state := st, pending := pd }) ∧ st ≠ .busy ∧
        (match pd with
          | none => Q .normal { a with defers := { target := .collected w.heap.size, args := #[] } :: a.defers } (W2.putObj (w.heap.size + 1) (.loop { rec with state := .exhausted, pending := none }))
          | some c => c.wpIn F n P Q { a with defers := { target := .collected w.heap.size, args := #[] } :: a.defers } (W2.putObj (w.heap.size + 1) (.loop { rec with state := .exhausted, pending := some c })))) :
    (Code.rangeFunc g ps assign body).wpIn F n P Q a w := by
  refine wpIn_rangeFunc ?_
  intro fn hfn
  rw [hro]
  obtain ⟨rec, hrec⟩ : ∃ rec : Loop, rec = { state := .ready, pending := none, fn, tmps := a.tmps, params := ps, assign, body, defers := w.heap.size } := ⟨_, rfl⟩
  refine ⟨w.heap.size + 1, [{ target := .collected w.heap.size, args := #[] }], (w.alloc (.deferred (some []))).alloc (.loop rec), { target := .fn (.func gf) lb, args := fs ++ #[.func (.yield (w.heap.size + 1)) #[] #[]] }, (w.alloc (.deferred (some []))).alloc (.loop rec), gf,
    fs ++ #[.func (.yield (w.heap.size + 1)) #[] #[]] ++ lb, (w.alloc (.deferred (some []))).alloc (.loop rec), ?_, ?_, ?_, ?_, fun _ => h1, ?_⟩
  · rw [hrec]; exact run_enterLoop_outer _ _ _ _ _
  · simp only [resolve, hg]
    simp [go_sem]
  · intro f' hf'; simp [Target.leads] at hf'; subst hf'; exact hFg
  · simp [invoke, go_sem, eg]
  · refine (h rec (by rw [hrec]; exact hfn) (by rw [hrec]) (by rw [hrec]) (by rw [hrec]) (by rw [hrec]) (by rw [hrec]) (by rw [hrec])).mono ?_
    rintro e W2 ⟨⟨v, rfl⟩, st, pd, hl, hst, hq⟩
    have := run_endLoop (P := P) hl hst
    cases pd with
    | none => exact ⟨none, _, this, hq⟩
    | some c => exact ⟨some c, _, this, hq⟩
set_option maxRecDepth 20000
attribute [local go_sem] Oper.semAt_some
set_option maxRecDepth 20000
attribute [local go_sem] Oper.semAt_some
section
variable {B D : Nat} {rec rec' : Loop} {pre : List ByteArray} {W W' : World}
end
set_option maxRecDepth 20000
section
variable {w w' : World} {n0 : Lim} {p mb : Nat} {room U : Int} {es : List Pe}
end
set_option maxRecDepth 20000
set_option maxRecDepth 20000
attribute [local go_sem] Oper.semAt_some
end Go.Proofs.YtgjfhgcjiglfkaaGreatDoor
namespace Go.Proofs.YtgjfhgcjiglfkaaGreatDoor
open Go.RowKit
def Wide (n : Int) : Prop := -9223372036854775808 ≤ n ∧ n ≤ 9223372036854775807
theorem wide_of {n : Int} (h : (Lit.int .i64 n).wf = true) : Wide n := by
  simp only [Lit.wf, Bool.and_eq_true, decide_eq_true_eq] at h
  exact ⟨h.1, h.2⟩
theorem tmod_way (n m : Int) (hm : 0 < m) : (0 ≤ n.tmod m → n.tmod m = n % m) ∧ (n.tmod m < 0 → n.tmod m + m = n % m) := by
  have h := Int.tmod_eq_emod (a := n) (b := m)
  have h0 := Int.emod_nonneg n (b := m) (by omega)
  have h1 := Int.emod_lt_of_pos n hm
  split at h
  · omega
  · rw [show (m.natAbs : Int) = m from by omega] at h; omega
set_option maxHeartbeats 400000 in
theorem rest_any (n m : Int) (w : World) (h0 : Wide n) (hm : 0 < m ∧ m ≤ 4611686018427387904) :
    Calls Tryz.prog 25 #[.int .i64 n, .int .i64 m] w fun e w' => e = .returned (.int .i64 (n % m)) ∧ w = w' := by
  have h := h0
  unfold Wide at h
  have ht := tmod_way n m hm.1
  have h2 := Int.emod_nonneg n (b := m) (by omega)
  have h1 := Int.emod_lt_of_pos n hm.1
  have hz : (m == 0) = false := by rw [beq_eq_false_iff_ne]; omega
  generalize hr : n % m = r at *
  have HT := Lib.hid ht
  clear ht hr
  go_enter Tryz.func25, Tryz.ntmps25
  go_wp2
  all_goals
    go_ret
    refine ⟨ret_int ?_, rfl⟩
  · rw [← HT.out.2 (by assumption)]
    have := HT.out.2 (by assumption)
    unfold wrap64; omega
  · exact HT.out.1 (by assumption)
open Go.ChangeShapes Go.WideShapes Go.Deep Go.RowKit Go.Joins
section
variable {H : Type} {enc : TypeId × Value → H} {P : Program} {w : World} {base : Nat} {spare : Nat → Bool} {held : Bool}
theorem slr_of {α : Type} {en : α → List Value} {size : Nat} (R : Nat → α → Prop) (hen : ∀ x, (en x).length = size) {a : Addr} {len cap : Nat} (hlen : len ≤ cap) (hsz : 0 < size)
    (h : ∀ i, i < len → ∃ x : α, (∀ j u, (en x)[j]? = some u → w.cell? (a.add (i * size + j)) = some u) ∧ R i x) : ∃ xs : List α, xs.length = len ∧ SlR w en (.slice (some a) len cap) xs ∧ (∀ i (hi : i < xs.length), R i xs[i]) := by
  have : ∃ xs : List α, xs.length = len ∧ (∀ i (hi : i < xs.length), (∀ j u, (en xs[i])[j]? = some u → w.cell? (a.add (i * size + j)) = some u) ∧ R i xs[i]) := by
    clear hlen
    induction len with
    | zero => exact ⟨[], rfl, fun i hi => by simp at hi⟩
    | succ n ih =>
      obtain ⟨xs, hl, hx⟩ := ih (fun i hi => h i (by omega))
      obtain ⟨x, hx'⟩ := h n (by omega)
      refine ⟨xs ++ [x], by simp [hl], fun i hi => ?_⟩
      by_cases hi' : i < xs.length
      · rw [List.getElem_append_left hi']; exact hx i hi'
      · have : i = n := by simp at hi; omega
        subst this
        rw [List.getElem_append_right (by omega)]
        simpa [hl] using hx'
  obtain ⟨xs, hl, hx⟩ := this
  refine ⟨xs, hl, ?_, fun i hi => (hx i hi).2⟩
  subst hl
  refine ⟨_, cap, rfl, hlen, fun hn => ?_⟩
  have flat : ∀ (ys : List α) j, (ys.flatMap en)[j]? = (ys[j / size]?).bind fun y => (en y)[j % size]? := by
    intro ys
    induction ys with
    | nil => intro j; simp
    | cons y ys ih =>
      intro j
      rw [List.flatMap_cons, List.getElem?_append, hen y]
      by_cases hj : j < size
      · rw [if_pos hj, Nat.div_eq_of_lt hj, Nat.mod_eq_of_lt hj]; rfl
      · rw [if_neg hj, ih, show j = (j - size) + size from by omega, Nat.add_div_right _ hsz, Nat.add_mod_right]
        simp
  have hall : ∀ j u, (xs.flatMap en)[j]? = some u → w.cell? (a.add j) = some u := by
    intro j u hu
    rw [flat] at hu
    obtain ⟨y, hy, hu'⟩ := Option.bind_eq_some_iff.1 hu
    obtain ⟨hlt, rfl⟩ := List.getElem?_eq_some_iff.1 hy
    have := (hx (j / size) hlt).1 (j % size) u hu'
    rwa [Nat.div_add_mod' j size] at this
  obtain ⟨u0, hu0⟩ : ∃ u, (xs.flatMap en)[0]? = some u := by
    have : 0 < (xs.flatMap en).length := by
      cases xs with
      | nil => simp at hn
      | cons x xs => rw [List.flatMap_cons, List.length_append, hen x]; omega
    exact ⟨_, List.getElem?_eq_getElem this⟩
  have hc0 := hall 0 u0 hu0
  obtain ⟨b, off, spot⟩ := a
  have e0 : (⟨b, off, spot⟩ : Addr).add 0 = ⟨b, off, spot⟩ := by simp [Addr.add]
  rw [e0] at hc0
  have hspot : spot = none := by simpa using World.cell?_spot hc0
  subst hspot
  refine ⟨b, off, rfl, World.block_lt_of_cell? _ _ hc0, fun j u hu => ?_⟩
  have := hall j u hu
  have e : ((⟨b, off, none⟩ : Addr).add j) = ⟨b, off + j, none⟩ := by unfold Addr.add; split <;> simp_all
  rwa [e] at this
end
set_option maxRecDepth 20000
section
variable {H : Type} {P : Program} {enc : TypeId × Value → H} {w : World} {base : Nat} {spare : Nat → Bool} {held : Bool}
end
section
variable {H : Type} {enc : TypeId × Value → H} {w : World} {base : Nat} {spare : Nat → Bool} {held : Bool}
end
end Go.Proofs.YtgjfhgcjiglfkaaGreatDoor
namespace Go.Proofs.YtgjfhgcjiglfkaaGreatDoor
open Go.RowKit
set_option maxRecDepth 20000
open Go.RowKit Go.Shelf
set_option maxRecDepth 20000
abbrev Kv := ByteArray × Int
def kv (ns : List Nd) : List Kv := ns.map (·.2)
set_option maxRecDepth 20000
set_option maxRecDepth 20000
set_option maxRecDepth 20000
section
variable {D E : ByteArray → Bool} {ks : List ByteArray} {es : List Pe} {t : ByteArray} {v : Int}
end
section
variable {w w' : World} {n0 : Lim} {p mb : Nat} {room U : Int} {es : List Pe}
end
set_option maxRecDepth 20000
set_option maxRecDepth 20000
section
variable {es es' : List Pe} {cs cs' ds : List ByteArray}
end
set_option maxRecDepth 20000
abbrev Out := Value × ByteArray
section
variable {w w' : World} {n0 : Lim} {p mb : Nat} {room : Int} {es : List Pe} {os : List Out}
end
set_option maxRecDepth 20000
set_option maxRecDepth 20000
namespace Bk
end Bk
set_option maxRecDepth 20000
namespace Bk
end Bk
end Go.Proofs.YtgjfhgcjiglfkaaGreatDoor
namespace Go.Proofs.YtgjfhgcjiglfkaaGreatDoor
open Go.RowKit
abbrev Fld := ByteArray × ByteArray
end Go.Proofs.YtgjfhgcjiglfkaaGreatDoor
namespace Go.Proofs.YtgjfhgcjiglfkaaGreatDoor
open Go.RowKit
section
variable {w w1 w2 : World} {row : Option Nat} {g : Nat}
end
end Go.Proofs.YtgjfhgcjiglfkaaGreatDoor
namespace Go.Proofs.YtgjfhgcjiglfkaaGreatDoor
open Go.RowKit
end Go.Proofs.YtgjfhgcjiglfkaaGreatDoor
namespace Go.Proofs.YtgjfhgcjiglfkaaGreatDoor
open Go.RowKit
end Go.Proofs.YtgjfhgcjiglfkaaGreatDoor
namespace Go.Proofs.YtgjfhgcjiglfkaaGreatDoor
open Go.RowKit
set_option maxRecDepth 20000
namespace Vy
end Vy
end Go.Proofs.YtgjfhgcjiglfkaaGreatDoor
namespace Go.Proofs
open Go.Shelf
end Go.Proofs
namespace Go.Proofs.YtgjfhgcjiglfkaaGreatDoor
set_option maxRecDepth 20000
open Go.RowKit Go.Maps
namespace Vy
def anyR {H : Type} : Value → Option (DataW H × List MemPlace) := fun _ => some (.lit (.bool true), [])
theorem size_put {H : Type} {w : World} {b n : Nat} {D : DataW H} (h : w.ownsMap Tryz.prog 9 anyR b n D) : Maps.size D ≤ n := World.ownsMap.size_le h
end Vy
end Go.Proofs.YtgjfhgcjiglfkaaGreatDoor
namespace Go.Proofs.YtgjfhgcjiglfkaaGreatDoor
set_option maxRecDepth 20000
open Go.RowKit
namespace Vy
end Vy
set_option maxRecDepth 20000
theorem dirInfo : ElemInfo Tryz.prog 86 (.agg #[.string ByteArray.empty, .bool false, .string ByteArray.empty]) 3 40 := by unfold ElemInfo; kernel_rfl
theorem sbs_one (l : List Dr) : ∀ u ∈ l.flatMap e_sbs, u.oneCell' = true := by
  intro u hu
  obtain ⟨d, _, hd⟩ := List.mem_flatMap.1 hu
  simp only [e_sbs, List.mem_cons, List.not_mem_nil, or_false] at hd
  rcases hd with rfl | rfl | rfl <;> rfl
theorem split_code {l : List UInt8} {c : Int} (h : Tok.splitL l = .error c) : 2 ≤ c ∧ c ≤ 3 := by
  unfold Tok.splitL at h
  split at h
  · injection h with h; omega
  · split at h
    · injection h with h; omega
    · split at h
      · injection h with h; omega
      · cases h
abbrev Drv := ByteArray × Bool × ByteArray
def zd : Drv := (ByteArray.empty, false, ByteArray.empty)
def findD (l : List Drv) (n : ByteArray) : Option Drv := l.find? (fun d => d.1.toList == n.toList)
def secs : Nat → List UInt8 → Nat
  | n, [] => n
  | n, c :: r => if 48 ≤ c && c ≤ 57 then secs (min (10 * n + (c.toNat - 48)) 2147483648) r else 0
def secD (l : List Drv) (n : ByteArray) : Nat × Bool := match findD l n with | some d => (secs 0 (sl d.2.2), true) | none => (0, false)
set_option maxRecDepth 20000
namespace Dp
def nMA : ByteArray := ⟨#[109, 97, 120, 45, 97, 103, 101]⟩
def hasD (l : List Dr) (n : ByteArray) : Bool := (findD l n).isSome
end Dp
set_option maxRecDepth 20000
namespace Dp
end Dp
set_option maxRecDepth 20000
open Go.RowKit Go.Maps
namespace Vy
end Vy
end Go.Proofs.YtgjfhgcjiglfkaaGreatDoor
namespace Go.Proofs.YtgjfhgcjiglfkaaGreatDoor
set_option maxRecDepth 20000
open Go.RowKit
namespace Dp
end Dp
end Go.Proofs.YtgjfhgcjiglfkaaGreatDoor
namespace Go.Proofs.YtgjfhgcjiglfkaaGreatDoor
set_option maxRecDepth 20000
open Go.RowKit
namespace Pol
end Pol
namespace Pol
end Pol
set_option maxRecDepth 20000
namespace Pol
end Pol
set_option maxRecDepth 20000
namespace Pol
end Pol
namespace Tar
def alnum (c : UInt8) : Bool := (97 ≤ c && c ≤ 122) || (65 ≤ c && c ≤ 90) || (48 ≤ c && c ≤ 57)
def marks : List UInt8 := [45, 46, 95, 126]
def freeB (c : UInt8) : Bool := alnum c || marks.contains c
def hexU (d : Nat) : UInt8 := if d < 10 then UInt8.ofNat (48 + d) else UInt8.ofNat (55 + d)
def esc3 (c : UInt8) : List UInt8 := [37, hexU (c.toNat / 16), hexU (c.toNat % 16)]
def esc (c : UInt8) : List UInt8 := if freeB c then [c] else esc3 c
theorem esc_len (c : UInt8) : (esc c).length ≤ 3 := by unfold esc esc3; split <;> simp
def digI (c : UInt8) : Int :=
  if 48 ≤ c ∧ c ≤ 57 then (c.toNat : Int) - 48 else if 97 ≤ c ∧ c ≤ 102 then (c.toNat : Int) - 87 else if 65 ≤ c ∧ c ≤ 70 then (c.toNat : Int) - 55 else -1
theorem digI_bd (c : UInt8) : -1 ≤ digI c ∧ digI c ≤ 15 := by
  unfold digI
  simp only [u8_le]
  have e48 : ((48 : UInt8).toNat : Int) = 48 := rfl
  have e57 : ((57 : UInt8).toNat : Int) = 57 := rfl
  have e97 : ((97 : UInt8).toNat : Int) = 97 := rfl
  have e102 : ((102 : UInt8).toNat : Int) = 102 := rfl
  have e65 : ((65 : UInt8).toNat : Int) = 65 := rfl
  have e70 : ((70 : UInt8).toNat : Int) = 70 := rfl
  rw [e48, e57, e97, e102, e65, e70]
  split
  · omega
  · split
    · omega
    · split <;> omega
end Tar
theorem talnum_iff (c : UInt8) : Tar.alnum c = true ↔ (97 ≤ (c.toNat : Int) ∧ (c.toNat : Int) ≤ 122) ∨ (65 ≤ (c.toNat : Int) ∧ (c.toNat : Int) ≤ 90) ∨ (48 ≤ (c.toNat : Int) ∧ (c.toNat : Int) ≤ 57) := by
  simp [Tar.alnum, u8_le]
  omega
set_option maxHeartbeats 800000 in
theorem isFree_any (c : UInt8) (w : World) :
    Calls Tryz.prog 84 #[.int .u8 c.toNat] w fun e w' => e = .returned (.bool (Tar.freeB c)) ∧ w = w' := by
  have hb := c.toNat_lt
  cases ha : Tar.alnum c
  · have hn : ¬ _ := fun h => by have := (talnum_iff c).2 h; rw [ha] at this; cases this
    have hi : decide (0 ≤ Lib.indexByte Tar.marks c) = Tar.freeB c := by rw [indexByte_nn]; unfold Tar.freeB; rw [ha, Bool.false_or]
    have hc : (c.toNat : Int).toNat.toUInt8 = c := by simp
    have HI := Lib.hid (Tryz.strings_IndexByte ⟨Tar.marks.toArray⟩ (c.toNat : Int))
    rw [hc] at HI
    have HD := Lib.hid hi
    clear hc hi ha
    simp only [not_or, not_and, Int.not_le] at hn
    obtain ⟨n1, n2, n3⟩ := hn
    go_enter Tryz.func84, Tryz.ntmps84
    go_wp2_with ((go_at_call 158; refine (HI.out _).mono ?_); rintro e w' ⟨rfl, rfl⟩)
    all_goals
      first
        | (exfalso; omega)
        | (go_ret
           exact ⟨ret_bool (by first | exact HD.out | (rw [Bool.eq_iff_iff, ← HD.out]; simp; try omega)), rfl⟩)
  · have hy := (talnum_iff c).1 ha
    have HT : Hid (Tar.freeB c = true) := by show _ = _; unfold Tar.freeB; rw [ha]; rfl
    clear ha
    go_enter Tryz.func84, Tryz.ntmps84
    go_wp2_with fail
    all_goals
      first
        | (exfalso; omega)
        | (go_ret
           exact ⟨ret_bool HT.out.symm, rfl⟩)
set_option maxHeartbeats 800000 in
theorem digit_any (c : UInt8) (w : World) :
    Calls Tryz.prog 157 #[.int .u8 c.toNat] w fun e w' => e = .returned (.int .i64 (Tar.digI c)) ∧ w = w' := by
  have hb := c.toNat_lt
  have HD : Hid (Tar.digI c = if 48 ≤ (c.toNat : Int) ∧ (c.toNat : Int) ≤ 57 then (c.toNat : Int) - 48 else if 97 ≤ (c.toNat : Int) ∧ (c.toNat : Int) ≤ 102 then (c.toNat : Int) - 87 else if 65 ≤ (c.toNat : Int) ∧ (c.toNat : Int) ≤ 70 then (c.toNat : Int) - 55 else -1) := by
    show _ = _; unfold Tar.digI; simp only [u8_le]; rfl
  generalize Tar.digI c = d at *
  generalize c.toNat = n at *
  go_enter Tryz.func157, Tryz.ntmps157
  go_wp2_with fail
  all_goals
    first
      | (exfalso; omega)
      | (go_ret
         exact ⟨ret_int (by rw [HD.out]; first | (rw [if_pos (by omega)]; done) | (rw [if_pos (by omega)]; omega) | (rw [if_neg (by omega), if_pos (by omega)]; omega) | (rw [if_neg (by omega), if_neg (by omega), if_pos (by omega)]; omega) | (rw [if_neg (by omega), if_neg (by omega), if_neg (by omega)])), rfl⟩)
def EscRet (base : Nat) (l : List UInt8) (e : Ending) (w' : World) : Prop := ∃ v, e = .returned v ∧ Owns w' base 5 1 eb v l
def hexs : ByteArray := ⟨#[48, 49, 50, 51, 52, 53, 54, 55, 56, 57, 65, 66, 67, 68, 69, 70]⟩
theorem hexs_at (d : Nat) (h : d < 16) : hexs[d]'h = Tar.hexU d := by
  have : ∀ d : Fin 16, hexs[d.1]'d.2 = Tar.hexU d.1 := by decide
  exact this ⟨d, h⟩
set_option maxHeartbeats 1600000 in
set_option maxRecDepth 10000 in
theorem escape_any (v : Value) (c : UInt8) (l : List UInt8) (base : Nat) (w : World) (h : Owns w base 5 1 eb v l) (hb : base ≤ w.heap.size) (hl : l.length ≤ 100000000) :
    Calls Tryz.prog 85 #[v, .int .u8 c.toNat] w fun e w' => EscRet base (l ++ Tar.esc3 c) e w' ∧ w.grownBy w' v.ownBlock := by
  have HO := Lib.hid h
  have hc := c.toNat_lt
  have q1 : (c.toNat : Int) / 16 < 16 := by omega
  have q0 : 0 ≤ (c.toNat : Int) / 16 := by omega
  have q2 : bits BinOp.and IntKind.u8 (c.toNat : Int) 15 = ((c.toNat % 16 : Nat) : Int) := by
    have := u8_and_nat c.toNat 15 hc (by omega)
    rw [show ((15 : Nat) : Int) = 15 from rfl] at this
    rw [this, show (15 : Nat) = 2 ^ 4 - 1 from rfl, Nat.and_two_pow_sub_one_eq_mod]
  have q3 : (c.toNat : Int) % 16 < 16 := by omega
  have q6 : 0 ≤ (c.toNat : Int) % 16 := by omega
  have q4 : ∀ h, (⟨#[48, 49, 50, 51, 52, 53, 54, 55, 56, 57, 65, 66, 67, 68, 69, 70]⟩ : ByteArray)[((c.toNat : Int) / 16).toNat]'h = Tar.hexU (c.toNat / 16) := by
    intro h
    have e : ((c.toNat : Int) / 16).toNat = c.toNat / 16 := by omega
    have := hexs_at (c.toNat / 16) (by omega)
    rw [← this]
    show hexs[_]'_ = _
    congr 1
  have q5 : ∀ h, (⟨#[48, 49, 50, 51, 52, 53, 54, 55, 56, 57, 65, 66, 67, 68, 69, 70]⟩ : ByteArray)[((c.toNat : Int) % 16).toNat]'h = Tar.hexU (c.toNat % 16) := by
    intro h
    have e : ((c.toNat : Int) % 16).toNat = c.toNat % 16 := by omega
    have := hexs_at (c.toNat % 16) (by omega)
    rw [← this]
    show hexs[_]'_ = _
    congr 1
  generalize hx : Tar.hexU (c.toNat / 16) = x at *
  generalize hy : Tar.hexU (c.toNat % 16) = y at *
  clear h
  go_enter Tryz.func85, Tryz.ntmps85
  go_wp2_with fail
  refine wp_region_plan (.take 0 (.take 1 (.take 2 (.take 3 (.take 4 (.take 5 (.take 6 (.eff 7 (.eff 8 (.take 9 .nil)))))))))) (fun _ => True) (by kernel_rfl) (by kernel_rfl) (fun _ _ _ _ _ h => h) (by kernel_rfl) (by kernel_rfl) trivial ?_
  iterate 7 (first | (apply seqP_skip; (focus (simp only [List.getElem?_toArray, List.getElem?_cons_succ, List.getElem?_cons_zero]; rfl)); (focus rfl); simp only [Act.put, List.setIfInBounds_toArray, List.set_cons_zero, List.set_cons_succ]) | (apply seqP_take; (focus (simp only [List.getElem?_toArray, List.getElem?_cons_succ, List.getElem?_cons_zero]; rfl)); (focus rfl); (focus (intro w' hS; skip; first | (go_simp; rfl) | (go_simp; done))); simp only [Act.put, List.setIfInBounds_toArray, List.set_cons_zero, List.set_cons_succ]))
  have hE3 : Hid (Tar.esc3 c = [37, x, y]) := by show _ = _; unfold Tar.esc3; rw [hx, hy]
  clear q4 q5 hx hy
  apply seqP_eff
  (focus (simp only [List.getElem?_toArray, List.getElem?_cons_succ, List.getElem?_cons_zero]; rfl))
  (focus rfl)
  intro K hK
  go_simp
  have sA : Below w.heap.size w (w.alloc (.cells #[.int .u8 37, .int .u8 x.toNat, .int .u8 y.toNat] 5)).drew := ((Below.refl w.heap.size w).alloc (Nat.le_refl _) _).drew
  refine hK _ _ ⟨trivial, ?_⟩
  clear hK K
  have HN : SlR (w.alloc (.cells #[.int .u8 37, .int .u8 x.toNat, .int .u8 y.toNat] 5)).drew eb (.slice (some ⟨w.heap.size, 0, none⟩) 3 3) [37, x, y] := (SlR.lit (enc := eb) w [.int .u8 37, .int .u8 x.toNat, .int .u8 y.toNat] 5 [37, x, y] rfl).drew
  have HO2 := Lib.hid (HO.out.below sA)
  apply seqP_eff
  (focus (simp only [List.getElem?_toArray, List.getElem?_cons_succ, List.getElem?_cons_zero]; rfl))
  (focus rfl)
  intro K hK
  refine wp_append_owns (.tmp 5) (.tmp 12) _ rfl base 5 (.int .u8 0) 1 1 eb Tryz.underlying135 byteInfo rfl (by decide) (fun _ => rfl) v l rfl HO2.out _ [37, x, y] rfl HN (eb_one _) (by simp only [maxLen, List.length_cons, List.length_nil]; omega) (by simp only [List.length_cons, List.length_nil]; omega) (Nat.le_trans hb sA.size) ?_
  intro v' w' ho hg
  refine hK _ _ ⟨trivial, ?_⟩
  clear hK K
  iterate 1 (first | (apply seqP_skip; (focus (simp only [List.getElem?_toArray, List.getElem?_cons_succ, List.getElem?_cons_zero]; rfl)); (focus rfl); simp only [Act.put, List.setIfInBounds_toArray, List.set_cons_zero, List.set_cons_succ]) | (apply seqP_take; (focus (simp only [List.getElem?_toArray, List.getElem?_cons_succ, List.getElem?_cons_zero]; rfl)); (focus rfl); (focus (intro w' hS; skip; first | (go_simp; rfl) | (go_simp; done))); simp only [Act.put, List.setIfInBounds_toArray, List.set_cons_zero, List.set_cons_succ]))
  refine seqP_nil ?_
  go_wp2_with fail
  go_ret
  refine ⟨⟨_, rfl, by rw [hE3.out]; exact ho⟩, ?_⟩
  exact ⟨hg.os.trans sA.os, hg.tape.trans sA.tape, hg.output.trans sA.output, Nat.le_trans sA.size hg.size, fun k hk hr => (hg.block k (Nat.lt_of_lt_of_le hk sA.size) hr).trans (sA.block k hk)⟩
namespace Tar
def by16 (a b : UInt8) : UInt8 := UInt8.ofNat (16 * digI a + digI b).toNat
def unescL : List UInt8 → Option (List UInt8)
  | [] => some []
  | c :: r => if c == 37 then (match r with | a :: b :: r' => if 0 ≤ digI a ∧ 0 ≤ digI b then (unescL r').map (by16 a b :: ·) else none | _ => none) else (unescL r).map (c :: ·)
theorem unescL_bad {c a b : UInt8} {r : List UInt8} (h : (c == 37) = true) (hn : digI a < 0 ∨ digI b < 0) : unescL (c :: a :: b :: r) = none := by
  simp only [unescL, h, if_true]; rw [if_neg (by omega)]
theorem unescL_short {c : UInt8} {r : List UInt8} (h : (c == 37) = true) (hr : r.length < 2) : unescL (c :: r) = none := by
  rcases r with _ | ⟨a, _ | ⟨b, r⟩⟩
  · simp only [unescL, h, if_true]
  · simp only [unescL, h, if_true]
  · simp at hr; omega
theorem map_snoc {o : Option (List UInt8)} {acc : List UInt8} {d : UInt8} : (o.map (d :: ·)).map (acc ++ ·) = o.map ((acc ++ [d]) ++ ·) := by
  cases o <;> simp
end Tar
def Acc (w : World) (base g : Nat) (l : List UInt8) : Prop := base ≤ g ∧ base ≤ w.heap.size ∧ ∃ v, Blk w g 135 #[v] ∧ Owns w base 5 1 eb v l ∧ v.ownBlock ≠ some g
theorem Acc.drew {w : World} {base g : Nat} {l : List UInt8} (h : Acc w base g l) : Acc w.drew base g l := h
theorem i64_or16 (x y : Int) (h0 : 0 ≤ x) (h1 : x ≤ 15) (h2 : 0 ≤ y) (h3 : y ≤ 15) : bits BinOp.or IntKind.i64 (x * 16) y = x * 16 + y := by
  obtain ⟨a, rfl⟩ := Int.eq_ofNat_of_zero_le h0
  obtain ⟨b, rfl⟩ := Int.eq_ofNat_of_zero_le h2
  have ha : a * 16 < 4294967296 := by omega
  have hb : b < 4294967296 := by omega
  have hx : a * 16 ||| b < 2 ^ 32 := Nat.or_lt_two_pow (by omega) (by omega)
  rw [show (a : Int) * 16 = ((a * 16 : Nat) : Int) from by omega]
  show IntKind.i64.wrap ((BitVec.ofInt 64 ((a * 16 : Nat) : Int) ||| BitVec.ofInt 64 (b : Int)).toNat : Int) = _
  rw [BitVec.toNat_or, BitVec.ofInt_natCast, BitVec.toNat_ofNat, BitVec.ofInt_natCast, BitVec.toNat_ofNat, Nat.mod_eq_of_lt (a := a * 16) (by omega), Nat.mod_eq_of_lt (a := b) (by omega), IntWalk.i64_in _ (by omega), nat_join 4 _ _ (by omega) (by omega)]
  omega
theorem by16_val (a b : UInt8) (ha : 0 ≤ Tar.digI a) (hb : 0 ≤ Tar.digI b) : ((Tar.by16 a b).toNat : Int) = Tar.digI a * 16 + Tar.digI b := by
  have h1 := Tar.digI_bd a
  have h2 := Tar.digI_bd b
  unfold Tar.by16
  rw [UInt8.toNat_ofNat']
  omega
def sg (c : UInt8) : List UInt8 → List UInt8 → List (List UInt8)
  | cur, [] => [cur]
  | cur, x :: r => if x == c then cur :: sg c [] r else sg c (cur ++ [x]) r
theorem sg_c (c : UInt8) (cur : List UInt8) (x : UInt8) (r : List UInt8) : sg c cur (x :: r) = if x == c then cur :: sg c [] r else sg c (cur ++ [x]) r := rfl
theorem sg_plain {c : UInt8} : ∀ (u cur v : List UInt8), c ∉ u → sg c cur (u ++ v) = sg c (cur ++ u) v
  | [], cur, v, _ => by simp
  | x :: u, cur, v, h => by
    have hc : ¬ (x == c) = true := by rw [beq_iff_eq]; intro e; apply h; simp [e]
    rw [List.cons_append, sg_c, if_neg hc, sg_plain u _ v (fun e => h (by simp [e])), List.append_assoc]; rfl
theorem sg_one {c : UInt8} {u : List UInt8} (h : c ∉ u) : sg c [] u = [u] := by
  have := sg_plain u [] [] h
  rw [List.append_nil, List.nil_append] at this
  rw [this]; rfl
theorem sg_hit {c : UInt8} (u v : List UInt8) (h : c ∉ u) : sg c [] (u ++ c :: v) = u :: sg c [] v := by
  rw [sg_plain u [] _ h, List.nil_append, sg_c, if_pos (by simp)]
theorem sg_ne (c : UInt8) : ∀ (l cur : List UInt8), sg c cur l ≠ []
  | [], cur => by simp [sg]
  | x :: r, cur => by
    rw [sg_c]
    split
    · simp
    · exact sg_ne c r _
theorem joinTail_c (c y : List UInt8) (ys : List (List UInt8)) : Lib.joinTail c (y :: ys) = c ++ y ++ Lib.joinTail c ys := by simp [Lib.joinTail]
theorem sg_join (c : UInt8) : ∀ (l cur : List UInt8), Lib.join (sg c cur l) [c] = cur ++ l
  | [], cur => by show Lib.join [cur] [c] = _; rw [Lib.join_one, List.append_nil]
  | x :: r, cur => by
    rw [sg_c]
    split
    · rename_i hx
      have ih := sg_join c r []
      cases hs : sg c [] r with
      | nil => exact absurd hs (sg_ne c r [])
      | cons y ys =>
        rw [hs] at ih
        rw [Lib.join_cons] at ih
        rw [Lib.join_cons, joinTail_c, List.append_assoc [c] y, ih, beq_iff_eq.1 hx]
        simp
    · rw [sg_join c r _]; simp
theorem cut_at (c : UInt8) : ∀ l : List UInt8, c ∉ l ∨ ∃ a b, l = a ++ c :: b ∧ c ∉ a
  | [] => .inl (by simp)
  | x :: l => by
    by_cases hx : x = c
    · exact .inr ⟨[], l, by simp [hx], by simp⟩
    · rcases cut_at c l with h | ⟨a, b, rfl, h⟩
      · exact .inl (by simp [h, Ne.symm hx])
      · exact .inr ⟨x :: a, b, rfl, by simp [h, Ne.symm hx]⟩
theorem index_hit1 (c : UInt8) (b : List UInt8) : ∀ a : List UInt8, c ∉ a → Lib.index (a ++ c :: b) [c] = (a.length : Int)
  | [], _ => by
    rw [List.nil_append]
    unfold Lib.index
    rw [if_pos (by simp [List.isPrefixOf])]; rfl
  | x :: a, h => by
    have hx : ¬ c = x := fun e => h (by simp [e])
    have ih := index_hit1 c b a (fun e => h (by simp [e]))
    rw [List.cons_append]
    unfold Lib.index
    rw [if_neg (by simp [List.isPrefixOf, hx]), ih, if_neg (by simp), List.length_cons]
    omega
theorem index_no1 (c : UInt8) : ∀ l : List UInt8, c ∉ l → Lib.index l [c] = -1
  | [], _ => rfl
  | x :: a, h => by
    have hx : ¬ c = x := fun e => h (by simp [e])
    have ih := index_no1 c a (fun e => h (by simp [e]))
    unfold Lib.index
    rw [if_neg (by simp [List.isPrefixOf, hx]), ih, if_pos (by decide)]
theorem splitB_sg (c : UInt8) : ∀ (n : Nat) (s : ByteArray), s.size ≤ n → Lib.splitB ⟨#[c]⟩ 0 (Lib.countB s ⟨#[c]⟩) s = (sg c [] (sl s)).map mkS := by
  intro n
  induction n with
  | zero =>
    intro s hs
    obtain rfl := empty_of_size s (by omega)
    rw [Lib.splitB_miss _ _ _ _ (by show Lib.index (sl ByteArray.empty) [c] = -1; rw [sl_empty]; rfl), sl_empty]; rfl
  | succ n ih =>
    intro s hs
    rcases cut_at c (sl s) with h | ⟨a, b, he, ha⟩
    · rw [Lib.splitB_miss _ _ _ _ (by show Lib.index (sl s) [c] = -1; exact index_no1 c _ h), sg_one h, List.map_cons, List.map_nil, mkS_sl]
    · have hi : Lib.indexB s ⟨#[c]⟩ = (a.length : Int) := by show Lib.index (sl s) [c] = _; rw [he]; exact index_hit1 c b a ha
      have hb : sl (s.extract (a.length + 1) s.size) = b := by
        rw [sl_extract_end, he, show a ++ c :: b = (a ++ [c]) ++ b by simp, List.drop_left' (by simp)]
      have ha' : s.extract 0 (a.length + 0) = mkS a := by
        apply sl_inj
        rw [sl_extract, sl_mkS, he]; simp
      rw [Lib.countB_hit s ⟨#[c]⟩ a.length (by show 1 ≤ 1; exact Nat.le_refl _) hi, Nat.add_comm 1, Lib.splitB_hit _ _ _ _ a.length hi, ha']
      rw [show (⟨#[c]⟩ : ByteArray).size = 1 from rfl]
      rw [ih _ (by
        have := congrArg List.length hb
        rw [sl_len] at this
        have h2 := congrArg List.length he
        rw [sl_len] at h2
        simp only [List.length_append, List.length_cons] at h2
        omega), hb, he, sg_hit a b ha]
      rfl
theorem split1_any (s : ByteArray) (c : UInt8) (w : World) (hs : s.size < 4294967281) (hm : ∃ m, w.cell? ⟨0, 0, none⟩ = some (.int .i64 m)) :
    Calls Tryz.prog 76 #[.string s, .string ⟨#[c]⟩] w fun e w' => (∃ v, e = .returned v ∧ SlR w' es v ((sg c [] (sl s)).map mkS)) ∧ Below w.heap.size w w' := by
  obtain ⟨m, hm⟩ := hm
  refine (Tryz.strings_Split s ⟨#[c]⟩ m w hs hm (by show 1 ≤ 1; exact Nat.le_refl _)).mono fun e w' ⟨he, hw⟩ => ⟨?_, hw ▸ (Below.refl _ _).alloc (Nat.le_refl _) _⟩
  have hl := Lib.splitB_all ⟨#[c]⟩ (by show 1 ≤ 1; exact Nat.le_refl _) 0 _ s rfl
  rw [splitB_sg c _ s (Nat.le_refl _)] at hw hl
  refine ⟨_, he, ?_⟩
  rw [hw, ← hl]
  have := SlR.lit (enc := es) w (((sg c [] (sl s)).map mkS).map Value.string) 9 ((sg c [] (sl s)).map mkS) (by rw [es_map])
  exact this
set_option maxRecDepth 20000
namespace Tar
def normL : List UInt8 → Option (List UInt8)
  | [] => some []
  | c :: r => if c == 37 then (match r with | a :: b :: r' => if 0 ≤ digI a ∧ 0 ≤ digI b then (normL r').map (esc (by16 a b) ++ ·) else none | _ => none) else (normL r).map (c :: ·)
theorem normL_plain {c : UInt8} {r : List UInt8} (h : (c == 37) = false) : normL (c :: r) = (normL r).map (c :: ·) := by
  rcases r with _ | ⟨a, _ | ⟨b, r⟩⟩ <;> simp only [normL, h, Bool.false_eq_true, if_false]
theorem normL_esc {c a b : UInt8} {r : List UInt8} (h : (c == 37) = true) (ha : 0 ≤ digI a) (hb : 0 ≤ digI b) : normL (c :: a :: b :: r) = (normL r).map (esc (by16 a b) ++ ·) := by
  simp only [normL, h, if_true]; rw [if_pos ⟨ha, hb⟩]
theorem normL_bad {c a b : UInt8} {r : List UInt8} (h : (c == 37) = true) (hn : digI a < 0 ∨ digI b < 0) : normL (c :: a :: b :: r) = none := by
  simp only [normL, h, if_true]; rw [if_neg (by omega)]
theorem normL_short {c : UInt8} {r : List UInt8} (h : (c == 37) = true) (hr : r.length < 2) : normL (c :: r) = none := by
  rcases r with _ | ⟨a, _ | ⟨b, r⟩⟩
  · simp only [normL, h, if_true]
  · simp only [normL, h, if_true]
  · simp at hr; omega
theorem map_app {o : Option (List UInt8)} {acc p : List UInt8} : (o.map (p ++ ·)).map (acc ++ ·) = o.map ((acc ++ p) ++ ·) := by
  cases o <;> simp
theorem normL_form (r : List UInt8) : r = [] ∨ (∃ c r', r = c :: r' ∧ (c == 37) = false) ∨ (∃ c a b r', r = c :: a :: b :: r' ∧ (c == 37) = true ∧ 0 ≤ digI a ∧ 0 ≤ digI b) ∨ (normL r = none ∧ unescL r = none) := by
  rcases r with _ | ⟨c, r⟩
  · exact .inl rfl
  · cases h : (c == 37)
    · exact .inr (.inl ⟨c, r, rfl, h⟩)
    · rcases r with _ | ⟨a, _ | ⟨b, r⟩⟩
      · exact .inr (.inr (.inr ⟨normL_short h (by simp), unescL_short h (by simp)⟩))
      · exact .inr (.inr (.inr ⟨normL_short h (by simp), unescL_short h (by simp)⟩))
      · by_cases hd : 0 ≤ digI a ∧ 0 ≤ digI b
        · exact .inr (.inr (.inl ⟨c, a, b, r, rfl, h, hd.1, hd.2⟩))
        · exact .inr (.inr (.inr ⟨normL_bad h (by omega), unescL_bad h (by omega)⟩))
theorem sym_ind {P : List UInt8 → List UInt8 → Prop} (h0 : P [] []) (h1 : ∀ c r b, (c == 37) = false → normL r = some b → P r b → P (c :: r) (c :: b)) (h2 : ∀ c x y r b, (c == 37) = true → 0 ≤ digI x → 0 ≤ digI y → normL r = some b → P r b → P (c :: x :: y :: r) (esc (by16 x y) ++ b)) : ∀ (n : Nat) (l b : List UInt8), l.length ≤ n → normL l = some b → P l b
  | n, l, b, hn, h => by
    rcases normL_form l with rfl | ⟨c, r, rfl, hc⟩ | ⟨c, x, y, r, rfl, hc, hx, hy⟩ | ⟨hf, -⟩
    · have : b = [] := by simp [normL] at h; exact h
      subst this; exact h0
    · rw [normL_plain hc] at h
      obtain ⟨b', hb, rfl⟩ := Option.map_eq_some_iff.1 h
      match n, hn with
      | n + 1, hn => exact h1 c r b' hc hb (sym_ind h0 h1 h2 n r b' (by simp at hn; omega) hb)
    · rw [normL_esc hc hx hy] at h
      obtain ⟨b', hb, rfl⟩ := Option.map_eq_some_iff.1 h
      match n, hn with
      | n + 1, hn => exact h2 c x y r b' hc hx hy hb (sym_ind h0 h1 h2 n r b' (by simp at hn; omega) hb)
    · rw [hf] at h; cases h
theorem norm_len {l b : List UInt8} (h : normL l = some b) : b.length ≤ l.length :=
  sym_ind (P := fun l b => b.length ≤ l.length) (Nat.le_refl _) (fun c r b _ _ ih => by simp; exact ih) (fun c x y r b _ _ _ _ ih => by have := esc_len (by16 x y); simp only [List.length_append, List.length_cons]; omega) _ l b (Nat.le_refl _) h
def goodB (c : UInt8) : Bool := 33 ≤ c && c ≤ 126 && !(c == 35)
theorem norm_mid {c : UInt8} (h37 : (c == 37) = false) (hd : digI c < 0) (y : List UInt8) : ∀ (n : Nat) (x : List UInt8), x.length ≤ n → normL (x ++ c :: y) = (normL x).bind fun a => (normL y).map fun b => a ++ c :: b
  | n, x, hn => by
    rcases x with _ | ⟨e, x⟩
    · rw [List.nil_append, normL_plain h37]
      show _ = (normL y).map _
      rfl
    · simp only [List.length_cons] at hn
      match n, hn with
      | n + 1, hn =>
        rw [List.cons_append]
        cases he : (e == 37)
        · rw [normL_plain he, normL_plain he, norm_mid h37 hd y n x (by omega)]
          cases normL x <;> cases normL y <;> rfl
        · rcases x with _ | ⟨a, _ | ⟨b, x⟩⟩
          · rw [normL_short he (by simp : ([] : List UInt8).length < 2), List.nil_append]
            rcases y with _ | ⟨z, y⟩
            · rw [normL_short he (by simp)]; rfl
            · rw [normL_bad he (.inl hd)]; rfl
          · rw [normL_short he (by simp : [a].length < 2)]
            show normL (e :: a :: c :: y) = _
            rw [normL_bad he (.inr hd)]; rfl
          · show normL (e :: a :: b :: (x ++ c :: y)) = _
            by_cases h : 0 ≤ digI a ∧ 0 ≤ digI b
            · rw [normL_esc he h.1 h.2, normL_esc he h.1 h.2, norm_mid h37 hd y n x (by simp at hn; omega)]
              cases normL x <;> cases normL y <;> simp
            · rw [normL_bad he (by omega), normL_bad he (by omega)]; rfl
theorem norm_at {c : UInt8} (h37 : (c == 37) = false) (hd : digI c < 0) {x y b : List UInt8} (h : normL (x ++ c :: y) = some b) : ∃ a z, normL x = some a ∧ normL y = some z ∧ b = a ++ c :: z := by
  rw [norm_mid h37 hd y _ x (Nat.le_refl _)] at h
  cases hx : normL x with
  | none => rw [hx] at h; cases h
  | some a =>
    cases hy : normL y with
    | none => rw [hx, hy] at h; cases h
    | some z => rw [hx, hy] at h; injection h with h; exact ⟨a, z, rfl, rfl, h.symm⟩
def dotsF : List (List UInt8) → List (List UInt8) → List (List UInt8)
  | out, [] => out
  | out, s :: r => if s = [46, 46] then dotsF (out.dropLast ++ (if r.isEmpty then [[]] else [])) r else if s = [46] then dotsF (out ++ (if r.isEmpty then [[]] else [])) r else dotsF (out ++ [s]) r
theorem dots_ne : ∀ (l out : List (List UInt8)), l ≠ [] ∨ out ≠ [] → l = [] ∨ dotsF out l ≠ []
  | [], out, _ => .inl rfl
  | s :: r, out, _ => by
    right
    have key : ∀ o : List (List UInt8), (r = [] → o ≠ []) → dotsF o r ≠ [] := by
      intro o ho
      cases r with
      | nil => exact ho rfl
      | cons a r =>
        rcases dots_ne (a :: r) o (.inl (by simp)) with h | h
        · cases h
        · exact h
    unfold dotsF
    split
    · exact key _ (fun h => by subst h; simp)
    · split
      · exact key _ (fun h => by subst h; simp)
      · exact key _ (fun _ => by simp)
def tot (W : List UInt8 → Nat) (l : List (List UInt8)) : Nat := (l.map fun s => W s + 1).sum
theorem tot_app (W : List UInt8 → Nat) (a b : List (List UInt8)) : tot W (a ++ b) = tot W a + tot W b := by unfold tot; rw [List.map_append, List.sum_append]
theorem tot_dropLast (W : List UInt8 → Nat) : ∀ l : List (List UInt8), tot W l.dropLast ≤ tot W l
  | [] => Nat.le_refl _
  | [x] => Nat.zero_le _
  | x :: y :: l => by
    have := tot_dropLast W (y :: l)
    rw [List.dropLast_cons_cons]
    show tot W ([x] ++ (y :: l).dropLast) ≤ tot W ([x] ++ (y :: l))
    rw [tot_app, tot_app]; omega
theorem dots_tot (W : List UInt8 → Nat) (h0 : W [] = 0) : ∀ (l out : List (List UInt8)), tot W (dotsF out l) ≤ tot W out + tot W l
  | [], out => by simp [dotsF, tot]
  | s :: r, out => by
    have hs : tot W (s :: r) = (W s + 1) + tot W r := by unfold tot; simp
    have he : tot W (if r.isEmpty then [[]] else [] : List (List UInt8)) ≤ 1 := by split <;> simp [tot, h0]
    unfold dotsF
    split
    · have h1 := dots_tot W h0 r (out.dropLast ++ (if r.isEmpty then [[]] else []))
      have h2 := tot_dropLast W out
      rw [tot_app] at h1; omega
    · split
      · have h1 := dots_tot W h0 r (out ++ (if r.isEmpty then [[]] else []))
        rw [tot_app] at h1; omega
      · have h1 := dots_tot W h0 r (out ++ [s])
        have h2 : tot W [s] = W s + 1 := by unfold tot; simp
        rw [tot_app] at h1; omega
theorem join_tot (c : UInt8) : ∀ l : List (List UInt8), l ≠ [] → (Lib.join l [c]).length + 1 = tot List.length l
  | [], h => absurd rfl h
  | [x], _ => by rw [Lib.join_one]; simp [tot]
  | x :: y :: l, _ => by
    have ih := join_tot c (y :: l) (by simp)
    rw [Lib.join_cons] at ih
    rw [Lib.join_cons, joinTail_c]
    have h : tot List.length (x :: y :: l) = x.length + 1 + tot List.length (y :: l) := by unfold tot; simp
    rw [h, ← ih]
    simp only [List.length_append, List.length_cons, List.length_nil]; omega
def dotsP (p : List UInt8) : List UInt8 := 47 :: Lib.join (dotsF [] (sg 47 [] (p.drop 1))) [47]
theorem s47 : ((47 : UInt8) == 37) = false ∧ digI 47 < 0 ∧ ((63 : UInt8) == 37) = false ∧ digI 63 < 0 := by decide
end Tar
set_option maxRecDepth 20000
namespace Tar
def cutQ (b : List UInt8) : List UInt8 × List UInt8 := match cutC 63 b with | none => (b, []) | some (a, r) => (a, 63 :: r)
def normalF (l : List UInt8) : Except Int (List UInt8) :=
  if 200 < l.length then .error 2
  else if l.head? ≠ some 47 then .error 3
  else match normL l with
    | none => .error 3
    | some b => if l.all goodB = true then .ok (dotsP (cutQ b).1 ++ (cutQ b).2) else .error 3
theorem normalF_code {l : List UInt8} {c : Int} (h : normalF l = .error c) : c = 2 ∨ c = 3 := by
  unfold normalF at h
  split at h
  · injection h; omega
  · split at h
    · injection h; omega
    · split at h
      · injection h; omega
      · split at h
        · cases h
        · injection h; omega
theorem seg_tot (pr : List UInt8) : tot List.length (sg 47 [] pr) = pr.length + 1 := by
  have := join_tot 47 (sg 47 [] pr) (sg_ne 47 pr [])
  rw [sg_join] at this
  rw [← this]; simp
def U (s : List UInt8) : Nat := match unescL s with | some a => a.length | none => 0
end Tar
end Go.Proofs.YtgjfhgcjiglfkaaGreatDoor
