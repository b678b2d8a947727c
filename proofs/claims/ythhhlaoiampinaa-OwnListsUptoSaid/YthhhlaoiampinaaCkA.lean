/- chunk.Gear: what a byte adds. What a cutter's own steps leave as it was. -/
import Derived.Test.YthhhlaoiampinaaBytes
import Derived.Test.YthhhlaoiampinaaPcP
import Derived.Test.YthhhlaoiampinaaTwoOwn
import Derived.Laws.Closers25b
import Derived.RangeFuncIn
import Derived.RangeFuncRecord
namespace Go.Proofs.Ythhhlaoiampinaa
open Go.RowKit
def gearA (c : Int) : Int := (c + 1) % 4294967296 * 2654435761 % 4294967296
def gearB (c : Int) : Int := bits BinOp.xor IntKind.u32 (gearA c) (gearA c / 32768) * 2246822519 % 4294967296
def gearI (c : Int) : Int := bits BinOp.xor IntKind.u32 (gearB c) (gearB c / 8192)
def gear (c : UInt8) : Nat := (gearI c.toNat).toNat
theorem gear_int (c : UInt8) : ((gear c : Nat) : Int) = gearI c.toNat := Int.toNat_of_nonneg (bits_lo_u32 _ _ _)
theorem gear_lt (c : UInt8) : gear c < 4294967296 := by
  have h1 := gear_int c
  have h2 : gearI c.toNat ≤ 4294967295 := bits_hi_u32 _ _ _
  omega
set_option maxHeartbeats 1000000 in
theorem gear_any (c : UInt8) (w : World) :
    Calls Try.prog 107 #[bv c] w fun e w' => e = .returned (.int .u32 (gear c)) ∧ w' = w := by
  rw [gear_int]
  unfold bv
  go_enter Try.func107, Try.ntmps107
  go_wp2_with fail
  go_ret
  exact ⟨rfl, rfl⟩

/-! ### What steps on the cutter alone leave. -/
/-- Block k is cells of one of the cutter's two types. -/
def IsT (W : World) (k : Nat) : Prop := ∃ cs t m, W.heap[k]? = some (.cells cs t m) ∧ (t = 138 ∨ t = 5)
/-- From W to W': below n1 only blocks of the cutter's types, from n0 on, may have turned. -/
structure KT (n0 n1 : Nat) (W W' : World) : Prop where
  os : W'.os = W.os
  tape : W'.tape = W.tape
  output : W'.output = W.output
  size : W.heap.size ≤ W'.heap.size
  block : ∀ k, k < n1 → (k < n0 ∨ ¬ IsT W k) → W'.heap[k]? = W.heap[k]?
section
variable {n0 n1 : Nat} {A B C : World}
theorem KT.refl (n0 n1 : Nat) (W : World) : KT n0 n1 W W := ⟨rfl, rfl, rfl, Nat.le_refl _, fun _ _ _ => rfl⟩
theorem KT.trans (h : KT n0 n1 A B) (g : KT n0 n1 B C) : KT n0 n1 A C :=
  ⟨g.os.trans h.os, g.tape.trans h.tape, g.output.trans h.output, Nat.le_trans h.size g.size, fun k hk hp => by
    have e := h.block k hk hp
    refine (g.block k hk ?_).trans e
    rcases hp with hp | hp
    · exact .inl hp
    · refine .inr fun ht => hp ?_
      obtain ⟨cs, t, m, h1, h2⟩ := ht
      exact ⟨cs, t, m, e ▸ h1, h2⟩⟩
theorem KT.grown {row : Option Nat} (h : KT n0 n1 A B) (hn : n1 ≤ B.heap.size) (hg : B.grownBy C row) (hrow : ∀ k, row = some k → n1 ≤ k ∨ (n0 ≤ k ∧ IsT B k)) : KT n0 n1 A C := by
  refine h.trans ⟨hg.os, hg.tape, hg.output, hg.size, fun k hk hp => hg.block k (by omega) fun e => ?_⟩
  rcases hrow k e.symm with h1 | ⟨h1, h2⟩
  · omega
  · rcases hp with hp | hp
    · omega
    · exact hp h2
theorem KT.alloc (h : KT n0 n1 A B) (hn : n1 ≤ B.heap.size) (o : Obj) : KT n0 n1 A (B.alloc o) := h.grown hn (World.grownBy_alloc B o none) (fun _ e => by cases e)
theorem KT.drew (h : KT n0 n1 A B) : KT n0 n1 A B.drew := ⟨h.os, h.tape, h.output, h.size, h.block⟩
theorem KT.below (h : KT n0 n1 A B) (hn : n0 ≤ n1) : Below n0 A B := ⟨h.os, h.tape, h.output, h.size, fun k hk => h.block k (by omega) (.inl hk)⟩
end
theorem grownBy_set (W : World) (b i : Nat) (v : Value) : W.grownBy (W.setCell ⟨b, i, none⟩ v) (some b) :=
  ⟨rfl, rfl, rfl, by simp, fun k _ hk => Below.heap_setCell _ _ _ k (fun e => hk (by rw [e]))⟩
theorem grownBy_put (W : World) (l : Nat) (o : Obj) : W.grownBy (W.putObj l o) (some l) :=
  ⟨rfl, rfl, rfl, by simp, fun k _ hk => World.putObj_heap_other (fun e => hk (by rw [e]))⟩
theorem Owns.isT {α : Type} {w : World} {b s : Nat} {en : α → List Value} {v : Value} {xs : List α} (h : Owns w b 5 s en v xs) : ∀ k, v.ownBlock = some k → b ≤ k ∧ IsT w k := by
  intro k hk
  rcases h.form with ⟨rfl, _⟩ | ⟨g, cc, rfl⟩
  · cases hk
  · obtain ⟨hb, _, _, _, cur, hh, _, _⟩ := h.row
    obtain rfl : g = k := by simpa [Value.ownBlock] using hk
    exact ⟨hb, cur, _, _, hh, .inr rfl⟩
theorem Owns.notT {α : Type} {w : World} {b s : Nat} {en : α → List Value} {v : Value} {xs : List α} (h : Owns w b 9 s en v xs) : ∀ k, v.ownBlock = some k → b ≤ k ∧ ¬ IsT w k := by
  intro k hk
  rcases h.form with ⟨rfl, _⟩ | ⟨g, cc, rfl⟩
  · cases hk
  · obtain ⟨hb, _, _, _, cur, hh, _, _⟩ := h.row
    obtain rfl : g = k := by simpa [Value.ownBlock] using hk
    refine ⟨hb, ?_⟩
    rintro ⟨cs, t, m, h1, h2⟩
    unfold Blk at hh
    rw [hh] at h1
    injection h1 with h1
    injection h1 with _ h1 _
    subst h1
    rcases h2 with h2 | h2 <;> exact absurd h2 (by decide)
theorem Blk.isT {w : World} {g : Nat} {cs : Array Value} (h : Blk w g 138 cs) : IsT w g := ⟨cs, _, _, h, .inl rfl⟩
theorem Blk.notT {w : World} {g : Nat} {t : TypeId} {cs : Array Value} (h : Blk w g t cs) (ht : t ≠ 138 ∧ t ≠ 5) : ¬ IsT w g := by
  rintro ⟨cs, t', m, h1, h2⟩
  unfold Blk at h
  rw [h] at h1
  injection h1 with h1
  injection h1 with _ h1 _
  subst h1
  rcases h2 with h2 | h2
  · exact ht.1 h2
  · exact ht.2 h2
theorem obj_notT {w : World} {g : Nat} {o : Obj} (h : w.heap[g]? = some o) (ho : ∀ cs t m, o ≠ .cells cs t m) : ¬ IsT w g := by
  rintro ⟨cs, t', m, h1, h2⟩
  rw [h] at h1
  injection h1 with h1
  exact ho _ _ _ h1
theorem Blk.kept {w w' : World} {g : Nat} {t : TypeId} {cs : Array Value} {row : Option Nat} (h : Blk w g t cs) (hg : w.grownBy w' row) (hne : some g ≠ row) : Blk w' g t cs := (hg.block g h.lt hne).trans h

/-- The cutter in block c, from base n0 on: its sum, what it keeps. -/
def Cutter (w : World) (n0 c : Nat) (S : Nat) (r : List UInt8) : Prop := ∃ v, Blk w c 138 #[.int .u32 S, v] ∧ Owns w n0 5 1 eb v r
theorem Cutter.kept {w w' : World} {n0 c S : Nat} {r : List UInt8} {row : Option Nat} (h : Cutter w n0 c S r) (hg : w.grownBy w' row) (hrow : ∀ k, row = some k → ¬ IsT w k) : Cutter w' n0 c S r := by
  obtain ⟨v, h1, h2⟩ := h
  refine ⟨v, h1.kept hg (fun e => hrow c e.symm h1.isT), h2.grownOther hg ?_⟩
  cases hv : v.ownBlock with
  | none => exact .inl rfl
  | some k => exact .inr fun e => hrow k e.symm (h2.isT k hv).2
theorem Cutter.kt {w w' : World} {n0 n1 c S : Nat} {r : List UInt8} (h : Cutter w n0 c S r) (hn : w.heap.size ≤ n1) (hg : Below n1 w w') : Cutter w' n0 c S r := by
  obtain ⟨v, h1, h2⟩ := h
  exact ⟨v, (hg.block c (Nat.lt_of_lt_of_le h1.lt hn)).trans h1, h2.below (hg.mono hn)⟩
end Go.Proofs.Ythhhlaoiampinaa
