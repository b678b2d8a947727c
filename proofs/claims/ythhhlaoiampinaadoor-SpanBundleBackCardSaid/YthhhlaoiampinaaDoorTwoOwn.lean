/- Two lists of one's own in one region: what an append to the one leaves of the other. -/
import Derived.Test.YthhhlaoiampinaaDoorRows2
namespace Go.Proofs.YthhhlaoiampinaaDoor
open Go.RowKit
/-- Lists of two types lie in two blocks. -/
theorem Owns.apart {α β : Type} {w : World} {b1 b2 : Nat} {e1 e2 : TypeId} {s1 s2 : Nat} {en1 : α → List Value} {en2 : β → List Value} {v1 v2 : Value} {xs1 : List α} {xs2 : List β} (h1 : Owns w b1 e1 s1 en1 v1 xs1) (h2 : Owns w b2 e2 s2 en2 v2 xs2) (he : e1 ≠ e2) : v1.ownBlock = none ∨ v1.ownBlock ≠ v2.ownBlock := by
  rcases h1.form with ⟨rfl, _⟩ | ⟨g, cc, rfl⟩
  · exact .inl rfl
  · right
    obtain ⟨_, _, _, _, cur, hh, _, _⟩ := h1.row
    have := h2.ne_blk hh he
    exact fun e => this (by rw [← e]; rfl)
theorem Owns.grownOther {α : Type} {w w' : World} {b : Nat} {e : TypeId} {s : Nat} {en : α → List Value} {v : Value} {xs : List α} {row : Option Nat} (h : Owns w b e s en v xs) (hg : w.grownBy w' row) (hne : v.ownBlock = none ∨ v.ownBlock ≠ row) : Owns w' b e s en v xs := World.ownsRow.kept h hg hne
theorem SlR.grown {α : Type} {w w' : World} {en : α → List Value} {b o n c : Nat} {xs : List α} {row : Option Nat} (h : SlR w en (.slice (some ⟨b, o, none⟩) n c) xs) (hg : w.grownBy w' row) (hne : some b ≠ row) : SlR w' en (.slice (some ⟨b, o, none⟩) n c) xs := by
  obtain ⟨A, c', hv, hc, hx⟩ := h
  refine ⟨A, c', hv, hc, fun hn => ?_⟩
  obtain ⟨b', off, hA, hb, hcell⟩ := hx hn
  obtain ⟨rfl, rfl⟩ : b = b' ∧ o = off := by
    subst hA; injection hv with h1 h2 h3; injection h1 with h1; injection h1 with h1 h2; exact ⟨h1, h2⟩
  exact ⟨b, o, hA, Nat.lt_of_lt_of_le hb hg.size, fun j u hu => hg.cell (hcell j u hu) hne⟩
/-- What a region keeps: all below, and two cells of a block. -/
structure KS (W : World) (g : Nat) (x y : Value) (w : World) : Prop where
  bel : Below W.heap.size W w
  lt : g < w.heap.size
  c0 : w.cell? ⟨g, 0, none⟩ = some x
  c1 : w.cell? ⟨g, 1, none⟩ = some y
theorem KS.alloc {W : World} {g : Nat} {x y : Value} {w : World} (h : KS W g x y w) (o : Obj) : KS W g x y (w.alloc o) := by
  have hb : Below w.heap.size w (w.alloc o) := (Below.refl _ _).alloc (Nat.le_refl _) _
  exact ⟨h.bel.trans (hb.mono h.bel.size), Nat.lt_of_lt_of_le h.lt hb.size, (hb.cell h.lt).trans h.c0, (hb.cell h.lt).trans h.c1⟩
theorem KS.grown {W : World} {g : Nat} {x y : Value} {w w' : World} {row : Option Nat} (h : KS W g x y w) (hg : w.grownBy w' row) (hr : ∀ k, row = some k → W.heap.size ≤ k) (hne : some g ≠ row) : KS W g x y w' :=
  ⟨h.bel.grown hg h.bel.size hr, Nat.lt_of_lt_of_le h.lt hg.size, hg.cell h.c0 hne, hg.cell h.c1 hne⟩
theorem KS.drew {W : World} {g : Nat} {x y : Value} {w : World} (h : KS W g x y w) : KS W g x y w.drew := ⟨h.bel.drew, h.lt, h.c0, h.c1⟩
end Go.Proofs.YthhhlaoiampinaaDoor
