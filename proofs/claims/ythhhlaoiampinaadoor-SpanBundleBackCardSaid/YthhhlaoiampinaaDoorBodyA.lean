/- body: what size answers. -/
import Derived.Test.YthhhlaoiampinaaDoorDatV
import Derived.Test.YthhhlaoiampinaaDoorCtlP
import Derived.Test.YthhhlaoiampinaaDoorRegion
import Derived.Lib.AtoiErrMem
namespace Go.Proofs.YthhhlaoiampinaaDoor
set_option maxRecDepth 20000
open Go.RowKit
namespace Bd
/-- strconv's two errors are there. -/
structure HasErr (w : World) : Prop where
  p10 : HasP10 w
  syn : ∃ t p, w.cell? ⟨7, 0, none⟩ = some (.iface t p)
  ran : ∃ t p, w.cell? ⟨8, 0, none⟩ = some (.iface t p)
  lts : 7 < w.heap.size
  ltr : 8 < w.heap.size
theorem HasErr.below {w w' : World} (h : HasErr w) (hb : Below w.heap.size w w') : HasErr w' where
  p10 := h.p10.below rfl hb
  syn := h.syn.elim fun t x => x.elim fun p hp => ⟨t, p, (hb.cell h.lts).trans hp⟩
  ran := h.ran.elim fun t x => x.elim fun p hp => ⟨t, p, (hb.cell h.ltr).trans hp⟩
  lts := Nat.lt_of_lt_of_le h.lts hb.size
  ltr := Nat.lt_of_lt_of_le h.ltr hb.size
theorem atoi_in {l : List UInt8} {v : Int} (h : Lib.atoiAll l = .ok v) : -9223372036854775808 ≤ v ∧ v ≤ 9223372036854775807 := by
  unfold Lib.atoiAll at h
  split at h
  · cases h
  · dsimp only at h
    split at h
    · cases h
    · cases h
    · split at h
      · cases h
      · rename_i h1
        split at h
        · cases h
        · rename_i h2
          injection h with h
          subst h
          split <;> omega
def numF (p : List UInt8) : Int × Int :=
  match Lib.atoiAll p with
  | .ok v => if v < 0 ∨ 4 < p.length ∨ Lib.itoa v ≠ p then (0, 10) else if 5000 < v then (0, 2) else (v, 0)
  | _ => (0, 10)
def sizeF (s : ByteArray) : Int × Int :=
  match Tok.splitL (sl s) with
  | .error _ => (0, 10)
  | .ok [] => (0, 10)
  | .ok (p :: ps) => if (p :: ps).all (fun q => q == p) = true then numF p else (0, 10)
theorem numF_in (p : List UInt8) : (numF p).2 ≠ 0 ∧ (numF p).1 = 0 ∨ (numF p).2 = 0 ∧ 0 ≤ (numF p).1 ∧ (numF p).1 ≤ 5000 := by
  unfold numF
  split
  · split
    · exact .inl ⟨by simp, rfl⟩
    · rename_i h
      split
      · exact .inl ⟨by simp, rfl⟩
      · exact .inr ⟨rfl, by omega, by omega⟩
  · exact .inl ⟨by simp, rfl⟩
theorem sizeF_in (s : ByteArray) : (sizeF s).2 ≠ 0 ∧ (sizeF s).1 = 0 ∨ (sizeF s).2 = 0 ∧ 0 ≤ (sizeF s).1 ∧ (sizeF s).1 ≤ 5000 := by
  unfold sizeF
  split
  · exact .inl ⟨by simp, rfl⟩
  · exact .inl ⟨by simp, rfl⟩
  · split
    · exact numF_in _
    · exact .inl ⟨by simp, rfl⟩
theorem itoa_any (n : Int) (w : World) (h0 : -9223372036854775808 ≤ n) (h1 : n ≤ 9223372036854775807) (hp : HasP10 w) :
    Calls Tryd.prog 25 #[.int .i64 n] w fun e w' => e = .returned (.string (mkS (Lib.itoa n))) ∧ Below w.heap.size w w' := by
  refine (Tryd.strconv_Itoa n h0 h1 w hp.1).mono fun e w' ⟨he, k, os, hw⟩ => ⟨he, ?_⟩
  rw [hw]; exact below_grow_ _ w (Nat.le_refl _) k os
/-- What Atoi answers. -/
def AtoiR (p : List UInt8) (v : Int) (ev : Value) : Prop := (Lib.atoiAll p = .ok v ∧ ev = .nilIface) ∨ ((∀ u, Lib.atoiAll p ≠ .ok u) ∧ ∃ t q, ev = .iface t q)
theorem atoi_any (p : ByteArray) (w : World) (hs : p.size ≤ 1000) (h : HasErr w) :
    Calls Tryd.prog 54 #[.string p] w fun e w' => (∃ v ev, e = .returned (.tuple #[.int .i64 v, ev]) ∧ AtoiR (sl p) v ev) ∧ Below w.heap.size w w' := by
  obtain ⟨t1, p1, hsy⟩ := h.syn
  obtain ⟨t2, p2, hra⟩ := h.ran
  cases ha : Lib.atoiAll (sl p) with
  | ok v =>
    refine (Tryd.strconv_Atoi_ok p (by omega) v ha w).mono fun e w' ⟨he, hw⟩ => ⟨⟨v, _, he, .inl ⟨ha, rfl⟩⟩, ?_⟩
    rcases hw with rfl | ⟨t, rfl⟩
    · exact Below.refl _ _
    · exact Lib.bytesWorld_below _ _ _
  | «syntax» =>
    refine (Tryd.strconv_Atoi_syntax p (by omega) ha _ w hsy (.inr ⟨_, _, rfl⟩)).mono fun e w' ⟨N, he, _, _, hb⟩ => ⟨⟨_, _, he, .inr ⟨fun u hu => (by rw [ha] at hu; cases hu), _, _, rfl⟩⟩, hb⟩
  | range =>
    refine (Tryd.strconv_Atoi_range p (by omega) ha _ w hra (.inr ⟨_, _, rfl⟩)).mono fun e w' ⟨N, he, _, _, hb⟩ => ⟨⟨_, _, he, .inr ⟨fun u hu => (by rw [ha] at hu; cases hu), _, _, rfl⟩⟩, hb⟩
end Bd
end Go.Proofs.YthhhlaoiampinaaDoor
