/- span's agree: slices of one text agree. -/
import Derived.Test.YthhhlaoiampinaaDoorSpbP
import Derived.Test.YthhhlaoiampinaaDoorMapI
import Derived.Test.YthhhlaoiampinaaDoorRegionL
import Derived.IntWalk
import Derived.WalkArith
namespace Go.Proofs.YthhhlaoiampinaaDoor
set_option maxRecDepth 20000
open Go.RowKit
namespace Spb
open Spc
/-- What the map knows is what the text has. -/
def Knows (D : List UInt8) (f : Int → Option Value) : Prop := ∀ k c, f k = some c → ∃ (j : Nat) (b : UInt8), k = (j : Int) ∧ D[j]? = some b ∧ c = .int .u8 (b.toNat : Int)
theorem Knows.nil (D : List UInt8) : Knows D (fun _ => none) := fun k c h => by cases h
theorem Knows.put {D : List UInt8} {f : Int → Option Value} (h : Knows D f) {j : Nat} {b : UInt8} (hb : D[j]? = some b) : Knows D (MI.fput f (j : Int) (.int .u8 (b.toNat : Int))) := by
  intro k c hk
  unfold MI.fput at hk
  split at hk
  · rename_i he
    injection hk with hk
    exact ⟨j, b, he, hb, hk.symm⟩
  · exact h k c hk
theorem Knows.at {D : List UInt8} {f : Int → Option Value} (h : Knows D f) {j : Nat} {b : UInt8} (hb : D[j]? = some b) : f (j : Int) = none ∨ f (j : Int) = some (.int .u8 (b.toNat : Int)) := by
  cases hf : f (j : Int) with
  | none => exact .inl rfl
  | some c =>
    obtain ⟨j', b', h1, h2, h3⟩ := h _ _ hf
    obtain rfl : j = j' := by omega
    rw [hb] at h2
    injection h2 with h2
    subst h2
    exact .inr (by rw [h3])
set_option maxHeartbeats 4000000 in
theorem agree_any (v1 v2 : Value) (l : List (Int × Int)) (ts : List ByteArray) (D : List UInt8) (n : Int) (w : World) (h1 : SlR w e_ii v1 l) (h2 : SlR w es v2 ts) (hlen : ts.length = l.length) (hl : l.length ≤ 20) (hn : n = (D.length : Int)) (hok : okL n l) (ht : ∀ i (h : i < l.length), sl (ts[i]'(by omega)) = cutT D l[i]) :
    Calls Tryd.prog 23 #[v1, v2] w fun e w' => e = .returned (.bool true) ∧ Below w.heap.size w w' := by
  have H1 := Lib.hid h1
  have H2 := Lib.hid h2
  have HL := Lib.hid hlen
  have HO : Hid (∀ i (h : i < l.length), conB l[i].1 l[i].2 n = true) := fun i h => hok l[i] (List.getElem_mem h)
  have HTt : Hid (∀ i (h : i < l.length) (h2 : i < ts.length), sl ts[i] = cutT D l[i]) := fun i h _ => ht i h
  have HN := Lib.hid hn
  obtain ⟨A, c, rfl, hc, -⟩ := h1
  obtain ⟨A2, c2, rfl, hc2, -⟩ := h2
  clear hok ht hn
  clear hlen
  have hmm := @run_makeMap Tryd.prog
  have hM0 := MI.MapI.made w Tryd.prog 3
  go_enter Tryd.func23, Tryd.ntmps23
  go_wp2_with fail
  clear hmm
  go_loopw [14] (fun i wr => ∃ k : Nat, k ≤ l.length ∧ i = .int .i64 k ∧ (∃ f cn, MI.MapI Tryd.prog wr 3 w.heap.size f cn ∧ Knows D f ∧ cn ≤ k * 100000) ∧ Below w.heap.size w wr) (fun i _ => l.length - (intOf i).toNat)
  case atStart => exact ⟨0, by omega, rfl, ⟨_, _, hM0, Knows.nil D, Nat.zero_le _⟩, (Below.refl _ _).alloc (Nat.le_refl _) _⟩
  case round =>
    obtain ⟨k, hk, rfl, ⟨f, cn, hmap, hkn, hcn⟩, hbel⟩ := hrel
    by_cases hlt : k < l.length
    · have hlt2 : k < ts.length := by have := HL.out; omega
      obtain ⟨b, off, c', he, hbb, hcell⟩ := H1.out.two (fun _ => rfl) (by omega)
      obtain ⟨rfl, rfl⟩ : A = some ⟨b, off, none⟩ ∧ c = c' := by injection he with h1 h2 h3; exact ⟨h1, h3⟩
      obtain ⟨q0, q1⟩ := hcell k hlt (.int .i64 l[k].1) (.int .i64 l[k].2) rfl rfl
      obtain ⟨b2, off2, c2', he2, hc2', hbb2, hcell2⟩ := H2.out.texts (by omega)
      obtain ⟨rfl, rfl⟩ : A2 = some ⟨b2, off2, none⟩ ∧ c2 = c2' := by injection he2 with h1 h2 h3; exact ⟨h1, h3⟩
      have q2 := hcell2 k hlt2
      have c0 := (hbel.cell (p := ⟨b, off + k * 2, none⟩) hbb).trans q0
      have c1 := (hbel.cell (p := ⟨b, off + k * 2 + 1, none⟩) hbb).trans q1
      have hcon := HO.out k hlt
      have htx := HTt.out k hlt hlt2
      have hTx : w.cell? ⟨b2, off2 + k, none⟩ = some (.string ts[k]) := q2
      have hki : (k : Int) < (ts.length : Int) := by omega
      clear hcell hcell2 q0 q1 q2 he he2 hc2'
      generalize l[k] = d at *
      generalize ts[k] = tx at *
      obtain ⟨x, y⟩ := d
      dsimp only at c0 c1 hcon htx
      have hin := conB_in hcon
      have hnD := HN.out
      have hsz : tx.size = y.toNat - x.toNat := by rw [← sl_len, htx]; exact cutT_len hnD hcon
      obtain ⟨nx, rfl⟩ : ∃ nx : Nat, x = nx := ⟨x.toNat, by omega⟩
      have hsz2 : nx + tx.size ≤ 99999 := by omega
      have HBt : Hid (∀ j (h : j < tx.size), D[nx + j]? = some tx[j]) := by
        intro j h
        have h3 := sl_getElem? tx j h
        rw [htx] at h3
        unfold cutT at h3
        rw [List.getElem?_take] at h3
        split at h3
        · rw [List.getElem?_drop] at h3
          simpa using h3
        · cases h3
      clear hin hcon htx hsz hnD
      have HB0 := hbel.alloc hbel.size (.cells #[.int .i64 (nx : Int), .int .i64 y] 31)
      have HM1 := Lib.hid (hmap.alloc (.cells #[.int .i64 (nx : Int), .int .i64 y] 31))
      have HK := Blk.new wr 31 #[.int .i64 (nx : Int), .int .i64 y]
      have t0 := (HB0.cell (p := ⟨b2, off2 + k, none⟩) hbb2).trans hTx
      have hmlt := hmap.lt
      clear hmap
      obtain ⟨S, hS⟩ : ∃ S, S = wr.heap.size := ⟨_, rfl⟩
      go_wp2_with fail
      rw [← hS] at HK ⊢
      have hwS : w.heap.size < S := by omega
      clear t0 c0 c1 hS hmlt
      generalize wr.alloc (.cells #[.int .i64 (nx : Int), .int .i64 y] 31) = wa at *
      go_loopw [24] (fun i w5 => ∃ j : Nat, j ≤ tx.size ∧ i = .int .i64 j ∧ (∃ f cn, MI.MapI Tryd.prog w5 3 w.heap.size f cn ∧ Knows D f ∧ cn ≤ k * 100000 + j) ∧ Below w.heap.size w w5 ∧ Blk w5 S 31 #[.int .i64 (nx : Int), .int .i64 y]) (fun i _ => tx.size - (intOf i).toNat)
      case atStart => exact ⟨0, by omega, rfl, ⟨f, cn, HM1.out, hkn, Nat.le_trans hcn (Nat.le_add_right _ _)⟩, HB0, HK⟩
      case round =>
        obtain ⟨j, hj, rfl, ⟨f, cn, hmap, hkn, hcn⟩, hb5, hK5⟩ := hrel
        by_cases hjl : j < tx.size
        · have hDj := HBt.out j hjl
          have hcs := hkn.at hDj
          obtain ⟨Q, hQ⟩ : ∃ Q : Int, ((nx + j : Nat) : Int) = Q := ⟨_, rfl⟩
          have hq2 : (nx : Int) + (j : Int) = Q := by omega
          have hwr : IntKind.i64.wrap ((nx : Int) + (j : Int)) = Q := by rw [IntWalk.i64_in _ (by omega)]; exact hq2
          have hwf : (Lit.int .i64 Q).wf = true := WalkArith.wf_i64 (by omega)
          have hwQ : IntKind.i64.wrap Q = Q := IntWalk.i64_in _ (by omega)
          have hlk := hmap.look_ok (t := 79) (e := 5) Tryd.underlying3 Tryd.underlying79 (Tryd.zeroValue5 _) hwf
          rw [hQ] at hcs
          have hji : (j : Int) < (tx.size : Int) := by omega
          rcases hcs with hcs | hcs
          · rw [hcs] at hlk
            obtain ⟨w9, hrun, hm9, hturn⟩ := hmap.drew.upd (t := 79) (e := 5) Tryd.underlying3 Tryd.underlying79 hwf (.int .u8 (tx[j].toNat : Int)) (by simp only [maxLen]; omega)
            have hg9 := hturn.grown
            have HM9 := Lib.hid hm9
            have HKn := Lib.hid (hkn.put hDj)
            rw [hQ] at HKn
            have hb9 := hb5.drew.grown hg9 hb5.size (fun k hk => by cases hk; exact Nat.le_refl _)
            have hK9 := hK5.drew.grown hg9 (by intro e; injection e with e; omega)
            have k0 := hK5.cell 0
            have t1 := (hb5.cell (p := ⟨b2, off2 + k, none⟩) hbb2).trans hTx
            clear hm9 hturn hg9 hmap hkn
            go_wp2_with fail
            refine wp_region_last [(true, 0), (true, 1), (true, 2), (true, 3), (true, 4), (true, 5), (true, 6), (true, 7), (true, 8), (true, 9), (true, 10), (false, 11)] 11 (fun w' => w' = wr.drew) (by kernel_rfl) (by kernel_rfl) (by kernel_rfl) (fun _ _ _ _ _ h => h) (by kernel_rfl) (by kernel_rfl) ?_ ?_
            · rfl
            iterate 11 (first | (apply seqL_skip; (focus (simp only [List.getElem?_toArray, List.getElem?_cons_succ, List.getElem?_cons_zero]; rfl)); (focus rfl); simp only [Act.put, List.setIfInBounds_toArray, List.set_cons_zero, List.set_cons_succ]) | (apply seqL_take; (focus (simp only [List.getElem?_toArray, List.getElem?_cons_succ, List.getElem?_cons_zero]; rfl)); (focus rfl); (focus (intro w' hS; subst hS; first | (go_simp; rfl) | (go_simp; done))); simp only [Act.put, List.setIfInBounds_toArray, List.set_cons_zero, List.set_cons_succ]))
            apply seqL_eff
            (focus (simp only [List.getElem?_toArray, List.getElem?_cons_succ, List.getElem?_cons_zero]; rfl))
            (focus rfl)
            intro K hK
            go_simp
            refine hK _ _ ⟨fun h => absurd rfl h, ?_⟩
            clear hK K
            refine seqL_nil ?_
            go_wp2_with fail
            go_roundw
            case rel => exact ⟨j + 1, by omega, by go_num, ⟨_, _, HM9.out, HKn.out, by split <;> omega⟩, hb9, hK9⟩
            case measure => simp [intOf]; omega
          · rw [hcs] at hlk
            have hne : ((tx[j].toNat : Int) != (tx[j].toNat : Int)) = false := by simp
            obtain ⟨w9, hrun, hm9, hturn⟩ := hmap.drew.upd (t := 79) (e := 5) Tryd.underlying3 Tryd.underlying79 hwf (.int .u8 (tx[j].toNat : Int)) (by simp only [maxLen]; omega)
            have hg9 := hturn.grown
            have HM9 := Lib.hid hm9
            have HKn := Lib.hid (hkn.put hDj)
            rw [hQ] at HKn
            have hb9 := hb5.drew.grown hg9 hb5.size (fun k hk => by cases hk; exact Nat.le_refl _)
            have hK9 := hK5.drew.grown hg9 (by intro e; injection e with e; omega)
            have k0 := hK5.cell 0
            have t1 := (hb5.cell (p := ⟨b2, off2 + k, none⟩) hbb2).trans hTx
            clear hm9 hturn hg9 hmap hkn
            go_wp2_with fail
            refine wp_region_last [(true, 0), (true, 1), (true, 2), (true, 3), (true, 4), (true, 5), (true, 6), (true, 7), (true, 8), (true, 9), (true, 10), (false, 11)] 11 (fun w' => w' = wr.drew) (by kernel_rfl) (by kernel_rfl) (by kernel_rfl) (fun _ _ _ _ _ h => h) (by kernel_rfl) (by kernel_rfl) ?_ ?_
            · rfl
            iterate 11 (first | (apply seqL_skip; (focus (simp only [List.getElem?_toArray, List.getElem?_cons_succ, List.getElem?_cons_zero]; rfl)); (focus rfl); simp only [Act.put, List.setIfInBounds_toArray, List.set_cons_zero, List.set_cons_succ]) | (apply seqL_take; (focus (simp only [List.getElem?_toArray, List.getElem?_cons_succ, List.getElem?_cons_zero]; rfl)); (focus rfl); (focus (intro w' hS; subst hS; first | (go_simp; rfl) | (go_simp; done))); simp only [Act.put, List.setIfInBounds_toArray, List.set_cons_zero, List.set_cons_succ]))
            apply seqL_eff
            (focus (simp only [List.getElem?_toArray, List.getElem?_cons_succ, List.getElem?_cons_zero]; rfl))
            (focus rfl)
            intro K hK
            go_simp
            refine hK _ _ ⟨fun h => absurd rfl h, ?_⟩
            clear hK K
            refine seqL_nil ?_
            go_wp2_with fail
            go_roundw
            case rel => exact ⟨j + 1, by omega, by go_num, ⟨_, _, HM9.out, HKn.out, by split <;> omega⟩, hb9, hK9⟩
            case measure => simp [intOf]; omega
        · go_wp2_with fail
          go_roundw
          case rel => exact ⟨k + 1, by omega, by go_num, ⟨f, cn, hmap, hkn, by omega⟩, hb5⟩
          case measure => simp [intOf]; omega
    · go_wp2_with fail
      go_ret
      exact ⟨rfl, hbel⟩
end Spb
end Go.Proofs.YthhhlaoiampinaaDoor
