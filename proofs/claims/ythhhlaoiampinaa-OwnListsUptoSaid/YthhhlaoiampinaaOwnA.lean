/- OwnLists: the law's walk. -/
import Derived.Test.YthhhlaoiampinaaFieldG
import Derived.Test.YthhhlaoiampinaaPolD
import Derived.Test.YthhhlaoiampinaaVaryC
import Derived.Test.YthhhlaoiampinaaCkD
import Derived.Test.YthhhlaoiampinaaEqFld
import Derived.Test.YthhhlaoiampinaaEqStr
import Derived.Test.YthhhlaoiampinaaFieldLaws
import Derived.Laws.MakeOwn
import Derived.IntWalk
namespace Go.Proofs.Ythhhlaoiampinaa
set_option maxRecDepth 20000
open Go.RowKit
namespace Ow
def mkF : Fld := (⟨#[109, 97, 114, 107]⟩, ByteArray.empty)
theorem own_marks {w : World} {base : Nat} {v : Value} {l : List Fld} {a b : Fld} (h : Owns w base 31 2 e_ss v (l ++ [a, b])) : ∃ g cap, v = .slice (some ⟨g, 0, none⟩) (l.length + 2) cap ∧ l.length + 2 ≤ cap := by
  rcases h.form with ⟨_, h0⟩ | ⟨g, cap, h0⟩
  · exact absurd h0 (by simp)
  · have hl : (l ++ [a, b]).length = l.length + 2 := by simp
    rw [hl] at h0
    subst h0
    exact ⟨g, cap, rfl, h.row.2.2.1⟩
/-- The list and the marks behind it. -/
structure Ma (W : World) (base g cap : Nat) (l : List Fld) : Prop where
  all : Owns W base 31 2 e_ss (.slice (some ⟨g, 0, none⟩) (l.length + 2) cap) (l ++ [mkF, mkF])
theorem Ma.below {W W' : World} {base g cap : Nat} {l : List Fld} (h : Ma W base g cap l) (hb : Below W.heap.size W W') : Ma W' base g cap l := ⟨h.all.below hb⟩
theorem Ma.list {W : World} {base g cap : Nat} {l : List Fld} (h : Ma W base g cap l) : Owns W base 31 2 e_ss (.slice (some ⟨g, 0, none⟩) l.length cap) l := by
  have := h.all.pre (size := 2) (en := e_ss) (fun _ => rfl) l.length (by simp)
  rwa [List.take_left' rfl] at this
theorem Ma.mark0 {W : World} {base g cap : Nat} {l : List Fld} (h : Ma W base g cap l) : W.cell? ⟨g, l.length * 2, none⟩ = some (.string ⟨#[109, 97, 114, 107]⟩) :=
  (h.all.cells2 (fun _ => rfl) l.length (by simp) (.string mkF.1) (.string mkF.2) (by simp [mkF, e_ss]) (by simp [mkF, e_ss])).1
theorem Ma.mark1 {W : World} {base g cap : Nat} {l : List Fld} (h : Ma W base g cap l) : W.cell? ⟨g, (l.length + 1) * 2, none⟩ = some (.string ⟨#[109, 97, 114, 107]⟩) :=
  (h.all.cells2 (fun _ => rfl) (l.length + 1) (by simp) (.string mkF.1) (.string mkF.2) (by simp [mkF, e_ss]) (by simp [mkF, e_ss])).1
/-- Lists of the call's own, beyond n3. -/
def Obs (W : World) (n3 : Nat) (p : List (Value × List Fld)) : Prop := ∀ q ∈ p, Owns W n3 31 2 e_ss q.1 q.2
theorem Obs.below {W W' : World} {n3 : Nat} {p : List (Value × List Fld)} (h : Obs W n3 p) (hb : Below W.heap.size W W') : Obs W' n3 p := fun q hq => (h q hq).below hb
theorem Obs.cons {W : World} {n3 b : Nat} {p : List (Value × List Fld)} {v : Value} {l : List Fld} (h : Obs W n3 p) (ho : Owns W b 31 2 e_ss v l) (hb : n3 ≤ b) : Obs W n3 (p ++ [(v, l)]) := fun q hq => by
  rcases List.mem_append.1 hq with hq | hq
  · exact h q hq
  · rw [List.mem_singleton] at hq; subst hq; exact ho.mono hb
theorem Obs.keep {W W' : World} {n3 k : Nat} {p : List (Value × List Fld)} (h : Obs W n3 p) (hg : W.grownBy W' (some k)) (hk : k < n3) : Obs W' n3 p := fun q hq => (h q hq).grownOther hg (by
  cases hv : q.1.ownBlock with
  | none => exact .inl rfl
  | some j => exact .inr (fun e => by injection e with e; have := ((h q hq).lt j hv).1; omega))
theorem Obs.at {W : World} {n3 : Nat} {p : List (Value × List Fld)} (h : Obs W n3 p) (i : Nat) (q : Value × List Fld) (hq : p[i]? = some q) : SlR W e_ss q.1 q.2 := SlR.of_owns (h q (List.mem_of_getElem? hq))
theorem put_one {w : World} {base g n cap : Nat} {xs : List ByteArray} (h : Owns w base 9 1 es (.slice (some ⟨g, 0, none⟩) n cap) xs) (i : Nat) (hi : i < xs.length) (x : ByteArray) :
    Owns (w.setCell ⟨g, i, none⟩ (.string x)) base 9 1 es (.slice (some ⟨g, 0, none⟩) n cap) (xs.set i x) := by
  obtain ⟨hb, rfl, hn, hm, cur, hh, hs, ht⟩ := h.row
  have := Owns.of_row (w := w.setCell ⟨g, i, none⟩ (.string x)) (e := 9) (xs := xs.set i x) (en := es) (size := 1) (cap := cap) (fun _ => rfl) hb (by rw [List.length_set]; exact hn) hm (hh.set_ i (.string x)) (by simpa using hs) (by
    rw [es_map] at ht ⊢
    rw [List.length_set, Array.toList_setIfInBounds, List.take_set, ht, List.map_set])
  rwa [List.length_set] at this
theorem cell_one {w : World} {base g n cap : Nat} {xs : List ByteArray} (h : Owns w base 9 1 es (.slice (some ⟨g, 0, none⟩) n cap) xs) (i : Nat) (hi : i < xs.length) : w.cell? ⟨g, i, none⟩ = some (.string xs[i]) ∧ w.frozen? ⟨g, i, none⟩ = false := by
  obtain ⟨hb, rfl, hn, hm, cur, hh, hs, ht⟩ := h.row
  refine ⟨?_, hh.frozen i⟩
  rw [hh.cell i]
  rw [es_map] at ht
  have h1 : (cur.toList.take (xs.length * 1))[i]? = some (.string xs[i]) := by rw [ht, List.getElem?_map, List.getElem?_eq_getElem hi]; rfl
  rw [List.getElem?_take, if_pos (by omega)] at h1
  simpa using h1
set_option maxHeartbeats 4000000 in
theorem ownLists_walk (v : Value) (l : List Fld) (u : Value) (m : List Fld) (n x s : ByteArray) (w : World) (h : SlR w e_ss v l) (hl : (l.map (fun d => d.1.size + d.2.size + 2)).sum ≤ 1048576) (hu : SlR w e_ss u m) (hm : (m.map (fun d => d.1.size + d.2.size + 2)).sum ≤ 1048576) (hn : n.size ≤ 1048576) (hx : x.size ≤ 1048576) (hs : s.size ≤ 1048576) :
    Calls Try.prog 5 #[v, u, .string n, .string x, .string s] w fun e w' => e = .returned (.bool true) ∧ Below w.heap.size w w' := by
  have hll : l.length ≤ 1048576 := Nat.le_trans (Pol.wt_len l) hl
  have hml : m.length ≤ 1048576 := Nat.le_trans (Pol.wt_len m) hm
  have HWt : Hid (Pol.wt l ≤ 1048576 ∧ Pol.wt m ≤ 1048576) := ⟨hl, hm⟩
  have HL := Lib.hid (fun w' (hb : Below w.heap.size w w') => h.below hb)
  have HU := Lib.hid (fun w' (hb : Below w.heap.size w w') => hu.below hb)
  have HV := Lib.hid h
  clear hl hm hu
  obtain ⟨A, c, rfl, hc, -⟩ := h
  obtain ⟨i0, hi, hz0, hz1, hz2⟩ := info_parts fldInfoB
  obtain ⟨wm, hrun, hownM, hgM⟩ := run_makeSlice_owned (P := Try.prog) (w := w) w.heap.size 29 31 i0 _ 2 Try.underlying29 hi hz0 hz1 .i64 .i64 (l.length + 3) (by omega) (by rw [hz2]; omega) (by simp only [maxLen]; omega) (Nat.le_refl _)
  rw [show ((l.length + 3 : Nat) : Int) = (l.length : Int) + 3 from by omega] at hrun
  have hw3 : IntKind.i64.wrap ((l.length : Int) + 3) = (l.length : Int) + 3 := IntWalk.i64_in _ (by omega)
  have hM : Owns wm w.heap.size 31 2 e_ss (.slice (some ⟨w.heap.size, 0, none⟩) 0 (l.length + 3)) ([] : List Fld) := hownM
  have bM : Below w.heap.size w wm := (Below.refl _ _).grown hgM (Nat.le_refl _) (fun k hk => by cases hk)
  have hlM := HL.out _ bM
  clear hi hz0 hz1 hz2 hownM
  go_enter Try.func5, Try.ntmps5
  go_wp2_with (first
    | (at_builtin; refine wpList_append_slr rfl (.tmp 32) (.tmp 33) _ rfl w.heap.size 31 (.agg #[.string ByteArray.empty, .string ByteArray.empty]) 2 32 e_ss Try.underlying29 fldInfoB rfl (by decide) (fun _ => rfl) _ [] rfl hM _ l rfl hlM (ss_oneB l) (by simp only [List.length_nil, maxLen]; omega) (by simp only [List.length_nil]; omega) bM.size ?_; intro v1 w1 hown1 hg1)
    | (at_builtin; refine wpList_append_owns rfl (.tmp 34) (.tmp 37) _ rfl w.heap.size 31 (.agg #[.string ByteArray.empty, .string ByteArray.empty]) 2 32 e_ss Try.underlying29 fldInfoB rfl (by decide) _ l rfl (hown1.alloc _) ⟨_, 0, none⟩ 2 2 [mkF, mkF] rfl rfl rfl (new_cells _ [.string ⟨#[109, 97, 114, 107]⟩, .string ⟨#[]⟩, .string ⟨#[109, 97, 114, 107]⟩, .string ⟨#[]⟩] _) (ss_oneB [mkF, mkF]) (by simp only [maxLen]; omega) (by omega) (Nat.le_trans (Nat.le_trans bM.size hg1.size) (le_alloc _ _)) ?_; intro v2 w2 hown2 hg2; obtain ⟨g, cap, rfl, hcap⟩ := own_marks hown2; have hc1 : l.length ≤ cap := (by omega); have hc2 : (l.length : Int) ≤ (cap : Int) := (by omega)))
  have hMa : Ma w2 w.heap.size g cap l := ⟨hown2⟩
  have B2 : Below w.heap.size w w2 := (((bM.grown hg1 bM.size (fun k hk => (hM.lt k hk).1)).alloc (Nat.le_trans bM.size hg1.size) _).grown hg2 (Nat.le_trans (Nat.le_trans bM.size hg1.size) (le_alloc _ _)) (fun k hk => (hown1.lt k hk).1))
  have hg0 := hown2.lt g rfl
  clear hM bM hlM hgM hrun hw3 hown1 hg1 hown2 hg2
  refine (copyFld_any u m w2 (HU.out _ B2) (by omega)).mono ?_
  rintro e w3 ⟨⟨vb, rfl, ob⟩, b3⟩
  have B3 := belT B2 b3
  have hMa3 := hMa.below b3
  obtain ⟨n3, hn3⟩ : ∃ n3, n3 = w3.heap.size := ⟨_, rfl⟩
  have hgn : g < n3 := by have := b3.size; omega
  have hbn : ∀ k, vb.ownBlock = some k → w2.heap.size ≤ k ∧ k < n3 := fun k hk => by have := ob.lt k hk; omega
  have hO3 : Obs w3 n3 [] := fun q hq => by cases hq
  clear hMa b3
  go_wp2_with fail
  refine (set_any _ l n x w3 (SlR.of_owns hMa3.list) (by omega) (fun f hf => by have := sum_mem (fun d : Fld => d.1.size + d.2.size + 2) hf; have := HWt.out.1; unfold Pol.wt at this; omega) (by omega)).mono ?_
  rintro e w4 ⟨⟨vx, rfl, ox⟩, b4⟩
  have B4 := belT B3 b4
  have hMa4 := hMa3.below b4
  have ob4 := ob.below b4
  have hO4 := (hO3.below b4).cons ox (Nat.le_of_eq hn3)
  have hs4 : n3 ≤ w4.heap.size := by have := b4.size; omega
  clear hMa3 ob ox hO3 B3 b4
  go_wp2_with fail
  refine (_root_.Go.Proofs.Ythhhlaoiampinaa.drop_any _ l n w4 (SlR.of_owns hMa4.list) (by omega) (fun f hf => by have := sum_mem (fun d : Fld => d.1.size + d.2.size + 2) hf; have := HWt.out.1; unfold Pol.wt at this; omega) (by omega)).mono ?_
  rintro e w5 ⟨⟨vy, rfl, oy⟩, b5⟩
  have B5 := belT B4 b5
  have hMa5 := hMa4.below b5
  have ob5 := ob4.below b5
  have hO5 := (hO4.below b5).cons oy hs4
  have hs5 : n3 ≤ w5.heap.size := by have := b5.size; omega
  clear hMa4 ob4 oy hO4 B4 b5
  go_wp2_with fail
  refine (Pol.strip_any _ l w5 ⟨SlR.of_owns hMa5.list, Nat.le_trans HWt.out.1 (by decide)⟩).mono ?_
  rintro e w6 ⟨⟨vz, rfl, oz⟩, b6⟩
  have B6 := belT B5 b6
  have hMa6 := hMa5.below b6
  have ob6 := ob5.below b6
  have hO6 := (hO5.below b6).cons oz hs5
  have hs6 : n3 ≤ w6.heap.size := by have := b6.size; omega
  clear hMa5 ob5 oz hO5 B5 b6
  go_wp2_with fail
  refine (Pol.freshen_any _ vb l m w6 ⟨SlR.of_owns hMa6.list, Nat.le_trans HWt.out.1 (by decide)⟩ ⟨SlR.of_owns ob6, Nat.le_trans HWt.out.2 (by decide)⟩ (by have := HWt.out; omega)).mono ?_
  rintro e w7 ⟨⟨vw, rfl, ow⟩, b7⟩
  have B7 := belT B6 b7
  have hMa7 := hMa6.below b7
  have ob7 := ob6.below b7
  have hO7 := (hO6.below b7).cons ow hs6
  have hs7 : n3 ≤ w7.heap.size := by have := b7.size; omega
  clear hMa6 ob6 ow hO6 B6 b7
  go_wp2_with fail
  refine (Vy.match_any _ vb vb l m m w7 ⟨SlR.of_owns hMa7.list, Nat.le_trans HWt.out.1 (by decide)⟩ ⟨SlR.of_owns ob7, Nat.le_trans HWt.out.2 (by decide)⟩ ⟨SlR.of_owns ob7, Nat.le_trans HWt.out.2 (by decide)⟩).mono ?_
  rintro e w8 ⟨rfl, b8⟩
  have B8 := belT B7 b8
  have hMa8 := hMa7.below b8
  have ob8 := ob7.below b8
  have hO8 := hO7.below b8
  have hs8 : n3 ≤ w8.heap.size := by have := b8.size; omega
  clear hMa7 ob7 hO7 B7 b8
  generalize (Vy.matF _ _ _).1 = q1 at *
  generalize (Vy.matF _ _ _).2 = q2 at *
  go_wp2_with fail
  have z1 : (setF l n x).length * 32 ≤ 140737488355328 := by have := setF_len l n x; omega
  have z2 : (dropF l n).length * 32 ≤ 140737488355328 := by have := dropF_len l n; omega
  have z3 : (Pol.stripF l).length * 32 ≤ 140737488355328 := by
    have : (Pol.stripF l).length ≤ l.length := List.length_filter_le _ _
    omega
  have z4 : (Pol.freshF l m).length * 32 ≤ 140737488355328 := by
    have h1 : (Pol.keepW (Pol.namesF m) l).length ≤ l.length := List.length_filter_le _ _
    have h2 : (Pol.keepW Pol.below4 (Pol.stripF m)).length ≤ (Pol.stripF m).length := List.length_filter_le _ _
    have h3 : (Pol.stripF m).length ≤ m.length := List.length_filter_le _ _
    unfold Pol.freshF
    rw [List.length_append]
    omega
  generalize setF l n x = l1 at *
  generalize dropF l n = l2 at *
  generalize Pol.stripF l = l3 at *
  generalize Pol.freshF l m = l4 at *
  refine (copyFld_any _ l1 w8 (hO8.at 0 (_, l1) rfl) (z1)).mono ?_
  rintro e w9 ⟨⟨h9, rfl, oh⟩, b9⟩
  have B9 := belT B8 b9
  have hMa9 := hMa8.below b9
  have ob9 := ob8.below b9
  have hO9 := (hO8.below b9).cons oh hs8
  have hs9 : n3 ≤ w9.heap.size := by have := b9.size; omega
  clear hMa8 ob8 oh hO8 B8 b9
  go_wp2_with fail
  refine (copyFld_any _ l2 w9 (hO9.at 1 (_, l2) rfl) (z2)).mono ?_
  rintro e w10 ⟨⟨h10, rfl, oh⟩, b10⟩
  have B10 := belT B9 b10
  have hMa10 := hMa9.below b10
  have ob10 := ob9.below b10
  have hO10 := (hO9.below b10).cons oh hs9
  have hs10 : n3 ≤ w10.heap.size := by have := b10.size; omega
  clear hMa9 ob9 oh hO9 B9 b10
  go_wp2_with fail
  refine (copyFld_any _ l3 w10 (hO10.at 2 (_, l3) rfl) (z3)).mono ?_
  rintro e w11 ⟨⟨h11, rfl, oh⟩, b11⟩
  have B11 := belT B10 b11
  have hMa11 := hMa10.below b11
  have ob11 := ob10.below b11
  have hO11 := (hO10.below b11).cons oh hs10
  have hs11 : n3 ≤ w11.heap.size := by have := b11.size; omega
  clear hMa10 ob10 oh hO10 B10 b11
  go_wp2_with fail
  refine (copyFld_any _ l4 w11 (hO11.at 3 (_, l4) rfl) (z4)).mono ?_
  rintro e w12 ⟨⟨h12, rfl, oh⟩, b12⟩
  have B12 := belT B11 b12
  have hMa12 := hMa11.below b12
  have ob12 := ob11.below b12
  have hO12 := (hO11.below b12).cons oh hs11
  have hs12 : n3 ≤ w12.heap.size := by have := b12.size; omega
  clear hMa11 ob11 oh hO11 B11 b12
  go_wp2_with fail
  refine (set_xy w12).mono ?_
  rintro e w13 ⟨⟨v13, rfl, o13⟩, b13⟩
  have B13 := belT B12 b13
  have hMa13 := hMa12.below b13
  have ob13 := ob12.below b13
  have hO13 := hO12.below b13
  have hs13 : n3 ≤ w13.heap.size := by have := b13.size; omega
  clear hMa12 ob12 hO12 B12 b13
  go_wp2_with fail
  refine (get_xy v13 w13 (SlR.of_owns o13)).mono ?_
  rintro e w14 ⟨rfl, b14⟩
  have B14 := belT B13 b14
  have hMa14 := hMa13.below b14
  have ob14 := ob13.below b14
  have hO14 := hO13.below b14
  have hs14 : n3 ≤ w14.heap.size := by have := b14.size; omega
  clear hMa13 ob13 hO13 B13 b14 o13
  have hcl : ¬ (cap : Int) = (l.length : Int) := by omega
  have hcl2 : ¬ cap = l.length := by omega
  have hcc : (cap : Int) ≤ (cap : Int) := by omega
  go_wp2_with fail
  have hE1 := eqFld_any _ _ l l w14 (SlR.of_owns hMa14.list) (HL.out _ B14) (by omega) (by omega)
  rw [decide_eq_true rfl] at hE1
  refine hE1.mono ?_
  rintro e w15 ⟨rfl, b15⟩
  have B15 := belT B14 b15
  have hMa15 := hMa14.below b15
  have ob15 := ob14.below b15
  have hO15 := hO14.below b15
  have hs15 : n3 ≤ w15.heap.size := by have := b15.size; omega
  clear hMa14 ob14 hO14 B14 b15 hE1
  go_wp2_with fail
  have hE2 := eqFld_any _ _ m m w15 (SlR.of_owns ob15) (HU.out _ B15) (by omega) (by omega)
  rw [decide_eq_true rfl] at hE2
  refine hE2.mono ?_
  rintro e w16 ⟨rfl, b16⟩
  have B16 := belT B15 b16
  have hMa16 := hMa15.below b16
  have ob16 := ob15.below b16
  have hO16 := hO15.below b16
  have hs16 : n3 ≤ w16.heap.size := by have := b16.size; omega
  clear hMa15 ob15 hO15 B15 b16 hE2
  have m0 := hMa16.mark0
  have m1 : w16.cell? ⟨g, l.length * 2 + 2, none⟩ = some (.string ⟨#[109, 97, 114, 107]⟩) := by have := hMa16.mark1; rwa [show (l.length + 1) * 2 = l.length * 2 + 2 from by omega] at this
  have r1 : decide (1 < cap - l.length) = true := by rw [decide_eq_true_iff]; omega
  have r2 : decide ((1 : Int) < ((cap - l.length : Nat) : Int)) = true := by rw [decide_eq_true_iff]; omega
  have r3 : 1 < cap - l.length := by omega
  have r4 : 0 < cap - l.length := by omega
  have r5 : (1 : Int) < ((cap - l.length : Nat) : Int) := by omega
  have r6 : (0 : Int) < ((cap - l.length : Nat) : Int) := by omega
  go_wp2_with fail
  obtain ⟨hwg, -, -, hcm, cur, hblk, hcs, -⟩ := hMa16.all.row
  have HO16 := Lib.hid hO16
  have HB16 := Lib.hid ob16
  clear m0 m1 r1 r2 r3 r4 r5 r6 hMa16 hO16 ob16 hcl hcl2 hcc hs14 hs15
  simp only [maxLen] at hcm
  go_loopw [120] (fun i wr => ∃ k : Nat, k ≤ cap ∧ i = .int .i64 k ∧ (∃ cs, Blk wr g 31 cs ∧ cs.size = cap * 2) ∧ w16.grownBy wr (some g)) (fun i _ => cap - (intOf i).toNat)
  case atStart => exact ⟨0, by omega, rfl, ⟨cur, hblk, hcs⟩, World.grownBy.refl _ _⟩
  case round =>
    obtain ⟨k, hk, rfl, ⟨cs, hb, hsz⟩, hgr⟩ := hrel
    by_cases hlt : k < cap
    · have c0 : wr.cell? ⟨g, k * 2, none⟩ = some (cs[k * 2]'(by omega)) := by rw [hb.cell (k * 2)]; exact Array.getElem?_eq_getElem _
      have c1 : wr.cell? ⟨g, k * 2 + 1, none⟩ = some (cs[k * 2 + 1]'(by omega)) := by rw [hb.cell (k * 2 + 1)]; exact Array.getElem?_eq_getElem _
      have f0 := hb.frozen (k * 2)
      have f1 := hb.frozen (k * 2 + 1)
      have hki : (k : Int) < (cap : Int) := by omega
      generalize cs[k * 2]'_ = u0 at *
      generalize cs[k * 2 + 1]'_ = u1 at *
      go_wp2_with fail
      go_roundw
      case rel => exact ⟨k + 1, by omega, by go_num, ⟨_, (hb.set_ (k * 2) (.string ⟨#[115, 112, 111, 105, 108, 116]⟩)).set_ (k * 2 + 1) (.string ⟨#[]⟩), by simpa using hsz⟩, gr_set (gr_set hgr _ _) _ _⟩
      case measure => simp [intOf]; omega
    · have hO17 := Lib.hid (HO16.out.keep hgr hgn)
      have hvg : vb.ownBlock = none ∨ vb.ownBlock ≠ some g := by
        cases hv : vb.ownBlock with
        | none => exact .inl rfl
        | some j => exact .inr (fun e => by injection e with e; have := (hbn j hv).1; omega)
      have ob17 := HB16.out.grownOther hgr hvg
      have B17 := B16.grown hgr B16.size (fun k hk => by cases hk; exact hwg)
      have hs17 : n3 ≤ wr.heap.size := Nat.le_trans hs16 hgr.size
      obtain ⟨A2, c2, hv⟩ := ob17.slice
      subst hv
      have h2 := B2.size
      clear hb hgr hvg HB16 HO16 hblk hcs B16 hs16
      go_wp2_with fail
      go_loopw [130] (fun i w5 => ∃ k : Nat, k ≤ m.length ∧ i = .int .i64 k ∧ (∃ ms : List Fld, ms.length = m.length ∧ Owns w5 w2.heap.size 31 2 e_ss (.slice A2 m.length c2) ms) ∧ Obs w5 n3 [(vx, l1), (vy, l2), (vz, l3), (vw, l4), (h9, l1), (h10, l2), (h11, l3), (h12, l4)] ∧ Below w.heap.size w w5 ∧ n3 ≤ w5.heap.size) (fun i _ => m.length - (intOf i).toNat)
      case atStart => exact ⟨0, by omega, rfl, ⟨m, rfl, ob17⟩, hO17.out, B17, hs17⟩
      case round =>
        obtain ⟨j, hj, rfl, ⟨ms, hms, hob⟩, hOb, hBb, hsb⟩ := hrel
        by_cases hjl : j < m.length
        · obtain ⟨gb, cb, hv⟩ : ∃ gb cb, Value.slice A2 m.length c2 = .slice (some ⟨gb, 0, none⟩) m.length cb := by
            rcases hob.form with ⟨_, h0⟩ | ⟨gb, cb, h0⟩
            · rw [h0] at hms; simp at hms; omega
            · rw [hms] at h0; exact ⟨gb, cb, h0⟩
          injection hv with hv1 hv2 hv3
          subst hv1 hv3
          obtain ⟨hgb1, hgb2⟩ := hbn gb rfl
          have hjm : j < ms.length := by omega
          obtain ⟨c0, c1, f0, f1⟩ := hob.cells2 (fun _ => rfl) j hjm (.string ms[j].1) (.string ms[j].2) rfl rfl
          have hji : (j : Int) < (m.length : Int) := by omega
          have hput := hob.put2 (fun _ => rfl) j hjm (⟨#[115, 112, 111, 105, 108, 116]⟩, ⟨#[]⟩) (.string ⟨#[115, 112, 111, 105, 108, 116]⟩) (.string ⟨#[]⟩) rfl
          have hgr2 : wr.grownBy ((wr.setCell ⟨gb, j * 2, none⟩ (.string ⟨#[115, 112, 111, 105, 108, 116]⟩)).setCell ⟨gb, j * 2 + 1, none⟩ (.string ⟨#[]⟩)) (some gb) := gr_set (gr_set (World.grownBy.refl _ _) _ _) _ _
          have HPut := Lib.hid hput
          have HOk := Lib.hid (hOb.keep hgr2 hgb2)
          have HBk := Lib.hid (hBb.grown hgr2 hBb.size (fun k hk => by cases hk; omega))
          have HSk := Lib.hid (Nat.le_trans hsb hgr2.size)
          clear hput hgr2 hob hOb hBb
          generalize ms[j].1 = u0 at *
          generalize ms[j].2 = u1 at *
          go_wp2_with fail
          go_roundw
          case rel => exact ⟨j + 1, by omega, by go_num, ⟨_, by rw [List.length_set]; exact hms, HPut.out⟩, HOk.out, HBk.out, HSk.out⟩
          case measure => simp [intOf]; omega
        · skip
          clear hob hsb hms hbn
          go_wp2_with fail
          have hE := eqFld_any vx h9 l1 l1 wr (hOb.at 0 (vx, l1) rfl) (hOb.at 4 (h9, l1) rfl) (by omega) (by omega)
          rw [decide_eq_true rfl] at hE
          refine hE.mono ?_
          rintro e v1 ⟨rfl, be⟩
          replace hOb := hOb.below be
          replace hBb := belT hBb be
          clear hE be
          go_wp2_with fail
          have hE := eqFld_any vy h10 l2 l2 v1 (hOb.at 1 (vy, l2) rfl) (hOb.at 5 (h10, l2) rfl) (by omega) (by omega)
          rw [decide_eq_true rfl] at hE
          refine hE.mono ?_
          rintro e v2 ⟨rfl, be⟩
          replace hOb := hOb.below be
          replace hBb := belT hBb be
          clear hE be
          go_wp2_with fail
          have hE := eqFld_any vz h11 l3 l3 v2 (hOb.at 2 (vz, l3) rfl) (hOb.at 6 (h11, l3) rfl) (by omega) (by omega)
          rw [decide_eq_true rfl] at hE
          refine hE.mono ?_
          rintro e v3 ⟨rfl, be⟩
          replace hOb := hOb.below be
          replace hBb := belT hBb be
          clear hE be
          go_wp2_with fail
          have hE := eqFld_any vw h12 l4 l4 v3 (hOb.at 3 (vw, l4) rfl) (hOb.at 7 (h12, l4) rfl) (by omega) (by omega)
          rw [decide_eq_true rfl] at hE
          refine hE.mono ?_
          rintro e v4 ⟨rfl, be⟩
          replace hOb := hOb.below be
          replace hBb := belT hBb be
          clear hE be
          go_wp2_with fail
          clear hOb
          have hcl3 := cut_len (sl s) (by rw [sl_len]; omega)
          refine (ckCut_any s v4 (by omega)).mono ?_
          rintro e v5 ⟨kk, rfl, ok, bk⟩
          have B5 := belT hBb bk
          have h45 := bk.size
          go_wp2_with fail
          refine (ckCut_any s v5 (by omega)).mono ?_
          rintro e v6 ⟨ee, rfl, oe, bee⟩
          have hP : ((Pc.cut gear (sl s)).map mkS).length * 16 ≤ 140737488355328 := by
            rw [List.length_map]
            show ((Pc.cuts gear 0 [] (sl s)).1 ++ Pc.tl (Pc.cuts gear 0 [] (sl s)).2.2).length * 16 ≤ _
            rw [List.length_append]; exact hcl3
          have HCu := Lib.hid (fun w' => ckCut_any s w' (by omega))
          generalize (Pc.cut gear (sl s)).map mkS = pk at *
          have HK := Lib.hid ok.lt
          have ok6 := ok.below bee
          have B6 := belT B5 bee
          obtain ⟨A3, c3, hv⟩ := ok6.slice
          subst hv
          have h4 := Nat.le_trans hBb.size (Nat.le_refl v4.heap.size)
          clear ok bee B5 bk hcl3 hBb
          go_wp2_with fail
          go_loopw [166] (fun i w7 => ∃ q : Nat, q ≤ pk.length ∧ i = .int .i64 q ∧ (∃ ks : List ByteArray, ks.length = pk.length ∧ Owns w7 v4.heap.size 9 1 es (.slice A3 pk.length c3) ks) ∧ Owns w7 v5.heap.size 9 1 es ee pk ∧ Below w.heap.size w w7) (fun i _ => pk.length - (intOf i).toNat)
          case atStart => exact ⟨0, by omega, rfl, ⟨pk, rfl, ok6⟩, oe, B6⟩
          case round =>
            obtain ⟨q, hq, rfl, ⟨ks, hks, hok⟩, hoe, hB7⟩ := hrel
            by_cases hql : q < pk.length
            · obtain ⟨gk, ck, hv⟩ : ∃ gk ck, Value.slice A3 pk.length c3 = .slice (some ⟨gk, 0, none⟩) pk.length ck := by
                rcases hok.form with ⟨_, h0⟩ | ⟨gk, ck, h0⟩
                · rw [h0] at hks; simp at hks; omega
                · rw [hks] at h0; exact ⟨gk, ck, h0⟩
              injection hv with hv1 hv2 hv3
              subst hv1 hv3
              obtain ⟨hk1, hk2⟩ := HK.out gk rfl
              have hqs : q < ks.length := by omega
              obtain ⟨c0, f0⟩ := cell_one hok q hqs
              have hqi : (q : Int) < (pk.length : Int) := by omega
              have hgr3 : wr.grownBy (wr.setCell ⟨gk, q, none⟩ (.string ⟨#[115, 112, 111, 105, 108, 116]⟩)) (some gk) := gr_set (World.grownBy.refl _ _) _ _
              have HPut := Lib.hid (put_one hok q hqs ⟨#[115, 112, 111, 105, 108, 116]⟩)
              have HEe := Lib.hid (hoe.grownOther hgr3 (by
                cases hv : ee.ownBlock with
                | none => exact .inl rfl
                | some j => exact .inr (fun e => by injection e with e; have := (hoe.lt j hv).1; omega)))
              have HB8 := Lib.hid (hB7.grown hgr3 hB7.size (fun k hk => by cases hk; omega))
              clear hok hoe hB7 hgr3
              generalize ks[q] = u0 at *
              go_wp2_with fail
              go_roundw
              case rel => exact ⟨q + 1, by omega, by go_num, ⟨_, by rw [List.length_set]; exact hks, HPut.out⟩, HEe.out, HB8.out⟩
              case measure => simp [intOf]; omega
            · go_wp2_with fail
              refine (HCu.out _).mono ?_
              rintro e v8 ⟨cc, rfl, oc, b8⟩
              go_wp2_with fail
              refine (eqStr_any ee cc pk pk v8 ((SlR.of_owns hoe).below b8) (SlR.of_owns oc) (by omega) (by omega)).mono ?_
              rintro e v9 ⟨rfl, rfl⟩
              have hst : SameTexts pk pk = true := decide_eq_true rfl
              rw [hst]
              go_wp2_with fail
              go_ret
              exact ⟨rfl, belT hB7 b8⟩
end Ow
end Go.Proofs.Ythhhlaoiampinaa
