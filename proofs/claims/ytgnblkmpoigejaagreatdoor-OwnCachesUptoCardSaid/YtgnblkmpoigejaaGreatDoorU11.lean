import Derived.Test.YtgnblkmpoigejaaGreatDoorU9
import Derived.Test.YtgnblkmpoigejaaGreatDoorU10
set_option linter.unusedVariables false
set_option linter.unusedSimpArgs false
namespace Go.Proofs.YtgnblkmpoigejaaGreatDoor
set_option maxRecDepth 20000
open Go.RowKit Go.Shelf
def cutB (s : ByteArray) : List ByteArray := (Pc.cut gear (sl s)).map mkS
theorem cutB_sizes {s t : ByteArray} (h : t ∈ cutB s) : 1 ≤ t.size ∧ t.size ≤ 128 := by
 obtain ⟨l, hl, rfl⟩ := List.mem_map.1 h
 obtain ⟨i, hi, rfl⟩ := List.mem_iff_getElem.1 hl
 have := Pc.cut_sizes (g := gear) (sl s) i hi
 rw [mkS_size]
 omega
theorem sum_flat (l : List (List UInt8)) : ((l.map mkS).map (·.size)).sum = l.flatten.length := by
 induction l with
 | nil => rfl
 | cons x l ih => rw [List.map_cons, List.map_cons, List.sum_cons, ih, List.flatten_cons, List.length_append, mkS_size]
theorem cutB_sum (s : ByteArray) : ((cutB s).map (·.size)).sum = s.size := by
 unfold cutB
 rw [sum_flat, Pc.cut_flat, sl_len]
theorem len_le_sum {l : List ByteArray} (h : ∀ t ∈ l, 1 ≤ t.size) : l.length ≤ (l.map (·.size)).sum := by
 induction l with
 | nil => simp
 | cons x l ih =>
  have h1 := ih (fun y hy => h y (List.mem_cons_of_mem _ hy))
  have h2 := h x (by simp)
  rw [List.map_cons, List.sum_cons, List.length_cons]
  omega
theorem cutB_len (s : ByteArray) : (cutB s).length ≤ s.size := by
 rw [← cutB_sum s]
 exact len_le_sum fun t ht => (cutB_sizes ht).1
theorem gr_row {w w1 w2 : World} {g : Nat} {row : Option Nat} (h : w.grownBy w1 (some g)) (k : w1.grownBy w2 row) (hj : ∀ j, row = some j → w.heap.size ≤ j ∨ j = g) : w.grownBy w2 (some g) :=
 ⟨k.os.trans h.os, k.tape.trans h.tape, k.output.trans h.output, Nat.le_trans h.size k.size, fun i hi hr => (k.block i (Nat.lt_of_lt_of_le hi h.size) (fun e => by rcases hj i e.symm with h1 | h1; omega; exact hr (by rw [h1]))).trans (h.block i hi hr)⟩
theorem gr_bel {w w1 w2 : World} {g : Nat} (h : w.grownBy w1 (some g)) (k : Below w1.heap.size w1 w2) : w.grownBy w2 (some g) :=
 ⟨k.os.trans h.os, k.tape.trans h.tape, k.output.trans h.output, Nat.le_trans h.size k.size, fun i hi hr => (k.block i (Nat.lt_of_lt_of_le hi h.size)).trans (h.block i hi hr)⟩
theorem PileT.use {w : World} {n0 : Lim} {p mb : Nat} {room U V : Int} {es : List Pe} (h : PileT w n0 p room U mb es) : PileT (w.setCell ⟨p, 1, none⟩ (.int .i64 V)) n0 p room V mb es :=
 ⟨h.blk.set_ 1 (.int .i64 V), fun x hx => Blk.far (h.node x hx) (fun e => by
  have hb : w.heap[p]? = _ := h.blk
  have hx' : w.heap[x.b]? = _ := h.node x hx
  change x.b = p at e
  rw [e, hb] at hx'
  cases hx') _, h.mp.setCell h.blk _, h.nd, h.kd, h.b0, by simpa [World.setCell] using h.hz⟩
theorem Owns.noIter {α : Type} {w : World} {base : Nat} {e : TypeId} {size : Nat} {en : α → List Value} {v : Value} {xs : List α} {r : Nat} (ho : Owns w base e size en v xs) (hi : ∃ o, w.heap[r]? = some o ∧ ∀ cs t f, o ≠ .cells cs t f) : v.ownBlock = none ∨ v.ownBlock ≠ some r := by
 rcases ho.2 with ⟨rfl, _⟩ | ⟨g, cap, cur, rfl, _, hh, _⟩
 ·exact .inl rfl
 ·refine .inr fun e => ?_
  obtain ⟨o, hr, hn⟩ := hi
  have hgr : g = r := by simpa [Value.ownBlock] using e
  rw [hgr, hr] at hh
  injection hh with hh
  exact hn _ _ _ hh
structure DoneI (fs : List ByteArray) (done : List Pe) (left : ByteArray → Bool) : Prop where
 ok : ∀ x ∈ done, x.c = 0 ∧ x.n = hxn x.t ∧ x.t ∈ fs ∧ left x.n = false
 all : ∀ t ∈ fs, left (hxn t) = true ∨ ∃ x ∈ done, x.t = t
 nd : (done.map (·.t)).Nodup
theorem DoneI.start {fs : List ByteArray} (h : (fs.map hxn).Nodup) : DoneI fs [] (fun k => (fF fs k).isSome) :=
 ⟨by simp, fun t ht => .inl (by rw [fF_some h ht]; rfl), by simp⟩
theorem DoneI.step {fs : List ByteArray} {done : List Pe} {left : ByteArray → Bool} {t : ByteArray} {b : Nat} (h : DoneI fs done left) (hn : (fs.map hxn).Nodup) (ht : t ∈ fs) (hl : left (hxn t) = true) :
  DoneI fs (done ++ [⟨b, hxn t, t, 0⟩]) (fun k => left k && !decide (k = hxn t)) := by
 refine ⟨fun x hx => ?_, fun u hu => ?_, ?_⟩
 ·rcases List.mem_append.1 hx with hx | hx
  ·obtain ⟨a1, a2, a3, a4⟩ := h.ok x hx
   exact ⟨a1, a2, a3, by rw [a4]; rfl⟩
  ·rw [List.mem_singleton.1 hx]
   exact ⟨rfl, rfl, ht, by simp⟩
 ·by_cases hut : u = t
  ·exact .inr ⟨⟨b, hxn t, t, 0⟩, by simp, hut.symm⟩
  ·rcases h.all u hu with h1 | ⟨x, hx, h1⟩
   ·refine .inl ?_
    have : hxn u ≠ hxn t := fun e => hut (nodup_inj hn hu ht e)
    simp [h1, this]
   ·exact .inr ⟨x, List.mem_append_left _ hx, h1⟩
 ·rw [List.map_append, List.nodup_append]
  refine ⟨h.nd, by simp, fun a ha c hc => ?_⟩
  obtain ⟨x, hx, rfl⟩ := List.mem_map.1 ha
  simp only [List.map_cons, List.map_nil, List.mem_singleton] at hc
  rw [hc]
  intro e
  obtain ⟨_, a2, _, a4⟩ := h.ok x hx
  rw [a2, e, hl] at a4
  cases a4
theorem DoneI.perm {fs : List ByteArray} {done : List Pe} {left : ByteArray → Bool} (h : DoneI fs done left) (hn : (fs.map hxn).Nodup) (hl : ∀ k, left k = false) : (done.map (·.t)).Perm fs := by
 refine (List.perm_ext_iff_of_nodup h.nd ?_).2 fun t => ?_
 ·have : ∀ l : List ByteArray, (l.map hxn).Nodup → l.Nodup := by
   intro l hl
   induction l with
   | nil => simp
   | cons x l ih =>
    rw [List.map_cons, List.nodup_cons] at hl
    rw [List.nodup_cons]
    exact ⟨fun hm => hl.1 (List.mem_map.2 ⟨x, hm, rfl⟩), ih hl.2⟩
  exact this fs hn
 ·constructor
  ·intro ht
   obtain ⟨x, hx, rfl⟩ := List.mem_map.1 ht
   exact (h.ok x hx).2.2.1
  ·intro ht
   rcases h.all t ht with h1 | ⟨x, hx, h1⟩
   ·rw [hl] at h1; cases h1
   ·exact List.mem_map.2 ⟨x, hx, h1⟩
theorem sum_cast (l : List ByteArray) : (l.map fun t => (t.size : Int)).sum = ((l.map (·.size)).sum : Nat) := by
 induction l with
 | nil => rfl
 | cons a l ih => rw [List.map_cons, List.map_cons, List.sum_cons, List.sum_cons, ih]; omega
theorem perm_sum {a b : List Int} (h : a.Perm b) : a.sum = b.sum := by
 induction h with
 | nil => rfl
 | cons x _ ih => rw [List.sum_cons, List.sum_cons, ih]
 | swap x y l => simp only [List.sum_cons]; omega
 | trans _ _ h1 h2 => exact h1.trans h2
set_option maxHeartbeats 8000000 in
theorem putP_mainG (n0 : Lim) (p mb : Nat) (room : Int) (es : List Pe) (s : ByteArray) (w : World) (h : PileS w n0 p room mb es) (hs : s.size ≤ 5000) (hc : ∀ x ∈ es, 0 ≤ x.c ∧ x.c ≤ 4611686018427387904) (hnz : ∀ x ∈ es, x.n.size ≤ maxLen) :
  Calls Tryz.prog 32 #[ptr p, .string s] w fun e w' => ∃ v q, e = .returned (.tuple #[v, .int .i64 q]) ∧ RG RP mb n0 w w' ∧
   ((q = 0 ∧ ∃ es', PileS w' n0 p room mb es' ∧ es'.length ≤ 10000 ∧ PutRes es (cutB s) es' ∧ Owns w' w.heap.size 9 1 Go.Proofs.YtgnblkmpoigejaaGreatDoor.es v ((cutB s).map hxn)) ∨
    (q = 9 ∧ v = .slice none 0 0 ∧ PileS w' n0 p room mb es ∧ ∃ t ∈ cutB s, (∃ u ∈ cutB s, hxn u = hxn t ∧ ¬ u = t) ∨ (∃ x ∈ es, x.n = hxn t ∧ ¬ x.t = t)) ∨
    (q = 6 ∧ v = .slice none 0 0 ∧ PileS w' n0 p room mb es ∧ ∃ fs, FreshI es (cutB s) fs ∧ (room < usedP es + ((fs.map (·.size)).sum : Nat) ∨ 10000 < es.length + fs.length))) := by
 have hd : decide ((5000 : Int) < (s.size : Int)) = false := by rw [decide_eq_false_iff_not]; omega
 have hmm := @run_makeMap Tryz.prog
 have hm0 := MapS.made w Tryz.prog 9
 have hA := (Below.refl _ w).alloc (Nat.le_refl _) (.map #[] 0)
 have hb1 := h.below hA
 have HS := Lib.hid h
 have HC := Lib.hid hc
 have HNZ := Lib.hid hnz
 have hn0w : n0.lo ≤ w.heap.size := h.hz
 clear h hc hnz
 go_enter Tryz.func32, Tryz.ntmps32
 go_wp2_with fail
 have HL : Hid (w.heap.size < (w.alloc (.map #[] 0)).heap.size) := by show _ < _; simp
 have hcut := ckCut_any s (w.alloc (.map #[] 0)) (by omega)
 generalize w.alloc (.map #[] 0) = w1 at *
 refine hcut.mono ?_
 rintro e w2 ⟨vk, rfl, ok, b2⟩
 have hdl := cutB_len s
 have hdz : ∀ t ∈ cutB s, 1 ≤ t.size ∧ t.size ≤ 128 := fun t ht => cutB_sizes ht
 have hsl := SlR.of_owns ok
 have hds : (Pc.cut gear (sl s)).map mkS = cutB s := rfl
 have hcs := cutB_sum s
 rw [hds] at ok hsl
 have hm2 := hm0.below b2
 have hT2 := (hb1.below b2).toT
 have hA2 := hA.trans (b2.mono hA.size)
 have hB2 := b2.size
 generalize hdd : cutB s = ds at *
 have HT : Hid (0 < ds.length → ∃ b off c, vk = .slice (some ⟨b, off, none⟩) ds.length c ∧ w1.heap.size ≤ b ∧ b < w2.heap.size ∧ ∀ j (hj : j < ds.length), w2.cell? ⟨b, off + j, none⟩ = some (.string ds[j])) := by
  intro hn
  obtain ⟨b, off, c, hv, _, hb, hcell⟩ := SlR.texts (xs := ds) hsl hn
  obtain ⟨g, cap, cur, hv', hg, _⟩ := ok.2.resolve_left (fun h => by omega)
  refine ⟨b, off, c, hv, ?_, hb, hcell⟩
  rw [hv] at hv'
  injection hv' with e1 _ _
  injection e1 with e1
  injection e1 with e1 _
  rw [e1]
  exact hg
 obtain ⟨Ak, ck, rfl, hck⟩ := SlR.form (xs := ds) hsl
 clear hsl ok hcut b2 hb1 hm0 hA
 obtain ⟨fb, hfb⟩ : ∃ fb, fb = w.heap.size := ⟨_, rfl⟩
 rw [← hfb] at hm2 HL ⊢
 have HFB := Lib.hid hfb
 clear hfb
 go_wp2_with fail
 go_loopw [6, 8, 26] (fun nv yv iv wr => ∃ (k : Nat) (fs : List ByteArray), iv = .int .i64 (k : Int) ∧ k ≤ ds.length ∧ yv = .int .i64 (((fs.map (·.size)).sum : Nat) : Int) ∧ Owns wr w2.heap.size 9 1 Go.Proofs.YtgnblkmpoigejaaGreatDoor.es nv ((ds.take k).map hxn) ∧ FreshI es (ds.take k) fs ∧ MapS Tryz.prog wr 9 fb (fF fs) fs.length ∧ w2.grownBy wr (some fb)) (fun _ _ iv _ => ds.length - (intOf iv).toNat)
 case atStart => exact ⟨0, [], rfl, Nat.zero_le _, rfl, Owns.nil .., FreshI.nil es, hm2, World.grownBy.refl _ _⟩
 case round =>
  obtain ⟨k, fs, rfl, hk, rfl, how, hfr, hmp, hgr⟩ := hrel
  have hfs1 : (fs.map (·.size)).sum ≤ 5000 := Nat.le_trans (sub_sum hfr.sub) (Nat.le_trans (sub_sum (List.take_sublist k ds)) (by omega))
  by_cases hlt : k < ds.length
  ·obtain ⟨bb, off, c3, hv2, hbb1, hbb, hcell⟩ := HT.out (by omega)
   injection hv2 with g1 g2 g3
   subst g1 g3
   have c0 := hgr.cell (hcell k hlt) (by intro e; injection e with e; have := HL.out; change bb = fb at e; omega)
   have HTK : Hid (ds.take (k + 1) = ds.take k ++ [ds[k]]) := by show _ = _; rw [List.take_add_one, List.getElem?_eq_getElem hlt]; rfl
   have hz := hdz ds[k] (List.getElem_mem hlt)
   have HTM : Hid (ds[k] ∈ ds) := List.getElem_mem hlt
   clear hcell g2
   generalize ds[k] = t at *
   go_wp2_with fail
   refine (digest_any t _ (by omega)).mono ?_
   rintro e w3 ⟨rfl, b3⟩
   go_wp2_with fail
   refine (hex_any _ _ (by rw [mkS_size, digB_len]; omega)).mono ?_
   rintro e w4 ⟨rfl, b4⟩
   have b34 := b3.trans (b4.mono b3.size)
   have hnm : mkS ((sl (mkS (digB (sl t)))).flatMap hexC) = hxn t := rfl
   rw [hnm]
   clear hnm
   have hgr4 := gr_bel hgr b34
   have hmp4 := hmp.below b34
   have HO4 := Lib.hid (how.below b34)
   have hnk := hxn_size t
   have hlen : ((ds.take k).map hxn).length ≤ 5000 := by rw [List.length_map, List.length_take]; omega
   have hnk' : (hxn t).size ≤ maxLen := by rw [hnk]; decide
   have HF : Hid (∀ w5, (w4.alloc (.cells #[.string (hxn t)] 9)).grownBy w5 (u6.ownBlock) → MapS Tryz.prog w5 9 fb (fF fs) fs.length ∧ PileT w5 n0 p room (usedP es) mb es ∧ w2.grownBy w5 (some fb)) := by
    intro w5 hg5
    have hj : ∀ j, u6.ownBlock = some j → w2.heap.size ≤ j := fun j hj => (HO4.out.lt j hj).1
    have hga := gr_bel hgr4 ((Below.refl _ w4).alloc (Nat.le_refl _) (.cells #[.string (hxn t)] 9))
    have hgw := gr_row hga hg5 (fun j hjj => .inl (hj j hjj))
    have hlf : fb < w2.heap.size := by have := HL.out; omega
    refine ⟨(hmp4.alloc _).kept hg5 (fun e => ?_), hT2.kept hgw (fun e => ?_) (fun e => ?_) (fun x hx e => ?_), hgw⟩
    ·have := hj fb e.symm; omega
    ·injection e with e; have := HS.out.blk.lt; have := HFB.out; omega
    ·injection e with e; have := HS.out.mp.lt; have := HFB.out; omega
    ·injection e with e; have := (HS.out.node x hx).lt; have := HFB.out; omega
   clear hgr hmp how b3 b4 b34
   have HE : Hid (∀ w5, w2.grownBy w5 (some fb) → RG RP mb n0 w w5 ∧ PileS w5 n0 p room mb es) := by
    intro w5 hg5
    have hb5 : Below w.heap.size w w5 := hA2.grown hg5 hA2.size (fun j hj => by cases hj; exact Nat.le_of_eq HFB.out.symm)
    exact ⟨RG.of_below hb5 hn0w, HS.out.below hb5⟩
   have HMN : Hid ((ds.take (k + 1)).map hxn = (ds.take k).map hxn ++ [hxn t]) := by show _ = _; rw [HTK.out, List.map_append]; rfl
   rcases pe_split es (hxn t) with hne | ⟨x, hxe, hxn'⟩
   ·by_cases hin : ∃ u ∈ fs, hxn u = hxn t
    ·obtain ⟨u, hu, hut⟩ := hin
     have hff : fF fs (hxn t) = some (.string u) := by rw [← hut]; exact fF_some hfr.nd hu
     by_cases hq : u = t
     ·have hbe := beqL_true hq
      go_wp2_with (at_builtin; go_must (refine wpList_append_slr rfl (.tmp 33) (.tmp 35) _ rfl w2.heap.size 9 (.string ByteArray.empty) 1 16 Go.Proofs.YtgnblkmpoigejaaGreatDoor.es Tryz.underlying59 stringInfo rfl (by decide) (fun _ => rfl) _ ((ds.take k).map hxn) rfl (HO4.out.alloc _) _ [hxn t] rfl (SlR.lit w4 [.string (hxn t)] _ [hxn t] rfl) (es_one _) (by simp only [maxLen, List.length_cons, List.length_nil]; omega) (by simp only [List.length_cons, List.length_nil]; omega) (by have := hgr4.size; simp; omega) ?_); intro v5 w5 ho5 hg5; obtain ⟨hm5, hT5, hgr5⟩ := HF.out w5 hg5; have p2 := hT5.blk.cell 2; have hlk1 := hm5.look_ok (t := 124) (e := 9) (k := hxn t) Tryz.underlying9 Tryz.underlying124 (z := .string ByteArray.empty) rfl hnk'; rw [hff] at hlk1; have hlk2 := hT5.mp.look (t := 127) (e := 126) (k := hxn t) Tryz.underlying9 Tryz.underlying127 (z := .pointer none) rfl hnk'; rw [pF_none hne] at hlk2)
      exact ⟨⟨k + 1, fs, by simp, by omega, rfl, by rw [HMN.out]; exact ho5, by rw [HTK.out]; exact hfr.old (.inl (hq ▸ hu)), hm5, hgr5⟩, by simp only [intOf]; omega⟩
     ·have hbe := beqL_false hq
      go_wp2_with (at_builtin; go_must (refine wpList_append_slr rfl (.tmp 33) (.tmp 35) _ rfl w2.heap.size 9 (.string ByteArray.empty) 1 16 Go.Proofs.YtgnblkmpoigejaaGreatDoor.es Tryz.underlying59 stringInfo rfl (by decide) (fun _ => rfl) _ ((ds.take k).map hxn) rfl (HO4.out.alloc _) _ [hxn t] rfl (SlR.lit w4 [.string (hxn t)] _ [hxn t] rfl) (es_one _) (by simp only [maxLen, List.length_cons, List.length_nil]; omega) (by simp only [List.length_cons, List.length_nil]; omega) (by have := hgr4.size; simp; omega) ?_); intro v5 w5 ho5 hg5; obtain ⟨hm5, hT5, hgr5⟩ := HF.out w5 hg5; have p2 := hT5.blk.cell 2; have hlk1 := hm5.look_ok (t := 124) (e := 9) (k := hxn t) Tryz.underlying9 Tryz.underlying124 (z := .string ByteArray.empty) rfl hnk'; rw [hff] at hlk1; have hlk2 := hT5.mp.look (t := 127) (e := 126) (k := hxn t) Tryz.underlying9 Tryz.underlying127 (z := .pointer none) rfl hnk'; rw [pF_none hne] at hlk2)
      go_ret2
      obtain ⟨hrf, hps⟩ := HE.out w5 hgr5
      exact ⟨.slice none 0 0, 9, rfl, hrf, .inr (.inl ⟨rfl, rfl, hps, t, by rw [hdd]; exact HTM.out, .inl ⟨u, by rw [hdd]; exact List.take_subset _ _ (hfr.sub.subset hu), hut, hq⟩⟩)⟩
    ·have hff : fF fs (hxn t) = none := fF_none fun u hu e => hin ⟨u, hu, e⟩
     have hfl : fs.length ≤ 5000 := by have h1 := hfr.sub.length_le; rw [List.length_take] at h1; omega
     have hyw : IntKind.i64.wrap ((((fs.map (·.size)).sum : Nat) : Int) + (t.size : Int)) = ((((fs ++ [t]).map (·.size)).sum : Nat) : Int) := by
      rw [List.map_append, List.sum_append, IntKind.wrap_i64]; simp; omega
     go_wp2_with (first
      | (at_builtin; go_must (refine wpList_append_slr rfl (.tmp 33) (.tmp 35) _ rfl w2.heap.size 9 (.string ByteArray.empty) 1 16 Go.Proofs.YtgnblkmpoigejaaGreatDoor.es Tryz.underlying59 stringInfo rfl (by decide) (fun _ => rfl) _ ((ds.take k).map hxn) rfl (HO4.out.alloc _) _ [hxn t] rfl (SlR.lit w4 [.string (hxn t)] _ [hxn t] rfl) (es_one _) (by simp only [maxLen, List.length_cons, List.length_nil]; omega) (by simp only [List.length_cons, List.length_nil]; omega) (by have := hgr4.size; simp; omega) ?_); intro v5 w5 ho5 hg5; obtain ⟨hm5, hT5, hgr5⟩ := HF.out w5 hg5; have p2 := hT5.blk.cell 2; have hlk1 := hm5.look_ok (t := 124) (e := 9) (k := hxn t) Tryz.underlying9 Tryz.underlying124 (z := .string ByteArray.empty) rfl hnk'; rw [hff] at hlk1; have hlk2 := hT5.mp.look (t := 127) (e := 126) (k := hxn t) Tryz.underlying9 Tryz.underlying127 (z := .pointer none) rfl hnk'; rw [pF_none hne] at hlk2)
      | (refine wpList_upd rfl (.tmp 65) (.tmp 66) (.tmp 67) rfl rfl hm5 Tryz.underlying9 Tryz.underlying124 (hxn t) (.string t) rfl rfl hnk' (by simp only [maxLen]; omega) ?_; intro w6 hm6 hg6))
     rw [hff] at hm6
     refine ⟨⟨k + 1, fs ++ [t], by simp, by omega, by simp, ?_, ?_, ?_, gr_row hgr5 hg6 (fun j hj => by cases hj; exact .inr rfl)⟩, by simp only [intOf]; omega⟩
     ·rw [HMN.out]
      refine ho5.grownOther hg6 ?_
      cases hv : v5.ownBlock with
      | none => exact .inl rfl
      | some j => exact .inr fun e => by injection e with e; have := (ho5.lt j hv).1; have := HL.out; omega
     ·rw [HTK.out]; exact hfr.add (fun u hu e => hin ⟨u, hu, e⟩) hne
     ·exact hm6.congr (fF_put fun u hu e => hin ⟨u, hu, e⟩) (by simp)
   ·have hff : fF fs (hxn t) = none := fF_none fun u hu e => hfr.new u hu x hxe (hxn'.trans e.symm)
    by_cases hq : x.t = t
    ·have hbe := beqL_true hq
     go_wp2_with (at_builtin; go_must (refine wpList_append_slr rfl (.tmp 33) (.tmp 35) _ rfl w2.heap.size 9 (.string ByteArray.empty) 1 16 Go.Proofs.YtgnblkmpoigejaaGreatDoor.es Tryz.underlying59 stringInfo rfl (by decide) (fun _ => rfl) _ ((ds.take k).map hxn) rfl (HO4.out.alloc _) _ [hxn t] rfl (SlR.lit w4 [.string (hxn t)] _ [hxn t] rfl) (es_one _) (by simp only [maxLen, List.length_cons, List.length_nil]; omega) (by simp only [List.length_cons, List.length_nil]; omega) (by have := hgr4.size; simp; omega) ?_); intro v5 w5 ho5 hg5; obtain ⟨hm5, hT5, hgr5⟩ := HF.out w5 hg5; have p2 := hT5.blk.cell 2; have hlk1 := hm5.look_ok (t := 124) (e := 9) (k := hxn t) Tryz.underlying9 Tryz.underlying124 (z := .string ByteArray.empty) rfl hnk'; rw [hff] at hlk1; have hlk2 := hT5.mp.look (t := 127) (e := 126) (k := hxn t) Tryz.underlying9 Tryz.underlying127 (z := .pointer none) rfl hnk'; rw [← hxn', pF_some hT5.kd hxe] at hlk2; rw [hxn'] at hlk2; have x0 := (hT5.node x hxe).cell 0)
     exact ⟨⟨k + 1, fs, by simp, by omega, rfl, by rw [HMN.out]; exact ho5, by rw [HTK.out]; exact hfr.old (.inr ⟨x, hxe, hxn', hq⟩), hm5, hgr5⟩, by simp only [intOf]; omega⟩
    ·have hbe := beqL_false hq
     go_wp2_with (at_builtin; go_must (refine wpList_append_slr rfl (.tmp 33) (.tmp 35) _ rfl w2.heap.size 9 (.string ByteArray.empty) 1 16 Go.Proofs.YtgnblkmpoigejaaGreatDoor.es Tryz.underlying59 stringInfo rfl (by decide) (fun _ => rfl) _ ((ds.take k).map hxn) rfl (HO4.out.alloc _) _ [hxn t] rfl (SlR.lit w4 [.string (hxn t)] _ [hxn t] rfl) (es_one _) (by simp only [maxLen, List.length_cons, List.length_nil]; omega) (by simp only [List.length_cons, List.length_nil]; omega) (by have := hgr4.size; simp; omega) ?_); intro v5 w5 ho5 hg5; obtain ⟨hm5, hT5, hgr5⟩ := HF.out w5 hg5; have p2 := hT5.blk.cell 2; have hlk1 := hm5.look_ok (t := 124) (e := 9) (k := hxn t) Tryz.underlying9 Tryz.underlying124 (z := .string ByteArray.empty) rfl hnk'; rw [hff] at hlk1; have hlk2 := hT5.mp.look (t := 127) (e := 126) (k := hxn t) Tryz.underlying9 Tryz.underlying127 (z := .pointer none) rfl hnk'; rw [← hxn', pF_some hT5.kd hxe] at hlk2; rw [hxn'] at hlk2; have x0 := (hT5.node x hxe).cell 0)
     go_ret2
     obtain ⟨hrf, hps⟩ := HE.out w5 hgr5
     exact ⟨.slice none 0 0, 9, rfl, hrf, .inr (.inl ⟨rfl, rfl, hps, t, by rw [hdd]; exact HTM.out, .inr ⟨x, hxe, hxn', hq⟩⟩)⟩
  ·obtain rfl : k = ds.length := by omega
   have htk : ds.take ds.length = ds := List.take_of_length_le (Nat.le_refl _)
   rw [htk] at how hfr
   have hbr : Below w.heap.size w wr := hA2.grown hgr hA2.size (fun j hj => by cases hj; exact Nat.le_of_eq HFB.out.symm)
   have hps := HS.out.below hbr
   have HPS := Lib.hid hps
   have HBR := Lib.hid hbr
   have HFR := Lib.hid hfr
   have HOW := Lib.hid how
   have HMP := Lib.hid hmp
   have p0 := hps.blk.cell 0
   have p1 := hps.blk.cell 1
   have p2 := hps.blk.cell 2
   have hl1 := hps.mp.drew.len_ (t := 127) (e := 126) Tryz.underlying127 3
   have hl2 := hmp.drew.len_ (t := 124) (e := 9) Tryz.underlying124 3
   have hfl : fs.length ≤ 5000 := by have h1 := hfr.sub.length_le; omega
   have hel := hps.len
   have hus := hps.us
   have hrm := hps.rm
   have hw2 : IntKind.i64.wrap ((es.length : Int) + (fs.length : Int)) = (es.length : Int) + (fs.length : Int) := by rw [IntKind.wrap_i64]; omega
   have hup : 0 ≤ usedP es := by have := usedP_len hps.sz; omega
   have hw1 : IntKind.i64.wrap (usedP es + (((fs.map (·.size)).sum : Nat) : Int)) = usedP es + (((fs.map (·.size)).sum : Nat) : Int) := by rw [IntKind.wrap_i64]; omega
   have hzr : w2.heap.size ≤ wr.heap.size := hgr.size
   clear hps hbr how hmp hfr hgr htk hk hlt
   generalize hyy : (fs.map (·.size)).sum = y at *
   by_cases hc1 : room < usedP es + (y : Int)
   ·have hd1 : decide (room < usedP es + (y : Int)) = true := by rw [decide_eq_true_iff]; exact hc1
    generalize hUU : usedP es = U at *
    go_wp2_with fail
    refine wp_region_seq [(true, 0), (true, 1), (true, 2), (true, 3), (true, 4), (true, 5), (true, 6), (true, 7), (true, 8), (true, 9), (true, 10), (true, 11), (true, 12), (true, 13), (true, 14), (true, 15), (true, 16), (true, 17), (true, 18), (true, 19), (true, 20), (true, 21)] (fun w' => w' = wr.drew) (by kernel_rfl) (by kernel_rfl) (fun _ _ _ _ _ h => h) (by kernel_rfl) (by kernel_rfl) ?_ ?_
    ·rfl
    iterate 22 (first | (apply seqH_skip; (focus (simp only [List.getElem?_toArray, List.getElem?_cons_succ, List.getElem?_cons_zero]; rfl)); (focus rfl); simp only [Act.put, List.setIfInBounds_toArray, List.set_cons_zero, List.set_cons_succ]) | (apply seqH_take; (focus (simp only [List.getElem?_toArray, List.getElem?_cons_succ, List.getElem?_cons_zero]; rfl)); (focus rfl); (focus (intro w' hS; subst hS; first | (go_simp; rfl) | (go_simp; done))); simp only [Act.put, List.setIfInBounds_toArray, List.set_cons_zero, List.set_cons_succ]) | (apply seqH_pass; (focus (simp only [List.getElem?_toArray, List.getElem?_cons_succ, List.getElem?_cons_zero]; rfl)); (focus rfl); (focus assumption); simp only [Act.put, List.setIfInBounds_toArray, List.set_cons_zero, List.set_cons_succ]))
    refine seqH_nil ?_
    go_wp2_with fail
    go_ret2
    exact ⟨.slice none 0 0, 6, rfl, RG.of_below HBR.out.drew hn0w, .inr (.inr ⟨rfl, rfl, HPS.out.drew, fs, by rw [hdd]; exact HFR.out, .inl (by rw [hUU, hyy]; exact hc1)⟩)⟩
   ·have hd1 : decide (room < usedP es + (y : Int)) = false := by rw [decide_eq_false_iff_not]; exact hc1
    by_cases hc2 : 10000 < es.length + fs.length
    ·have hd2 : decide ((10000 : Int) < (es.length : Int) + (fs.length : Int)) = true := by rw [decide_eq_true_iff]; omega
     generalize hUU : usedP es = U at *
     go_wp2_with fail
     refine wp_region_seq [(true, 0), (true, 1), (true, 2), (true, 3), (true, 4), (true, 5), (true, 6), (true, 7), (true, 8), (true, 9), (true, 10), (true, 11), (true, 12), (true, 13), (true, 14), (true, 15), (true, 16), (true, 17), (true, 18), (true, 19), (true, 20), (true, 21)] (fun w' => w' = wr.drew) (by kernel_rfl) (by kernel_rfl) (fun _ _ _ _ _ h => h) (by kernel_rfl) (by kernel_rfl) ?_ ?_
     ·rfl
     iterate 22 (first | (apply seqH_skip; (focus (simp only [List.getElem?_toArray, List.getElem?_cons_succ, List.getElem?_cons_zero]; rfl)); (focus rfl); simp only [Act.put, List.setIfInBounds_toArray, List.set_cons_zero, List.set_cons_succ]) | (apply seqH_take; (focus (simp only [List.getElem?_toArray, List.getElem?_cons_succ, List.getElem?_cons_zero]; rfl)); (focus rfl); (focus (intro w' hS; subst hS; first | (go_simp; rfl) | (go_simp; done))); simp only [Act.put, List.setIfInBounds_toArray, List.set_cons_zero, List.set_cons_succ]) | (apply seqH_pass; (focus (simp only [List.getElem?_toArray, List.getElem?_cons_succ, List.getElem?_cons_zero]; rfl)); (focus rfl); (focus assumption); simp only [Act.put, List.setIfInBounds_toArray, List.set_cons_zero, List.set_cons_succ]))
     refine seqH_nil ?_
     go_wp2_with fail
     go_ret2
     exact ⟨.slice none 0 0, 6, rfl, RG.of_below HBR.out.drew hn0w, .inr (.inr ⟨rfl, rfl, HPS.out.drew, fs, by rw [hdd]; exact HFR.out, .inr hc2⟩)⟩
    ·have hd2 : decide ((10000 : Int) < (es.length : Int) + (fs.length : Int)) = false := by rw [decide_eq_false_iff_not]; omega
     have f1 := HPS.out.blk.frozen 1
     generalize hUU : usedP es = U at *
     go_wp2_with fail
     refine wp_region_seq [(true, 0), (true, 1), (true, 2), (true, 3), (true, 4), (true, 5), (true, 6), (true, 7), (true, 8), (true, 9), (true, 10), (true, 11), (true, 12), (true, 13), (true, 14), (true, 15), (true, 16), (true, 17), (true, 18), (true, 19), (true, 20), (true, 21)] (fun w' => w' = wr.drew) (by kernel_rfl) (by kernel_rfl) (fun _ _ _ _ _ h => h) (by kernel_rfl) (by kernel_rfl) ?_ ?_
     ·rfl
     iterate 22 (first | (apply seqH_skip; (focus (simp only [List.getElem?_toArray, List.getElem?_cons_succ, List.getElem?_cons_zero]; rfl)); (focus rfl); simp only [Act.put, List.setIfInBounds_toArray, List.set_cons_zero, List.set_cons_succ]) | (apply seqH_take; (focus (simp only [List.getElem?_toArray, List.getElem?_cons_succ, List.getElem?_cons_zero]; rfl)); (focus rfl); (focus (intro w' hS; subst hS; first | (go_simp; rfl) | (go_simp; done))); simp only [Act.put, List.setIfInBounds_toArray, List.set_cons_zero, List.set_cons_succ]) | (apply seqH_pass; (focus (simp only [List.getElem?_toArray, List.getElem?_cons_succ, List.getElem?_cons_zero]; rfl)); (focus rfl); (focus assumption); simp only [Act.put, List.setIfInBounds_toArray, List.set_cons_zero, List.set_cons_succ]))
     refine seqH_nil ?_
     clear hl1 hl2 p0
     have HPD := Lib.hid HPS.out.drew.toT
     have HMD := Lib.hid HMP.out.drew
     have hBD : Below w.heap.size w wr.drew := HBR.out.drew
     have HOD := Lib.hid HOW.out.drew
     clear HPS HMP HOW HBR
     change wr.drew.cell? _ = _ at p1
     change wr.drew.cell? _ = _ at p2
     change wr.drew.frozen? _ = _ at f1
     have hzd : w2.heap.size ≤ wr.drew.heap.size := hzr
     generalize wr.drew = wd at *
     go_wp2_with (refine wpList_rangeS rfl (.tmp 103) rfl rfl (HMD.out.setCell HPD.out.blk _) Tryz.underlying9 Tryz.underlying124 ?_; intro w6 hrg hg6 hz6)
     have hzs : (wd.setCell ⟨p, 1, none⟩ (.int .i64 (U + (y : Int)))).heap.size = wd.heap.size := by simp [World.setCell]
     have hT6 := (HPD.out.use (V := U + (y : Int))).kept hg6 (by simp) (by simp) (fun _ _ => by simp)
     have hRF6 : RG RP mb n0 w w6 := ((RG.of_below hBD hn0w).set_ HPD.out.blk HPD.out.b0.1 rfl _).grown hg6 (by rw [hzs]; have := hBD.size; omega) (fun j hj => by cases hj)
     have hO6 : Owns w6 w2.heap.size 9 1 Go.Proofs.YtgnblkmpoigejaaGreatDoor.es u6 (ds.map hxn) := by
      have hgp : wd.grownBy (wd.setCell ⟨p, 1, none⟩ (.int .i64 (U + (y : Int)))) (some p) := ⟨rfl, rfl, rfl, by simp [World.setCell], fun k _ hne => Below.heap_setCell _ _ _ _ (fun e => hne (by rw [e]))⟩
      refine (HOD.out.grownOther hgp ?_).grownOther hg6 (by
       cases hv : u6.ownBlock with
       | none => exact .inl rfl
       | some j => exact .inr (by simp))
      cases hv : u6.ownBlock with
      | none => exact .inl rfl
      | some j => exact .inr fun e => by injection e with e; have := (HOD.out.lt j hv).1; have := HS.out.blk.lt; have := HL.out; have := HFB.out; omega
     obtain ⟨Au, cu, rfl⟩ := hO6.slice
     have hml : (ds.map hxn).length = ds.length := List.length_map ..
     rw [hml] at hO6 ⊢
     rw [hzs] at hrg ⊢
     obtain ⟨rb, hrb⟩ : ∃ rb, rb = wd.heap.size := ⟨_, rfl⟩
     rw [← hrb] at hrg ⊢
     have HRB := Lib.hid hrb
     have HZ6 : Hid (w6.heap.size = rb + 1) := by show _ = _; rw [hz6, hzs, hrb]
     clear hrb hg6 hz6 hzs p1 p2 f1 HOD HMD hBD
     simp only [Act.put, List.setIfInBounds_toArray, List.set_cons_zero, List.set_cons_succ]
     go_loopw [15] (fun _ wl => ∃ (dn : List Pe) (left : ByteArray → Bool) (cnt : Nat), RngS Tryz.prog wl 9 fb rb (fF fs) left cnt ∧ PileT wl n0 p room (U + (y : Int)) mb (es ++ dn) ∧ Owns wl w2.heap.size 9 1 Go.Proofs.YtgnblkmpoigejaaGreatDoor.es (.slice Au ds.length cu) (ds.map hxn) ∧ RG RP mb n0 w wl ∧ DoneI fs dn left ∧ w6.heap.size ≤ wl.heap.size ∧ dn.length + cnt ≤ fs.length) (fun _ wl => wl.rangeLeft fb rb)
     case atStart => exact ⟨[], _, _, hrg, by rw [List.append_nil]; exact hT6, hO6, hRF6, DoneI.start HFR.out.nd, Nat.le_refl _, by simp⟩
     case round =>
      obtain ⟨dn, left, cnt, hr, hT, hO, hRF, hDI, hsz, hcn⟩ := hrel
      have HR := Lib.hid hr
      have HTT := Lib.hid hT
      have HOO := Lib.hid hO
      have HRF := Lib.hid hRF
      have HDI := Lib.hid hDI
      have HSZ := Lib.hid hsz
      clear hr hT hO hRF hDI hrg hT6 hO6 hRF6 hsz
      go_wp2_with (first
       | (refine wpList_nextS rfl (.tmp 104) rfl Tryz.underlying9 rfl HR.out (fun h0 hnone => ?hd) (fun x v w7 cnt7 hxz hlx hfx hr7 hlt7 hg7 hz7 hen => ?hm); case' hm => (obtain ⟨t, htf, rfl, rfl⟩ := fF_inv hfx; have hT7 := HTT.out.keptO hg7 (fun j hj => by cases hj; obtain ⟨m, s, se, c, hi⟩ := HR.out.iter; exact ⟨_, hi, rfl⟩); have p2 := hT7.blk.cell 2))
       | (refine wpList_upd rfl (.tmp 113) (.tmp 114) (.tmp 117) rfl rfl ((hT7.alloc _).mp) Tryz.underlying9 Tryz.underlying127 (hxn t) (ptr wr.heap.size) rfl rfl hxz (by rw [List.length_append]; simp only [maxLen]; omega) ?_; intro w8 hm8 hg8))
      ·have hnew : ∀ y ∈ es ++ dn, y.n ≠ hxn t := by
        intro y hy e
        rcases List.mem_append.1 hy with hy | hy
        ·exact HFR.out.new t htf y hy e
        ·obtain ⟨_, _, _, h4⟩ := HDI.out.ok y hy
         rw [e, hlx] at h4
         cases h4
       have hww := HRF.out.size
       have hmbw : mb < w.heap.size := HS.out.mp.lt
       have hfbe := HFB.out
       have hT8 : PileT w8 n0 p room (U + (y : Int)) mb ((es ++ dn) ++ [⟨w7.heap.size, hxn t, t, 0⟩]) := by
        refine hT7.add rfl hnew (by omega) ?_ hg8
        rw [← hz7] at hm8
        exact hm8
       have hrbw : w.heap.size ≤ rb := by have h1 := HRB.out; have h2 := HL.out; omega
       have hR8 : RngS Tryz.prog w8 9 fb rb (fF fs) (fun k => left k && !decide (k = hxn t)) cnt7 := (hr7.alloc (.cells #[.string t, .int .i64 0] 131)).kept hg8 (fun e => by injection e with e; omega) (fun e => by injection e with e; omega)
       have hO7 := HOO.out.grownOther hg7 (HOO.out.noIter (by obtain ⟨m, s, se, c, hi⟩ := HR.out.iter; exact ⟨_, hi, fun _ _ _ e => by cases e⟩))
       have hO7a := hO7.alloc (.cells #[.string t, .int .i64 0] 131)
       have hO8 := hO7a.grownOther hg8 (hO7a.noIter (by obtain ⟨e1, c1, hi⟩ := (hT7.alloc (.cells #[.string t, .int .i64 0] 131)).mp.isMapObj; exact ⟨_, hi, fun _ _ _ e => by cases e⟩))
       have hF7 : RG RP mb n0 w w7 := HRF.out.grownN hg7 (by omega) (fun j hj => by cases hj; exact ⟨.inl (by omega), .inl hrbw⟩)
       have hF8 : RG RP mb n0 w w8 := (hF7.alloc (by omega) (.cells #[.string t, .int .i64 0] 131)).grown hg8 (by simp; omega) (fun j hj => by cases hj; exact ⟨HS.out.b0.2.1, by obtain ⟨e1, c1, hi⟩ := (hT7.alloc (.cells #[.string t, .int .i64 0] 131)).mp.isMapObj; exact ⟨_, hi, by simp [okG]⟩⟩)
       have hs8 : w6.heap.size ≤ w8.heap.size := by have h1 := HSZ.out; have h2 := hg8.size; simp at h2; omega
       refine ⟨⟨_, _, _, _, _, _, _, _, _, _, _, _, _, _, _, ⟨dn ++ [⟨w7.heap.size, hxn t, t, 0⟩], _, cnt7, hR8, by rw [← List.append_assoc]; exact hT8, hO8, hF8, HDI.out.step HFR.out.nd htf hlx, hs8, by simp; omega⟩, rfl⟩, ?_⟩
       show w8.rangeLeft fb rb < wr.rangeLeft fb rb
       rw [hR8.left_eq, HR.out.left_eq]
       exact hlt7
      ·have hperm := HDI.out.perm HFR.out.nd hnone
       have hdl2 : dn.length = fs.length := by rw [← hperm.length_eq, List.length_map]
       have hud : usedP dn = (y : Int) := by
        have h1 : ((dn.map (·.t)).map fun t : ByteArray => (t.size : Int)).sum = (fs.map fun t => (t.size : Int)).sum := perm_sum (hperm.map _)
        rw [usedP_t, h1, ← hyy, sum_cast]
       have HALL : Hid (∀ t ∈ ds, ∃ x ∈ es ++ dn, x.n = hxn t) := by
        intro t ht
        rcases HFR.out.all t ht with h1 | ⟨x, hx, h1, _⟩
        ·obtain ⟨x, hx, hxt⟩ := List.mem_map.1 (hperm.mem_iff.2 h1)
         exact ⟨x, List.mem_append_right _ hx, by rw [(HDI.out.ok x hx).2.1, hxt]⟩
        ·exact ⟨x, List.mem_append_left _ hx, h1⟩
       have HPF : Hid (PutRes es ds (inc ds (es ++ dn))) := ⟨dn, fs, HFR.out, hperm, fun x hx => ⟨(HDI.out.ok x hx).2.1, (HDI.out.ok x hx).1⟩, rfl⟩
       have HLE : Hid ((inc ds (es ++ dn)).length ≤ 10000) := by show _ ≤ _; unfold inc; rw [List.length_map, List.length_append]; omega
       have HCC : Hid (∀ x ∈ es ++ dn, 0 ≤ x.c ∧ x.c ≤ 4611686018427387904) := by
        intro x hx
        rcases List.mem_append.1 hx with hx | hx
        ·exact HC.out x hx
        ·rw [(HDI.out.ok x hx).1]; decide
       have hUr : U + (y : Int) = usedP (inc ds (es ++ dn)) := by rw [usedP_inc, usedP_app, hud, hUU]
       have HUR := Lib.hid hUr
       have hroom : U + (y : Int) ≤ room := by omega
       have HMM : Hid (∀ x ∈ inc ds (es ++ dn), 1 ≤ x.t.size) := by
        intro x hx
        obtain ⟨z, hz, rfl⟩ := List.mem_map.1 hx
        show 1 ≤ z.t.size
        rcases List.mem_append.1 hz with hz | hz
        ·exact HS.out.sz z hz
        ·exact (hdz _ (HFR.out.sub.subset (HDI.out.ok z hz).2.2.1)).1
       have HST : Hid (PileT wr n0 p room (U + (y : Int)) mb (inc (ds.take 0) (es ++ dn))) := by rw [List.take_zero, inc_nil]; exact HTT.out
       have HCN : Hid (∀ k n, cntN (ds.take k) n ≤ 5000) := fun k n => by
        have h1 : cntN (ds.take k) n ≤ (ds.take k).length := List.length_filter_le _ _
        rw [List.length_take] at h1
        omega
       clear hud hUr hperm hdl2 hnone HR HTT HDI HZ6 HSZ
       clear hcn
       generalize es ++ dn = ed at *
       go_loopw [120] (fun iv wl => ∃ k : Nat, iv = .int .i64 (k : Int) ∧ k ≤ ds.length ∧ PileT wl n0 p room (U + (y : Int)) mb (inc (ds.take k) ed) ∧ Owns wl w2.heap.size 9 1 Go.Proofs.YtgnblkmpoigejaaGreatDoor.es (.slice Au ds.length cu) (ds.map hxn) ∧ RG RP mb n0 w wl) (fun iv _ => ds.length - (intOf iv).toNat)
       case atStart => exact ⟨0, rfl, Nat.zero_le _, HST.out, HOO.out, HRF.out⟩
       case round =>
        obtain ⟨k, rfl, hk, hT, hO, hRF⟩ := hrel
        have HTT := Lib.hid hT
        have HOO := Lib.hid hO
        have HRF := Lib.hid hRF
        clear hT hO hRF
        by_cases hlt : k < ds.length
        ·obtain ⟨bb, off, c3, hv2, hc3, hbb, hcell⟩ := SlR.texts (xs := ds.map hxn) (SlR.of_owns HOO.out) (by rw [hml]; omega)
         injection hv2 with g1 g2 g3
         subst g1 g3
         have c0 := hcell k (by rw [hml]; exact hlt)
         rw [List.getElem_map] at c0
         have HTK : Hid (ds.take (k + 1) = ds.take k ++ [ds[k]]) := by show _ = _; rw [List.take_add_one, List.getElem?_eq_getElem hlt]; rfl
         obtain ⟨x, hx, hxn'⟩ := HALL.out ds[k] (List.getElem_mem hlt)
         clear hcell g2 hc3
         generalize ds[k] = t at *
         have p2 := HTT.out.blk.cell 2
         have hxi : ({ x with c := x.c + (cntN (ds.take k) x.n : Int) } : Pe) ∈ inc (ds.take k) ed := List.mem_map.2 ⟨x, hx, rfl⟩
         have hlk := HTT.out.mp.look (t := 127) (e := 126) (k := hxn t) Tryz.underlying9 Tryz.underlying127 (z := .pointer none) rfl (by rw [hxn_size]; decide)
         have h9 := pF_some (x := { x with c := x.c + (cntN (ds.take k) x.n : Int) }) HTT.out.kd hxi
         have hpf : pF (inc (ds.take k) ed) (hxn t) = some (ptr x.b) := by rw [← hxn']; exact h9
         rw [hpf] at hlk
         clear h9 hpf
         have x1 := (HTT.out.node _ hxi).cell 1
         have f1 := (HTT.out.node _ hxi).frozen 1
         have hcb := HCC.out x hx
         have hcn := HCN.out k x.n
         have hadd : IntKind.i64.wrap (x.c + (cntN (ds.take k) x.n : Int) + 1) = x.c + (cntN (ds.take k) x.n : Int) + 1 := by rw [IntKind.wrap_i64]; omega
         have HM := Lib.hid (PileT.more HTT.out hx hxn')
         have hxb : n0.ok x.b := HTT.out.b0.2.2 { x with c := x.c + (cntN (ds.take k) x.n : Int) } hxi
         have HBX := Lib.hid (HTT.out.node _ hxi)
         clear hxi hcb hcn
         generalize x.c + (cntN (ds.take k) x.n : Int) = cc at *
         go_wp2_with fail
         have hrs : RG RP mb n0 wr (wr.setCell ⟨x.b, 1, none⟩ (.int .i64 (cc + 1))) := (RG.refl _ _ _ _).set_ HBX.out hxb rfl _
         exact ⟨⟨k + 1, by simp, by omega, by rw [HTK.out]; exact HM.out, HOO.out.rf hrs.toRF rfl, HRF.out.trans hrs⟩, by simp only [intOf]; omega⟩
        ·obtain rfl : k = ds.length := by omega
         have htk : ds.take ds.length = ds := List.take_of_length_le (Nat.le_refl _)
         rw [htk] at HTT
         have hw2 : w.heap.size ≤ w2.heap.size := by have := HL.out; have := HFB.out; omega
         clear htk hk hlt
         go_wp2_with fail
         go_ret2
         refine ⟨_, 0, rfl, HRF.out, .inl ⟨rfl, inc ds ed, ?_, HLE.out, by rw [hdd]; exact HPF.out, by rw [hdd]; exact HOO.out.mono hw2⟩⟩
         have hT := HTT.out
         rw [HUR.out] at hT hroom
         exact hT.toS hrm HMM.out hroom
set_option maxRecDepth 20000
def cntK (ks : List ByteArray) (n : ByteArray) : Nat := (ks.filter fun k => decide (k = n)).length
theorem cntK_hxn (ds : List ByteArray) (n : ByteArray) : cntK (ds.map hxn) n = cntN ds n := by
 unfold cntK cntN
 rw [List.filter_map, List.length_map]
 rfl
theorem cntK_snoc (ks : List ByteArray) (k n : ByteArray) : cntK (ks ++ [k]) n = cntK ks n + (if k = n then 1 else 0) := by
 unfold cntK
 rw [List.filter_append, List.length_append]
 congr 1
 by_cases h : k = n <;> simp [h]
theorem cntK_le (ks : List ByteArray) (n : ByteArray) : cntK ks n ≤ ks.length := List.length_filter_le _ _
theorem cntK_pos {ks : List ByteArray} {n : ByteArray} : cntK ks n ≠ 0 ↔ n ∈ ks := by
 unfold cntK
 rw [Ne, List.length_eq_zero_iff, List.filter_eq_nil_iff]
 constructor
 ·intro h
  false_or_by_contra
  rename_i hn
  exact h fun a ha => by simp; rintro rfl; exact hn ha
 ·intro h g
  have := g n h
  simp at this
def ocF (ks : List ByteArray) (k : ByteArray) : Option Value := if cntK ks k = 0 then none else some (.int .i64 (cntK ks k : Int))
theorem ocF_getD (ks : List ByteArray) (k : ByteArray) : (ocF ks k).getD (.int .i64 0) = .int .i64 (cntK ks k : Int) := by
 unfold ocF
 split <;> simp_all
theorem ocF_put (ks : List ByteArray) (k x : ByteArray) : fput (ocF ks) k (.int .i64 ((cntK ks k : Int) + 1)) x = ocF (ks ++ [k]) x := by
 unfold fput ocF
 rw [cntK_snoc]
 by_cases h : x = k
 ·subst h
  simp
 ·have : ¬ k = x := fun e => h e.symm
  simp [h, this]
theorem ocF_inv {ks : List ByteArray} {k : ByteArray} {v : Value} (h : ocF ks k = some v) : k ∈ ks ∧ v = .int .i64 (cntK ks k : Int) := by
 unfold ocF at h
 split at h
 ·cases h
 ·rename_i hn
  exact ⟨cntK_pos.1 hn, by injection h with h; exact h.symm⟩
theorem ocF_some (ks : List ByteArray) (k : ByteArray) : (ocF ks k).isSome = !decide (cntK ks k = 0) := by
 unfold ocF
 by_cases h : cntK ks k = 0 <;> simp [h]
def wasD (ks : List ByteArray) (left : ByteArray → Bool) (k : ByteArray) : Bool := (ocF ks k).isSome && !left k
theorem wasD_step {ks : List ByteArray} {left : ByteArray → Bool} {x : ByteArray} (hx : (ocF ks x).isSome = true) (k : ByteArray) : wasD ks (fun k => left k && !decide (k = x)) k = (wasD ks left k || decide (k = x)) := by
 unfold wasD
 by_cases h : k = x
 ·subst h; simp [hx]
 ·simp [h]
def cutE (D : ByteArray → Bool) (ks : List ByteArray) (es : List Pe) : List Pe := (es.map fun x => if D x.n then { x with c := x.c - (cntK ks x.n : Int) } else x).filter fun x => !decide (x.c = 0)
def upC (es : List Pe) (n : ByteArray) (v : Int) : List Pe := es.map fun y => if y.n = n then { y with c := v } else y
def rmN (es : List Pe) (n : ByteArray) : List Pe := es.filter fun y => !decide (y.n = n)
section
variable {D E : ByteArray → Bool} {ks : List ByteArray} {es : List Pe} {t : ByteArray} {v : Int}
theorem cutE_start (h : ∀ x ∈ es, 1 ≤ x.c) : cutE (fun _ => false) ks es = es := by
 unfold cutE
 simp only [Bool.false_eq_true, if_false, List.map_id']
 rw [List.filter_eq_self]
 intro x hx
 have := h x hx
 simp; omega
theorem cutE_congr (h : ∀ x ∈ es, D x.n = E x.n ∨ cntK ks x.n = 0) : cutE D ks es = cutE E ks es := by
 unfold cutE
 congr 1
 refine List.map_congr_left fun x hx => ?_
 rcases h x hx with h | h
 ·rw [h]
 ·rw [h]; cases x; simp
theorem cutE_mem {x : Pe} (hx : x ∈ es) (hD : D x.n = false) (hp : 1 ≤ x.c) : x ∈ cutE D ks es := by
 unfold cutE
 rw [List.mem_filter]
 exact ⟨List.mem_map.2 ⟨x, hx, by rw [hD]; rfl⟩, by simp; omega⟩
theorem usedP_cut : usedP (cutE D ks es) ≤ usedP es := by
 induction es with
 | nil => simp [cutE, usedP]
 | cons x l ih =>
  unfold cutE at ih ⊢
  rw [List.map_cons]
  have ht : (if D x.n then ({ x with c := x.c - (cntK ks x.n : Int) } : Pe) else x).t = x.t := by split <;> rfl
  generalize (if D x.n then ({ x with c := x.c - (cntK ks x.n : Int) } : Pe) else x) = y at *
  by_cases hy : y.c = 0
  ·rw [List.filter_cons_of_neg (by simp [hy])]
   simp only [usedP, List.map_cons, List.sum_cons] at ih ⊢
   omega
  ·rw [List.filter_cons_of_pos (by simp [hy])]
   simp only [usedP, List.map_cons, List.sum_cons, ht] at ih ⊢
   omega
theorem cutE_sz (h : ∀ x ∈ es, 1 ≤ x.t.size) : ∀ x ∈ cutE D ks es, 1 ≤ x.t.size := by
 intro x hx
 obtain ⟨z, hz, rfl⟩ := List.mem_map.1 (List.mem_filter.1 hx).1
 split
 ·exact h z hz
 ·exact h z hz
theorem cutE_set (hD : D t = false) (hv : ∀ x ∈ es, x.n = t → x.c - (cntK ks t : Int) = v) (hp : ∀ x ∈ es, 1 ≤ x.c) (h0 : v ≠ 0) : upC (cutE D ks es) t v = cutE (fun k => D k || decide (k = t)) ks es := by
 induction es with
 | nil => rfl
 | cons x l ih =>
  have ih := ih (fun y hy => hv y (List.mem_cons_of_mem _ hy)) (fun y hy => hp y (List.mem_cons_of_mem _ hy))
  have h1 := hv x (by simp)
  have h2 := hp x (by simp)
  unfold cutE upC at ih ⊢
  rw [List.map_cons, List.map_cons]
  by_cases ht : x.n = t
  ·have h1 := h1 ht
   have h3 : ¬ x.c = 0 := by omega
   rw [List.filter_cons_of_pos (by simp [ht, hD, h3]), List.filter_cons_of_pos (by simp [ht, h1, h0]), List.map_cons, ih]
   simp [ht, hD, h1]
  ·by_cases hd : D x.n = true
   ·by_cases hz : x.c - (cntK ks x.n : Int) = 0
    ·rw [List.filter_cons_of_neg (by simp [hd, hz]), List.filter_cons_of_neg (by simp [hd, hz]), ih]
    ·rw [List.filter_cons_of_pos (by simp [hd, hz]), List.filter_cons_of_pos (by simp [hd, hz]), List.map_cons, ih]
     simp [hd, ht]
   ·have hd : D x.n = false := by simpa using hd
    have h3 : ¬ x.c = 0 := by omega
    rw [List.filter_cons_of_pos (by simp [hd, h3]), List.filter_cons_of_pos (by simp [hd, ht, h3]), List.map_cons, ih]
    simp [hd, ht]
theorem cutE_rm (hD : D t = false) (hv : ∀ x ∈ es, x.n = t → x.c - (cntK ks t : Int) = 0) (hp : ∀ x ∈ es, 1 ≤ x.c) : rmN (upC (cutE D ks es) t 0) t = cutE (fun k => D k || decide (k = t)) ks es := by
 induction es with
 | nil => rfl
 | cons x l ih =>
  have ih := ih (fun y hy => hv y (List.mem_cons_of_mem _ hy)) (fun y hy => hp y (List.mem_cons_of_mem _ hy))
  have h1 := hv x (by simp)
  have h2 := hp x (by simp)
  unfold cutE upC rmN at ih ⊢
  rw [List.map_cons, List.map_cons]
  by_cases ht : x.n = t
  ·have h1 := h1 ht
   have h3 : ¬ x.c = 0 := by omega
   rw [List.filter_cons_of_pos (by simp [ht, hD, h3]), List.filter_cons_of_neg (by simp [ht, h1]), List.map_cons, List.filter_cons_of_neg (by simp [ht, hD]), ih]
  ·by_cases hd : D x.n = true
   ·by_cases hz : x.c - (cntK ks x.n : Int) = 0
    ·rw [List.filter_cons_of_neg (by simp [hd, hz]), List.filter_cons_of_neg (by simp [hd, hz]), ih]
    ·rw [List.filter_cons_of_pos (by simp [hd, hz]), List.filter_cons_of_pos (by simp [hd, hz]), List.map_cons, List.filter_cons_of_pos (by simp [hd, ht]), ih]
     simp [hd, ht]
   ·have hd : D x.n = false := by simpa using hd
    have h3 : ¬ x.c = 0 := by omega
    rw [List.filter_cons_of_pos (by simp [hd, h3]), List.filter_cons_of_pos (by simp [hd, ht, h3]), List.map_cons, List.filter_cons_of_pos (by simp [hd, ht]), ih]
    simp [hd, ht]
theorem upC_n : (upC es t v).map (·.n) = es.map (·.n) := by
 unfold upC; rw [List.map_map]; refine List.map_congr_left fun x _ => ?_; simp only [Function.comp]; split <;> rfl
theorem upC_b : (upC es t v).map (·.b) = es.map (·.b) := by
 unfold upC; rw [List.map_map]; refine List.map_congr_left fun x _ => ?_; simp only [Function.comp]; split <;> rfl
theorem upC_t : (upC es t v).map (·.t) = es.map (·.t) := by
 unfold upC; rw [List.map_map]; refine List.map_congr_left fun x _ => ?_; simp only [Function.comp]; split <;> rfl
theorem upC_len : (upC es t v).length = es.length := by unfold upC; rw [List.length_map]
theorem usedP_upC : usedP (upC es t v) = usedP es := by rw [usedP_t, usedP_t, upC_t]
theorem pF_upC (k : ByteArray) : pF (upC es t v) k = pF es k := by
 induction es with
 | nil => rfl
 | cons y l ih =>
  unfold pF upC at *
  rw [List.map_cons]
  by_cases h : y.n = k
  ·rw [List.find?_cons_of_pos (by split <;> simp [h]), List.find?_cons_of_pos (by simp [h])]
   simp only [Option.map_some]
   split <;> rfl
  ·rw [List.find?_cons_of_neg (by split <;> simp [h]), List.find?_cons_of_neg (by simpa using h)]
   exact ih
theorem pF_rmN (k : ByteArray) : pF (rmN es t) k = fdel (pF es) t k := by
 unfold fdel
 induction es with
 | nil => simp [pF, rmN]
 | cons y l ih =>
  unfold pF rmN at *
  by_cases h : y.n = t
  ·rw [List.filter_cons_of_neg (by simp [h]), ih]
   by_cases hk : k = t
   ·rw [if_pos hk, if_pos hk]
   ·rw [if_neg hk, if_neg hk, List.find?_cons_of_neg (by rw [h]; simp; exact fun e => hk e.symm)]
  ·rw [List.filter_cons_of_pos (by simp [h])]
   by_cases hy : y.n = k
   ·have hk : ¬ k = t := by rw [← hy]; exact h
    rw [if_neg hk, List.find?_cons_of_pos (by simp [hy]), List.find?_cons_of_pos (by simp [hy])]
   ·rw [List.find?_cons_of_neg (by simpa using hy), List.find?_cons_of_neg (by simpa using hy)]
    exact ih
theorem rm_none (h : ∀ x ∈ es, x.n ≠ t) : rmN es t = es := by
 unfold rmN
 rw [List.filter_eq_self]
 intro x hx
 simpa using h x hx
theorem rm_one {x : Pe} (hk : (es.map (·.n)).Nodup) (hx : x ∈ es) : (rmN es x.n).length + 1 = es.length ∧ usedP (rmN es x.n) + (x.t.size : Int) = usedP es := by
 induction es with
 | nil => cases hx
 | cons y l ih =>
  rw [List.map_cons, List.nodup_cons] at hk
  rcases List.mem_cons.1 hx with rfl | hx
  ·have hn : rmN l x.n = l := rm_none fun z hz e => hk.1 (List.mem_map.2 ⟨z, hz, e⟩)
   unfold rmN at hn ⊢
   rw [List.filter_cons_of_neg (by simp), hn]
   refine ⟨rfl, ?_⟩
   simp only [usedP, List.map_cons, List.sum_cons]
   omega
  ·obtain ⟨h1, h2⟩ := ih hk.2 hx
   have hne : ¬ y.n = x.n := fun e => hk.1 (List.mem_map.2 ⟨x, hx, e.symm⟩)
   unfold rmN at h1 h2 ⊢
   rw [List.filter_cons_of_pos (by simpa using hne), List.length_cons, List.length_cons]
   refine ⟨by omega, ?_⟩
   simp only [usedP, List.map_cons, List.sum_cons] at h2 ⊢
   omega
end
section
variable {w w' : World} {n0 : Lim} {p mb : Nat} {room U : Int} {es : List Pe}
theorem PileT.setc {x : Pe} (h : PileT w n0 p room U mb es) (hx : x ∈ es) (v : Int) : PileT (w.setCell ⟨x.b, 1, none⟩ (.int .i64 v)) n0 p room U mb (upC es x.n v) := by
 have hbx : Blk w x.b 131 #[.string x.t, .int .i64 x.c] := h.node _ hx
 have hpb : p ≠ x.b := by
  intro e
  have hb := h.blk
  unfold Blk at hb hbx
  rw [e, hbx] at hb
  cases hb
 refine ⟨Blk.far h.blk hpb _, fun y hy => ?_, (h.mp.setCell hbx _).congr (fun k => (pF_upC k).symm) upC_len.symm, by rw [upC_b]; exact h.nd, by rw [upC_n]; exact h.kd, ⟨h.b0.1, h.b0.2.1, fun y hy => ?_⟩, by simpa [World.setCell] using h.hz⟩
 ·obtain ⟨z, hz, rfl⟩ := List.mem_map.1 hy
  by_cases hzx : z.n = x.n
  ·have hze : z = x := nodup_inj h.kd hz hx hzx
   subst hze
   rw [if_pos rfl]
   exact hbx.set_ 1 (.int .i64 v)
  ·have hzb : z.b ≠ x.b := fun e => hzx (by rw [nodup_inj h.nd hz hx e])
   rw [if_neg hzx]
   exact Blk.far (h.node z hz) hzb (p := ⟨x.b, 1, none⟩) _
 ·obtain ⟨z, hz, rfl⟩ := List.mem_map.1 hy
  have := h.b0.2.2 z hz
  split <;> exact this
theorem PileT.del {n : ByteArray} {c : Nat} (h : PileT w n0 p room U mb es) (hm : MapS Tryz.prog w' 9 mb (fdel (pF es) n) c) (hc : c = (rmN es n).length) (hg : w.grownBy w' (some mb)) : PileT w' n0 p room U mb (rmN es n) := by
 have hne : ∀ {g : Nat} {t : TypeId} {cs : Array Value}, Blk w g t cs → some g ≠ some mb := fun hb e => by
  injection e with e
  exact h.mp.ne_blk hb e.symm
 have hsub : ∀ {α : Type} (f : Pe → α), ((rmN es n).map f).Sublist (es.map f) := fun f => (List.filter_sublist).map f
 exact ⟨Blk.keptR h.blk hg (hne h.blk), fun y hy => Blk.keptR (h.node y ((List.mem_filter.1 hy).1)) hg (hne (h.node y ((List.mem_filter.1 hy).1))), hm.congr (fun k => (pF_rmN k).symm) hc, (hsub _).nodup h.nd, (hsub _).nodup h.kd, ⟨h.b0.1, h.b0.2.1, fun y hy => h.b0.2.2 y ((List.mem_filter.1 hy).1)⟩, Nat.le_trans h.hz hg.size⟩
end
end Go.Proofs.YtgnblkmpoigejaaGreatDoor
