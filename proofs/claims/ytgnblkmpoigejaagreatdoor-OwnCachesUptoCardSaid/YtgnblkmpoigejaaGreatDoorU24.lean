import Derived.Test.YtgnblkmpoigejaaGreatDoorU23
set_option linter.unusedVariables false
set_option linter.unusedSimpArgs false
namespace Go.Proofs.YtgnblkmpoigejaaGreatDoor
set_option maxRecDepth 20000
open Go.RowKit Go.Shelf
namespace Ca
open Bk
theorem flt_split {p : Ce → Bool} {xs : List Ce} {x : Ce} (hk : (xs.map (·.n)).Nodup) (hx : x ∈ xs) (hp : p x = true) : ∃ a b, xs.filter p = a ++ x :: b ∧ xs.filter (fun y => p y && !decide (y.n = x.n)) = a ++ b := by
 obtain ⟨l, r, rfl⟩ := List.append_of_mem hx
 rw [List.map_append, List.map_cons, List.nodup_append] at hk
 obtain ⟨h1, h2, h3⟩ := hk
 have hl : l.filter (fun y => p y && !decide (y.n = x.n)) = l.filter p := List.filter_congr fun y hy => by
  have := h3 y.n (List.mem_map.2 ⟨y, hy, rfl⟩) x.n (by simp)
  simp [this]
 have hr : r.filter (fun y => p y && !decide (y.n = x.n)) = r.filter p := List.filter_congr fun y hy => by
  have : y.n ≠ x.n := fun q => (List.nodup_cons.1 h2).1 (List.mem_map.2 ⟨y, hy, q⟩)
  simp [this]
 exact ⟨l.filter p, r.filter p, by rw [List.filter_append, List.filter_cons_of_pos hp], by rw [List.filter_append, hl, List.filter_cons_of_neg (by simp), hr]⟩
def leftN (ys xs : List Ce) (k : Nat) : List Ce := xs.filter fun y => !((ys.take k).any fun z => decide (y.n = z.n))
theorem leftN_zero (ys xs : List Ce) : leftN ys xs 0 = xs := by simp [leftN]
theorem leftN_step {key : ByteArray} {m : List Fld} {xs : List Ce} {k : Nat} (hk : (xs.map (·.n)).Nodup) (h : k < (fitsC key m xs).length) : ∃ a b, leftN (fitsC key m xs) xs k = a ++ (fitsC key m xs)[k] :: b ∧ leftN (fitsC key m xs) xs (k + 1) = a ++ b := by
 have hys : ((fitsC key m xs).map (·.n)).Nodup := ((List.filter_sublist).map _).nodup hk
 have hx : (fitsC key m xs)[k] ∈ xs := (List.mem_filter.1 (List.getElem_mem h)).1
 obtain ⟨a, b, h1, h2⟩ := flt_split (p := fun y => !(((fitsC key m xs).take k).any fun z => decide (y.n = z.n))) hk hx (by
  rw [Bool.not_eq_true', List.any_eq_false]
  intro z hz
  rw [List.mem_take_iff_getElem] at hz
  obtain ⟨j, hj, rfl⟩ := hz
  simp only [decide_eq_true_eq]
  intro e
  have := (List.nodup_iff_pairwise_ne.1 hys)
  have h3 := List.pairwise_iff_getElem.1 this j k (by rw [List.length_map]; omega) (by rw [List.length_map]; omega) (by omega)
  rw [List.getElem_map, List.getElem_map] at h3
  exact h3 e.symm)
 refine ⟨a, b, h1, ?_⟩
 rw [← h2]
 unfold leftN
 refine List.filter_congr fun y _ => ?_
 rw [List.take_add_one, List.getElem?_eq_getElem h, List.any_append]
 simp [Bool.not_or]
theorem leftN_all {key : ByteArray} {m : List Fld} {xs : List Ce} (hk : (xs.map (·.n)).Nodup) : leftN (fitsC key m xs) xs (fitsC key m xs).length = xs.filter fun x => !fitB key m x.pl := by
 unfold leftN
 rw [List.take_of_length_le (Nat.le_refl _)]
 refine List.filter_congr fun y hy => ?_
 congr 1
 rw [Bool.eq_iff_iff, List.any_eq_true]
 constructor
 ·rintro ⟨z, hz, he⟩
  obtain ⟨h1, h2⟩ := List.mem_filter.1 hz
  rw [nodup_inj hk hy h1 (of_decide_eq_true he)]
  exact h2
 ·intro h
  exact ⟨y, List.mem_filter.2 ⟨hy, h⟩, by simp⟩
def clearC (key : ByteArray) (m : List Fld) (xs : List Ce) : List Ce := xs.filter fun x => !fitB key m x.pl
theorem clearC_pl (key : ByteArray) (m : List Fld) (xs : List Ce) : (clearC key m xs).map Ce.pl = clearE key m (xs.map Ce.pl) := by
 unfold clearC clearE
 rw [List.filter_map]
 rfl
def leftC (room s : Int) : List Ce → List Ce
 | [] => []
 | x :: r => if usedE ((x :: r).map Ce.pl) + s ≤ room then x :: r else leftC room s r
theorem leftC_pl (room s : Int) : ∀ xs : List Ce, (leftC room s xs).map Ce.pl = leftE room s (xs.map Ce.pl)
 | [] => rfl
 | x :: r => by
  unfold leftC
  rw [List.map_cons]
  unfold leftE
  rw [← List.map_cons]
  split
  ·rfl
  ·exact leftC_pl room s r
theorem usedK_map (xs : List Ce) : usedK (xs.map fun x => kvE x.pl) = usedE (xs.map Ce.pl) := by
 unfold usedK usedE
 rw [List.map_map, List.map_map]
 rfl
theorem leftK_map (room s : Int) : ∀ xs : List Ce, leftK room s (xs.map fun x => kvE x.pl) = (leftC room s xs).map fun x => kvE x.pl
 | [] => rfl
 | x :: r => by
  rw [List.map_cons]
  unfold leftK leftC
  rw [← List.map_cons (f := fun x : Ce => kvE x.pl), usedK_map]
  split
  ·rfl
  ·exact leftK_map room s r
theorem leftC_split (room s : Int) : ∀ xs : List Ce, ∃ gs, xs = gs ++ leftC room s xs
 | [] => ⟨[], rfl⟩
 | x :: r => by
  unfold leftC
  split
  ·exact ⟨[], rfl⟩
  ·obtain ⟨gs, h⟩ := leftC_split room s r
   exact ⟨x :: gs, by rw [List.cons_append, ← h]⟩
theorem goneK_map {room s : Int} {xs gs : List Ce} (h : xs = gs ++ leftC room s xs) : Bk.goneK room s (xs.map fun x => kvE x.pl) = gs.map (·.n) := by
 have h1 := Bk.goneK_left room s (xs.map fun x => kvE x.pl)
 rw [leftK_map] at h1
 have h2 : (xs.map fun x => kvE x.pl).map (·.1) = gs.map (·.n) ++ ((leftC room s xs).map fun x => kvE x.pl).map (·.1) := by
  conv => lhs; rw [h]
  rw [List.map_append, List.map_append, List.map_map]
  rfl
 rw [h2] at h1
 exact List.append_cancel_right h1
section
variable {w w' : World} {n0 : Lim} {M made : Nat} {A : Ad} {room : Int} {xs : List Ce}
theorem CaS.pile_to {E : List ByteArray} {es : List Pe} {cs : List ByteArray} (h : CaS w n0 A room M xs made) (hr : RG RP A.mp n0 w w') (hp : PV w' n0 A.pp A.mp 1000000 es cs) (hc : cs.Perm (chunksC xs ++ E)) (hE : E.length ≤ 5000) : CaS w' n0 { A with ex := E } room M xs made := by
 obtain ⟨ns, hrow, hkv⟩ := h.row
 exact ⟨⟨Blk.rgX h.t.blk hr rfl, ⟨es, cs, hp, hc⟩, MapS.rgX h.t.mp hr h.t.ne.2.2.symm, fun x hx => (h.t.ent x hx).rgX hr rfl rfl rfl, h.t.nd, h.t.kd, h.t.nm, h.t.b0, h.t.ne, h.t.len, hE⟩, ns, RowS.rg hrow hr h.t.ne.1, hkv⟩
theorem Ad.ex_nil (h : A.ex = []) : ({ A with ex := [] } : Ad) = A := by cases A; simp_all
theorem CaT.up (h : CaT w n0 A room M xs made) (v : Value) (hv : v = .int .i64 ((made : Int) + 1)) : CaT (w.setCell ⟨A.c, 4, none⟩ v) n0 A room M xs (made + 1) := by
 subst hv
 have g := gcell w ⟨A.c, 4, none⟩ (.int .i64 ((made : Int) + 1))
 obtain ⟨es, cs, hpv, hc⟩ := h.pile
 have hb := h.blk.set_ 4 (.int .i64 ((made : Int) + 1))
 refine ⟨?_, ⟨es, cs, ⟨?_, hpv.rep⟩, hc⟩, h.mp.setCell h.blk _, fun x hx => (h.ent x hx).far g h.blk (by decide) (by decide) (by decide), h.nd, h.kd, fun x hx => ?_, h.b0, h.ne, h.len, h.exl⟩
 ·rw [show (((made + 1 : Nat)) : Int) = (made : Int) + 1 from by omega]
  exact hb
 ·exact (hpv.st.toT.kept g (blk_ne hpv.st.blk h.blk (by decide)) (fun e => by injection e with e; exact hpv.st.mp.ne_blk h.blk e) (fun z hz => blk_ne (hpv.st.node z hz) h.blk (by decide))).toS hpv.st.rm hpv.st.sz hpv.st.us
 ·obtain ⟨i, h1, h2, h3⟩ := h.nm x hx
  exact ⟨i, h1, by omega, h3⟩
theorem CaS.up (h : CaS w n0 A room M xs made) (v : Value) (hv : v = .int .i64 ((made : Int) + 1)) : CaS (w.setCell ⟨A.c, 4, none⟩ v) n0 A room M xs (made + 1) := by
 obtain ⟨ns, hr, hk⟩ := h.row
 exact ⟨h.t.up v hv, ns, hr.keptT (gcell w ⟨A.c, 4, none⟩ v) (fun k hk => by cases hk; exact ⟨_, _, _, h.t.blk, by decide, by decide, by decide⟩), hk⟩
theorem CaT.add {x : Ce} (h : CaT w n0 A room M xs made) (hx : EntB w n0 M x) (hex : A.ex = cutB x.h.bd) (hn : ∀ y ∈ xs, y.n ≠ x.n) (hb : ∀ y ∈ xs, y.b ≠ x.b) (hnm : ∃ i : Nat, 1 ≤ i ∧ i ≤ made ∧ x.n = nameE i) (hx0 : n0.ok x.b) (hl : xs.length ≤ 19)
  (hm : MapS Tryz.prog w' 9 A.me (fput (eF xs) x.n (ptr x.b)) (if ((eF xs) x.n).isSome then xs.length else xs.length + 1)) (hg : w.grownBy w' (some A.me)) : CaT w' n0 { A with ex := [] } room M (xs ++ [x]) made := by
 obtain ⟨mes, mck, hmo⟩ := h.mp.isMapObj
 have hne : ∀ {g : Nat} {t : TypeId} {cs : Array Value}, Blk w g t cs → some g ≠ some A.me := fun hb e => by
  injection e with e
  subst e
  unfold Blk at hb
  rw [hmo] at hb
  cases hb
 have ho : ∀ {α : Type} {base size : Nat} {e : TypeId} {en : α → List Value} {v : Value} {ys : List α}, Owns w base e size en v ys → Owns w' base e size en v ys := fun ho => ho.grownOther hg (Owns.noIter ho ⟨_, hmo, fun _ _ _ e => by cases e⟩)
 have he : ∀ y, EntB w n0 M y → EntB w' n0 M y := fun y hy => ⟨Blk.keptR hy.blk hg (hne hy.blk), ho hy.rf, ho hy.u, ho hy.pv, hy.bd, hy.wl, hy.wk, hy.ow⟩
 obtain ⟨es, cs, hpv, hc⟩ := h.pile
 have hor : ∀ (P : Ce → Prop), (∀ z ∈ xs, P z) → P x → ∀ z ∈ xs ++ [x], P z := fun P h1 h2 z hz => by
  rcases List.mem_append.1 hz with hz | hz
  ·exact h1 z hz
  ·rw [List.mem_singleton.1 hz]; exact h2
 refine ⟨Blk.keptR h.blk hg (hne h.blk), ⟨es, cs, ⟨?_, hpv.rep⟩, ?_⟩, hm.congr (eF_add hn) (by rw [eF_none hn]; simp), hor _ (fun y hy => he y (h.ent y hy)) (he x hx), ?_, ?_, hor _ h.nm hnm, ⟨h.b0.1, h.b0.2.1, hor _ h.b0.2.2 hx0⟩, h.ne, by simp; omega, by simp⟩
 ·exact (hpv.st.toT.kept hg (hne hpv.st.blk) (fun e => by injection e with e; exact h.ne.2.2 e) (fun z hz => hne (hpv.st.node z hz))).toS hpv.st.rm hpv.st.sz hpv.st.us
 ·rw [chunksC_app]
  show cs.Perm (chunksC xs ++ chunksC [x] ++ [])
  rw [List.append_nil]
  have : chunksC [x] = A.ex := by rw [hex]; simp [chunksC]
  rw [this]
  exact hc
 ·rw [List.map_append, List.nodup_append]
  refine ⟨h.nd, by simp, fun a ha b hb' => ?_⟩
  obtain ⟨y, hy, rfl⟩ := List.mem_map.1 ha
  simp only [List.map_cons, List.map_nil, List.mem_singleton] at hb'
  rw [hb']
  exact hb y hy
 ·rw [List.map_append, List.nodup_append]
  refine ⟨h.kd, by simp, fun a ha b hb' => ?_⟩
  obtain ⟨y, hy, rfl⟩ := List.mem_map.1 ha
  simp only [List.map_cons, List.map_nil, List.mem_singleton] at hb'
  rw [hb']
  exact hn y hy
end
theorem EntB.rm {ex : List TypeId} {ms : List Nat} {h0 : Lim} {w w' : World} {n0 : Lim} {M : Nat} {x : Ce} (h : EntB w n0 M x) (hr : RM ex ms h0 w w') (h1 : ex.contains 80 = false) (h2 : ex.contains 57 = false) (h3 : ex.contains 9 = false) : EntB w' n0 M x :=
 ⟨Blk.rm h.blk hr h1, Owns.rm h.rf hr h2, Owns.rm h.u hr h2, Owns.rm h.pv hr h3, h.bd, h.wl, h.wk, h.ow⟩
theorem EntB.kept_map {w w' : World} {n0 : Lim} {M g : Nat} {x : Ce} {es ck} (h : EntB w n0 M x) (hg : w.grownBy w' (some g)) (hm : w.heap[g]? = some (.map es ck)) : EntB w' n0 M x := by
 have hne : ∀ {k : Nat} {t : TypeId} {cs : Array Value}, Blk w k t cs → some k ≠ some g := fun hb e => by
  injection e with e
  subst e
  unfold Blk at hb
  rw [hm] at hb
  cases hb
 have ho : ∀ {α : Type} {base size : Nat} {e : TypeId} {en : α → List Value} {v : Value} {ys : List α}, Owns w base e size en v ys → Owns w' base e size en v ys := fun ho => ho.grownOther hg (Owns.noIter ho ⟨_, hm, fun _ _ _ e => by cases e⟩)
 exact ⟨Blk.keptR h.blk hg (hne h.blk), ho h.rf, ho h.u, ho h.pv, h.bd, h.wl, h.wk, h.ow⟩
def cut20C (zs : List Ce) : List Ce := zs.drop (zs.length - 19)
theorem cut20C_pl (zs : List Ce) : (cut20C zs).map Ce.pl = cut20 (zs.map Ce.pl) := by
 unfold cut20C cut20
 rw [List.map_drop, List.length_map]
theorem cut20C_le {zs : List Ce} (h : zs.length ≤ 19) : cut20C zs = zs := by
 unfold cut20C
 rw [show zs.length - 19 = 0 from by omega]
 rfl
theorem cut20C_cons {z : Ce} {zs : List Ce} (h : (z :: zs).length = 20) : cut20C (z :: zs) = zs := by
 unfold cut20C
 rw [h]
 rfl
def isSl : Value → Nat
 | .slice _ _ _ => 0
 | _ => 1
theorem chunks_sz (xs : List Ce) : ∀ t ∈ chunksC xs, t.size ≤ 128 := by
 intro t ht
 obtain ⟨x, _, hx⟩ := List.mem_flatMap.1 ht
 exact (cutB_sizes hx).2
end Ca
set_option maxRecDepth 20000
namespace Ca
open Bk
def KeepAns (n0 : Lim) (A : Ad) (room : Int) (M : Nat) (w : World) (R : KeepA) (e : Ending) (w' : World) : Prop :=
 e = .returned (.tuple #[.bool R.is, .int .i64 R.e]) ∧ (∃ ys, ys.map Ce.pl = R.xs ∧ CaS w' n0 A room M ys R.made) ∧ RM CT A.ms n0 w w'
theorem keepAns_of {n0 : Lim} {A : Ad} {room : Int} {M made : Nat} {w w' : World} {R : KeepA} {is : Bool} {e : Int} {zs : List En} {ys : List Ce} (hR : R = ⟨is, e, zs, made⟩) (hz : ys.map Ce.pl = zs) (hS : CaS w' n0 A room M ys made) (hr : RM CT A.ms n0 w w') :
  KeepAns n0 A room M w R (.returned (.tuple #[.bool is, .int .i64 e])) w' := by
 subst hR
 exact ⟨rfl, ⟨ys, hz, hS⟩, hr⟩
open Classical in
set_option maxHeartbeats 16000000 in
theorem keep_any (n0 : Lim) (M made : Nat) (A : Ad) (room : Int) (xs : List Ce) (X : Fr.Hd) (v : Value) (l k : List Fld) (w : World) (h : CaS w n0 A room M xs made) (hex : A.ex = []) (hm : made ≤ 4611686018427387904) (hM : M ≤ 4398046511104) (hls : ∀ W, RM CT A.ms n0 w W → SlR W e_ss X.rf l) (hks : ∀ W, RM CT A.ms n0 w W → SlR W e_ss v k) (hwl : Fr.wt l ≤ M) (hwk : Fr.wt k ≤ M) (ht : X.rt.size ≤ 281474976710656) (hb : X.bd.size ≤ 281474976710656) (he : EnvK n0 w) :
  Calls Tryz.prog 11 #[ptr A.c, Fr.hv X v] w fun e w' => KeepAns n0 A room M w (keepM room (xs.map Ce.pl) made (plH X l k)) e w' := by
 obtain ⟨rm, rt, rf, rb, code, rs, bd, asked, came, mark⟩ := X
 dsimp only at *
 obtain ⟨Al, cl, rfl, -⟩ := (hls w (RM.refl _ _ _ _)).form
 obtain ⟨Ak, ck, rfl, -⟩ := (hks w (RM.refl _ _ _ _)).form
 obtain ⟨R, hR⟩ : ∃ R, R = keepM room (xs.map Ce.pl) made (plH ⟨rm, rt, .slice Al l.length cl, rb, code, rs, bd, asked, came, mark⟩ l k) := ⟨_, rfl⟩
 rw [← hR]
 have HLS := Lib.hid hls
 have HKS := Lib.hid hks
 have HKD : Hid (R = if normE rt ≠ 0 then ⟨false, normE rt, xs.map Ce.pl, made⟩
 else if 5000 < bd.size then ⟨false, 2, xs.map Ce.pl, made⟩
 else if Dp.mayF rm l code k = false then ⟨false, 0, xs.map Ce.pl, made⟩
 else if room < (bd.size : Int) + 100 then ⟨false, 0, clearE (normK rt) l (xs.map Ce.pl), made⟩
 else if Coll (chunksE (clearE (normK rt) l (xs.map Ce.pl))) (cutB bd) then ⟨false, 9, clearE (normK rt) l (xs.map Ce.pl), made⟩
 else ⟨true, 0, leftE room ((bd.size : Int) + 100) (cut20 (clearE (normK rt) l (xs.map Ce.pl))) ++ [⟨nameE (made + 1), plH ⟨rm, rt, .slice Al l.length cl, rb, code, rs, bd, asked, came, mark⟩ l k, normK rt⟩], made + 1⟩) := by
  show _ = _
  rw [hR]
  rfl
 have hb1 := (Below.refl w.heap.size w).alloc (Nat.le_refl _) (.cells #[.string rm, .string rt, .slice Al l.length cl, .string rb, .int .i64 code, .string rs, .slice Ak k.length ck, .string bd, .int .i64 asked, .int .i64 came, .int .i64 mark] 29)
 have hB := Blk.new w 29 #[.string rm, .string rt, .slice Al l.length cl, .string rb, .int .i64 code, .string rs, .slice Ak k.length ck, .string bd, .int .i64 asked, .int .i64 came, .int .i64 mark]
 have HN := Lib.hid (norm_any rt _ ht (he.below hb1))
 have HS := Lib.hid (h.below hb1)
 have HB1 := Lib.hid hb1
 have HENV := Lib.hid he
 have hn0 := h.n0w
 have hin := normE_in rt
 have hkd := h.t.kd
 clear h hR hls hks he
 unfold Fr.hv
 generalize normE rt = E at *
 generalize normK rt = key at *
 go_enter Tryz.func11, Tryz.ntmps11
 go_wp2_with fail
 generalize (w.alloc _) = w1 at *
 refine HN.out.mono ?_
 rintro e w2 ⟨rfl, b2⟩
 have hB2 := hB.below b2 hB.lt
 have HS2 := Lib.hid (HS.out.below b2)
 have BW2 := Lib.hid (HB1.out.trans (b2.mono HB1.out.size))
 have hr2 := RM.of_below (ex := CT) (ms := A.ms) BW2.out hn0
 have HR2 := Lib.hid hr2
 clear b2 hB HN HS HB1 hr2
 by_cases hE : E = 0
 ·subst hE
  have k7 := hB2.cell 7
  by_cases h5 : 5000 < bd.size
  ·have hd : decide ((5000 : Int) < (bd.size : Int)) = true := by rw [decide_eq_true_iff]; omega
   have hR : R = ⟨false, 2, xs.map Ce.pl, made⟩ := by rw [HKD.out, if_neg (by simp), if_pos h5]
   have HRR := Lib.hid hR
   clear HKD hR hin
   go_wp2_with fail
   go_ret2
   exact keepAns_of HRR.out rfl HS2.out HR2.out
  ·have hd : decide ((5000 : Int) < (bd.size : Int)) = false := by rw [decide_eq_false_iff_not]; omega
   have k0 := hB2.cell 0
   have k1 := hB2.cell 1
   have k2 := hB2.cell 2
   have k3 := hB2.cell 3
   have k4 := hB2.cell 4
   have k5 := hB2.cell 5
   have k6 := hB2.cell 6
   have HMay := Lib.hid (Dp.may_any rm rt (.slice Al l.length cl) rb l code rs (.slice Ak k.length ck) bd k w2 ⟨HLS.out _ HR2.out, Nat.le_trans hwl hM⟩ ⟨HKS.out _ HR2.out, Nat.le_trans hwk hM⟩)
   have HKD2 : Hid (R = if Dp.mayF rm l code k = false then ⟨false, 0, xs.map Ce.pl, made⟩
    else if room < (bd.size : Int) + 100 then ⟨false, 0, clearE key l (xs.map Ce.pl), made⟩
    else if Coll (chunksE (clearE key l (xs.map Ce.pl))) (cutB bd) then ⟨false, 9, clearE key l (xs.map Ce.pl), made⟩
    else ⟨true, 0, leftE room ((bd.size : Int) + 100) (cut20 (clearE key l (xs.map Ce.pl))) ++ [⟨nameE (made + 1), plH ⟨rm, rt, .slice Al l.length cl, rb, code, rs, bd, asked, came, mark⟩ l k, key⟩], made + 1⟩) := by
    show _ = _
    rw [HKD.out, if_neg (by simp), if_neg h5]
   clear HKD hin
   generalize Dp.mayF rm l code k = may at *
   go_wp2_with fail
   refine HMay.out.mono ?_
   rintro e w3 ⟨rfl, b3⟩
   have hB3 := hB2.below b3 hB2.lt
   have HS3 := Lib.hid (HS2.out.below b3)
   have HR3 := Lib.hid (HR2.out.below b3 hn0)
   clear b3 HMay hB2 k0 k1 k2 k3 k4 k5 k6 k7 HS2 HR2 BW2
   have k7 := hB3.cell 7
   cases may with
   | false =>
    have hR : R = ⟨false, 0, xs.map Ce.pl, made⟩ := by rw [HKD2.out, if_pos rfl]
    have HRR := Lib.hid hR
    clear HKD2 hR
    go_wp2_with fail
    go_ret2
    exact keepAns_of HRR.out rfl HS3.out HR3.out
   | true =>
    have HKD3 : Hid (R = if room < (bd.size : Int) + 100 then ⟨false, 0, clearE key l (xs.map Ce.pl), made⟩
     else if Coll (chunksE (clearE key l (xs.map Ce.pl))) (cutB bd) then ⟨false, 9, clearE key l (xs.map Ce.pl), made⟩
     else ⟨true, 0, leftE room ((bd.size : Int) + 100) (cut20 (clearE key l (xs.map Ce.pl))) ++ [⟨nameE (made + 1), plH ⟨rm, rt, .slice Al l.length cl, rb, code, rs, bd, asked, came, mark⟩ l k, key⟩], made + 1⟩) := by
     show _ = _
     rw [HKD2.out, if_neg (by simp)]
    clear HKD2
    have k2 := hB3.cell 2
    have HF := Lib.hid (fits_any n0 M made A room xs key _ l w3 HS3.out (by omega) hM (HLS.out _ HR3.out) (Nat.le_trans hwl hM))
    go_wp2_with fail
    refine HF.out.mono ?_
    rintro e w4 ⟨⟨vn, rfl, on⟩, b4⟩
    have hB4 := hB3.below b4 hB3.lt
    have HS4 := Lib.hid (HS3.out.below b4)
    have HR4 := Lib.hid (HR3.out.below b4 hn0)
    have HO4 := Lib.hid on
    obtain ⟨Av, cv, rfl⟩ : ∃ Av cv, vn = .slice Av (fitsC key l xs).length cv := by
     obtain ⟨Av, cv, he, -⟩ := (SlR.of_owns on).form
     rw [List.length_map] at he
     exact ⟨Av, cv, he⟩
    have hyl : (fitsC key l xs).length ≤ 20 := Nat.le_trans (List.length_filter_le _ _) HS4.out.t.len
    have HST := Lib.hid (fun k hk => leftN_step (key := key) (m := l) (xs := xs) (k := k) hkd hk)
    have HEND := Lib.hid (leftN_all (key := key) (m := l) (xs := xs) hkd)
    have HZ0 := Lib.hid (leftN_zero (fitsC key l xs) xs)
    clear on b4 HF HS3 HR3 hB3 k2 k7
    generalize fitsC key l xs = ys at *
    go_wp2_with fail
    go_loopw [49] (fun i wr => ∃ j : Nat, j ≤ ys.length ∧ i = .int .i64 j ∧ CaS wr n0 A room M (leftN ys xs j) made ∧ RM GT A.ms n0 w4 wr) (fun i _ => ys.length - (intOf i).toNat)
    case atStart => exact ⟨0, by omega, rfl, by rw [HZ0.out]; exact HS4.out, RM.refl _ _ _ _⟩
    case round =>
     obtain ⟨j, hj, rfl, hS, hr⟩ := hrel
     have HSr := Lib.hid hS
     have HRr := Lib.hid hr
     by_cases hlt : j < ys.length
     ·have hlt' : j < (ys.map (·.n)).length := by rw [List.length_map]; exact hlt
      obtain ⟨bb, off, c3, he, hcc, hbb, hcell⟩ := (SlR.of_owns (Owns.rm HO4.out hr (by decide))).texts (by omega)
      injection he with g1 g2 g3
      subst g1 g3
      have c0 := hcell j hlt'
      rw [List.getElem_map] at c0
      obtain ⟨a, b, h1, h2⟩ := HST.out j hlt
      have HG : Hid (Calls Tryz.prog 31 #[ptr A.c, .string ys[j].n] wr fun e w' => e = .returned (.tuple #[]) ∧ CaS w' n0 A room M (leftN ys xs (j + 1)) made ∧ RM GT A.ms n0 wr w') := by
       show Calls _ _ _ _ _
       rw [h2]
       exact gone_any n0 M made A room a b ys[j] wr (by rw [← h1]; exact hS) (by omega)
      clear hcell g2 hcc hS hr h1 h2
      generalize ys[j] = x at *
      go_wp2_with fail
      refine HG.out.mono ?_
      rintro e w5 ⟨rfl, hS5, hr5⟩
      have HS5 := Lib.hid hS5
      have HR5 := Lib.hid (HRr.out.trans hr5)
      clear hS5 hr5 c0
      go_wp2_with fail
      go_roundw
      case rel => exact ⟨j + 1, by omega, by go_num, HS5.out, HR5.out⟩
      case measure => simp [intOf]; omega
     ·obtain rfl : j = ys.length := by omega
      rw [HEND.out] at HSr
      have hBr := Blk.rm hB4 HRr.out (by decide)
      have HR5 := Lib.hid (HR4.out.trans HRr.out.ct)
      have k7 := hBr.cell 7
      have hwsz : IntKind.i64.wrap ((bd.size : Int) + 100) = (bd.size : Int) + 100 := by rw [IntKind.wrap_i64]; omega
      have p0 := HSr.out.t.blk.cell 0
      have hcpl := clearC_pl key l xs
      unfold clearC at hcpl
      have HCP := Lib.hid hcpl
      clear hS hr HST HEND HZ0 HO4 HS4 HR4 hB4 hcpl hlt hj hyl
      rw [← HCP.out] at HKD3
      generalize xs.filter (fun x => !fitB key l x.pl) = zs at *
      clear HCP
      by_cases hroom : room < (bd.size : Int) + 100
      ·have hd2 : decide (room < (bd.size : Int) + 100) = true := decide_eq_true hroom
       have hR : R = ⟨false, 0, zs.map Ce.pl, made⟩ := by rw [HKD3.out, if_pos hroom]
       have HRR := Lib.hid hR
       clear HKD3 hR hroom
       go_wp2_with fail
       go_ret2
       exact keepAns_of HRR.out rfl HSr.out HR5.out
      ·have hd2 : decide (room < (bd.size : Int) + 100) = false := decide_eq_false hroom
       have HKD4 : Hid (R = if Coll (chunksC zs) (cutB bd) then ⟨false, 9, zs.map Ce.pl, made⟩
        else ⟨true, 0, leftE room ((bd.size : Int) + 100) (cut20 (zs.map Ce.pl)) ++ [⟨nameE (made + 1), plH ⟨rm, rt, .slice Al l.length cl, rb, code, rs, bd, asked, came, mark⟩ l k, key⟩], made + 1⟩) := by
        show _ = _
        rw [HKD3.out, if_neg hroom, chunksC_pl]
       clear HKD3
       go_wp2_with fail
       obtain ⟨es, cs, hpv, hperm⟩ := HSr.out.t.pile
       have hcl := HSr.out.t.cl
       have hcs : cs.Perm (chunksC zs) := by rw [hex, List.append_nil] at hperm; exact hperm
       have hcoll : Coll cs (cutB bd) ↔ Coll (chunksC zs) (cutB bd) := by
        unfold Coll
        constructor
        ·rintro ⟨t, ht, u, hu, h1⟩
         exact ⟨t, ht, u, hu.imp id (fun h => hcs.mem_iff.1 h), h1⟩
        ·rintro ⟨t, ht, u, hu, h1⟩
         exact ⟨t, ht, u, hu.imp id (fun h => hcs.mem_iff.2 h), h1⟩
       have HPut := Lib.hid (putP_ca n0 A.pp A.mp es cs bd wr.drew ⟨hpv.st.drew, hpv.rep⟩ (by omega) (by rw [hcs.length_eq]; exact hcl) (fun t ht => chunks_sz zs t (hcs.mem_iff.1 ht)))
       have HCS := Lib.hid hcs
       have HCO := Lib.hid hcoll
       clear hpv hperm hcl hcs hcoll k7 p0
       refine wp_region_effs [(true, 0), (true, 1), (true, 2), (true, 3), (true, 4), (true, 5), (true, 6), (false, 7), (true, 8), (true, 9), (true, 10), (true, 11), (true, 12)] 7 (fun w' => Below wr.heap.size wr w') (by kernel_rfl) (by kernel_rfl) (fun _ _ _ _ _ h => h) (by kernel_rfl) (by kernel_rfl) ?_ ?_
       ·exact (Below.refl _ _).drew
       iterate 7 (first | (apply seqN_skip; (focus (simp only [List.getElem?_toArray, List.getElem?_cons_succ, List.getElem?_cons_zero]; rfl)); (focus rfl); simp only [Act.put, List.setIfInBounds_toArray, List.set_cons_zero, List.set_cons_succ]) | (apply seqN_pure; (focus (simp only [List.getElem?_toArray, List.getElem?_cons_succ, List.getElem?_cons_zero]; rfl)); (focus rfl); (focus (intro w'; first | (go_simp; rfl) | (go_simp; done))); simp only [Act.put, List.setIfInBounds_toArray, List.set_cons_zero, List.set_cons_succ]) | (apply seqN_take; (focus (simp only [List.getElem?_toArray, List.getElem?_cons_succ, List.getElem?_cons_zero]; rfl)); (focus kernel_rfl); (focus rfl); (focus (intro w' hS; have hT := HSr.out.t.below hS; have c2 := hT.blk.cell 2; have hb := hBr.below hS hBr.lt; have k7 := hb.cell 7; first | (go_simp; rfl) | (go_simp; done))); simp only [Act.put, List.setIfInBounds_toArray, List.set_cons_zero, List.set_cons_succ]))
       apply seqN_eff
       (focus (simp only [List.getElem?_toArray, List.getElem?_cons_succ, List.getElem?_cons_zero]; rfl))
       (focus rfl)
       intro K hK
       go_simp
       refine HPut.out.mono ?_
       rintro e w6 ⟨hrg, es', ⟨hc, rfl, hpv'⟩ | ⟨hc, vp, rfl, hpv', hop⟩⟩
       ·have hrg' : RG RP A.mp n0 wr w6 := (RG.refl _ _ _ wr).drew.trans hrg
        have hS6 := HSr.out.pile_to hrg' hpv' (E := []) (by rw [List.append_nil]; exact HCS.out) (by simp)
        rw [Ad.ex_nil hex] at hS6
        have HS6 := Lib.hid hS6
        have HR6 := Lib.hid (HR5.out.trans (RM.of_rg hrg' ct_rp (by simp [Ad.ms])))
        have hR : R = ⟨false, 9, zs.map Ce.pl, made⟩ := by rw [HKD4.out, if_pos (HCO.out.1 hc)]
        have HRR := Lib.hid hR
        refine hK _ _ ⟨fun h => absurd h (by decide), ?_⟩
        clear hK K HKD4 hR hrg hrg' hpv' hS6
        iterate 5 (first | (apply seqN_skip; (focus (simp only [List.getElem?_toArray, List.getElem?_cons_succ, List.getElem?_cons_zero]; rfl)); (focus rfl); simp only [Act.put, List.setIfInBounds_toArray, List.set_cons_zero, List.set_cons_succ]) | (apply seqN_pure; (focus (simp only [List.getElem?_toArray, List.getElem?_cons_succ, List.getElem?_cons_zero]; rfl)); (focus rfl); (focus (intro w'; first | (go_simp; rfl) | (go_simp; done))); simp only [Act.put, List.setIfInBounds_toArray, List.set_cons_zero, List.set_cons_succ]) | (apply seqN_take; (focus (simp only [List.getElem?_toArray, List.getElem?_cons_succ, List.getElem?_cons_zero]; rfl)); (focus kernel_rfl); (focus rfl); (focus (intro w' hS; skip; first | (go_simp; rfl) | (go_simp; done))); simp only [Act.put, List.setIfInBounds_toArray, List.set_cons_zero, List.set_cons_succ]))
        refine seqN_nil ?_
        go_wp2_with fail
        go_ret2
        exact keepAns_of HRR.out rfl HS6.out HR6.out
       ·have hrg' : RG RP A.mp n0 wr w6 := (RG.refl _ _ _ wr).drew.trans hrg
        have HS6 := Lib.hid (HSr.out.pile_to hrg' hpv' (E := cutB bd) (HCS.out.append_right _) (by have := cutB_5000 (s := bd) (by omega); omega))
        have HR6 := Lib.hid (HR5.out.trans (RM.of_rg hrg' ct_rp (by simp [Ad.ms])))
        have hB6 := Blk.rgX hBr hrg' rfl
        have HOp : Hid (Owns w6 n0.lo 9 1 Go.Proofs.YtgnblkmpoigejaaGreatDoor.es vp ((cutB bd).map hxn)) := hop.mono (Nat.le_trans hn0 HR5.out.size)
        have HRF : Hid (R = ⟨true, 0, leftE room ((bd.size : Int) + 100) (cut20 (zs.map Ce.pl)) ++ [⟨nameE (made + 1), plH ⟨rm, rt, .slice Al l.length cl, rb, code, rs, bd, asked, came, mark⟩ l k, key⟩], made + 1⟩) := by
         show _ = _
         rw [HKD4.out, if_neg (fun h => hc (HCO.out.2 h))]
        obtain ⟨Ap, cp, hvp, -⟩ := (SlR.of_owns hop).form
        subst hvp
        rw [List.length_map] at HOp
        refine hK _ _ ⟨fun h => absurd h (by decide), ?_⟩
        clear hK K HKD4 hrg hrg' hpv' hop hBr HPut HCO HCS
        iterate 5 (first | (apply seqN_skip; (focus (simp only [List.getElem?_toArray, List.getElem?_cons_succ, List.getElem?_cons_zero]; rfl)); (focus rfl); simp only [Act.put, List.setIfInBounds_toArray, List.set_cons_zero, List.set_cons_succ]) | (apply seqN_pure; (focus (simp only [List.getElem?_toArray, List.getElem?_cons_succ, List.getElem?_cons_zero]; rfl)); (focus rfl); (focus (intro w'; first | (go_simp; rfl) | (go_simp; done))); simp only [Act.put, List.setIfInBounds_toArray, List.set_cons_zero, List.set_cons_succ]) | (apply seqN_take; (focus (simp only [List.getElem?_toArray, List.getElem?_cons_succ, List.getElem?_cons_zero]; rfl)); (focus kernel_rfl); (focus rfl); (focus (intro w' hS; skip; first | (go_simp; rfl) | (go_simp; done))); simp only [Act.put, List.setIfInBounds_toArray, List.set_cons_zero, List.set_cons_succ]))
        refine seqN_nil ?_
        go_wp2_with (first
         | refine wpList_load_row rfl 29 (.tmp 3) rfl w.heap.size rfl 29 _ (0, 0) _ hB6 Tryz.underlying29 rfl (by kernel_rfl) ?_)
        have hA7 := (Below.refl w6.heap.size w6).alloc (Nat.le_refl _) (.cells #[.string rm, .string rt, .slice Al l.length cl, .string rb, .int .i64 code, .string rs, .slice Ak k.length ck, .string bd, .int .i64 asked, .int .i64 came, .int .i64 mark, .string key, .slice Ap (cutB bd).length cp] 80)
        have hE7 := Blk.new w6 80 #[.string rm, .string rt, .slice Al l.length cl, .string rb, .int .i64 code, .string rs, .slice Ak k.length ck, .string bd, .int .i64 asked, .int .i64 came, .int .i64 mark, .string key, .slice Ap (cutB bd).length cp]
        have hB7 := hB6.below hA7 hB6.lt
        have HL7 := Lib.hid ((HLS.out _ HR6.out).below hA7)
        have HK7 := Lib.hid ((HKS.out _ HR6.out).below hA7)
        have HA7 := Lib.hid hA7
        have hl1 : l.length * 32 ≤ 140737488355328 := by have := Fr.wt_len l; omega
        have hl2 : k.length * 32 ≤ 140737488355328 := by have := Fr.wt_len k; omega
        obtain ⟨xb, hxb⟩ : ∃ xb, xb = w6.heap.size := ⟨_, rfl⟩
        rw [← hxb] at hE7
        generalize hw7 : w6.alloc (.cells #[.string rm, .string rt, .slice Al l.length cl, .string rb, .int .i64 code, .string rs, .slice Ak k.length ck, .string bd, .int .i64 asked, .int .i64 came, .int .i64 mark, .string key, .slice Ap (cutB bd).length cp] 80) = w7 at *
        rw [← hxb]
        have HXB := Lib.hid hxb
        clear hxb hA7 hw7 hB6
        refine wp_region_effs [(true, 0), (true, 1), (true, 2), (true, 3), (true, 5), (true, 6), (false, 4), (false, 7), (true, 8), (true, 9), (true, 10), (false, 11), (true, 12), (true, 13), (true, 14), (false, 15)] 11 (fun w' => Below w7.heap.size w7 w') (by kernel_rfl) (by kernel_rfl) (fun _ _ _ _ _ h => h) (by kernel_rfl) (by kernel_rfl) ?_ ?_
        ·exact (Below.refl _ _).drew
        iterate 6 (first | (apply seqN_skip; (focus (simp only [List.getElem?_toArray, List.getElem?_cons_succ, List.getElem?_cons_zero]; rfl)); (focus rfl); simp only [Act.put, List.setIfInBounds_toArray, List.set_cons_zero, List.set_cons_succ]) | (apply seqN_pure; (focus (simp only [List.getElem?_toArray, List.getElem?_cons_succ, List.getElem?_cons_zero]; rfl)); (focus rfl); (focus (intro w'; first | (go_simp; rfl) | (go_simp; done))); simp only [Act.put, List.setIfInBounds_toArray, List.set_cons_zero, List.set_cons_succ]) | (apply seqN_take; (focus (simp only [List.getElem?_toArray, List.getElem?_cons_succ, List.getElem?_cons_zero]; rfl)); (focus kernel_rfl); (focus rfl); (focus (intro w' hS; have hb := hB7.below hS hB7.lt; have k0 := hb.cell 0; have k1 := hb.cell 1; have k2 := hb.cell 2; have k3 := hb.cell 3; have k4 := hb.cell 4; have k5 := hb.cell 5; have k6 := hb.cell 6; have k7 := hb.cell 7; first | (go_simp; rfl) | (go_simp; done))); simp only [Act.put, List.setIfInBounds_toArray, List.set_cons_zero, List.set_cons_succ]))
        apply seqN_eff
        (focus (simp only [List.getElem?_toArray, List.getElem?_cons_succ, List.getElem?_cons_zero]; rfl))
        (focus rfl)
        intro K hK
        go_simp
        refine (copyRq_any rm rt _ rb l w7.drew (HL7.out.below (Below.refl _ _).drew) hl1).mono ?_
        rintro e w8 ⟨⟨v3, rfl, o3⟩, b3⟩
        have B8 : Below w7.heap.size w7 w8 := (Below.refl _ _).drew.trans b3
        obtain ⟨A3, c3, rfl, -⟩ := (SlR.of_owns o3).form
        refine hK _ _ ⟨fun _ => B8, ?_⟩
        clear hK K
        apply seqN_eff
        (focus (simp only [List.getElem?_toArray, List.getElem?_cons_succ, List.getElem?_cons_zero]; rfl))
        (focus rfl)
        intro K hK
        go_simp
        refine (copyRs_any code rs _ bd k w8 (HK7.out.below B8) hl2).mono ?_
        rintro e w9 ⟨⟨v4, rfl, o4⟩, b4⟩
        have B9 : Below w7.heap.size w7 w9 := B8.trans (b4.mono B8.size)
        obtain ⟨A4, c4, rfl, -⟩ := (SlR.of_owns o4).form
        refine hK _ _ ⟨fun _ => B9, ?_⟩
        clear hK K
        have hE9 := hE7.below B9 hE7.lt
        have O3 : Owns w9 w7.heap.size 57 2 e_ss (.slice A3 l.length c3) l := (o3.mono (Nat.le_of_eq rfl)).below b4
        have O4 : Owns w9 w7.heap.size 57 2 e_ss (.slice A4 k.length c4) k := o4.mono B8.size
        have hB9 := hB7.below B9 hB7.lt
        have HB9 := Lib.hid B9
        clear b3 b4 o3 o4 B8 B9 hE7 hB7
        iterate 3 (first | (apply seqN_skip; (focus (simp only [List.getElem?_toArray, List.getElem?_cons_succ, List.getElem?_cons_zero]; rfl)); (focus rfl); simp only [Act.put, List.setIfInBounds_toArray, List.set_cons_zero, List.set_cons_succ]) | (apply seqN_pure; (focus (simp only [List.getElem?_toArray, List.getElem?_cons_succ, List.getElem?_cons_zero]; rfl)); (focus rfl); (focus (intro w'; first | (go_simp; rfl) | (go_simp; done))); simp only [Act.put, List.setIfInBounds_toArray, List.set_cons_zero, List.set_cons_succ]) | (apply seqN_take; (focus (simp only [List.getElem?_toArray, List.getElem?_cons_succ, List.getElem?_cons_zero]; rfl)); (focus kernel_rfl); (focus rfl); (focus (intro w' hS; skip; first | (go_simp; rfl) | (go_simp; done))); simp only [Act.put, List.setIfInBounds_toArray, List.set_cons_zero, List.set_cons_succ]))
        apply seqN_eff
        (focus (simp only [List.getElem?_toArray, List.getElem?_cons_succ, List.getElem?_cons_zero]; rfl))
        (focus rfl)
        intro K hK
        refine wp_store_mid 25 (.tmp 97) (.tmp 91) rfl xb 0 #[.string rm, .string rt, .slice A3 l.length c3, .string rb] rfl rfl (blk_there hE9 0 4 (by simp)) (by kernel_rfl) (by kernel_rfl) ?_
        refine hK _ _ ⟨fun h => absurd h (by decide), ?_⟩
        clear hK K
        have g5 := gr_set4 w9 xb 0 (.string rm) (.string rt) (.slice A3 l.length c3) (.string rb)
        have hE10 := blk_set4 (o := 0) hE9 (.string rm) (.string rt) (.slice A3 l.length c3) (.string rb)
        iterate 3 (first | (apply seqN_skip; (focus (simp only [List.getElem?_toArray, List.getElem?_cons_succ, List.getElem?_cons_zero]; rfl)); (focus rfl); simp only [Act.put, List.setIfInBounds_toArray, List.set_cons_zero, List.set_cons_succ]) | (apply seqN_pure; (focus (simp only [List.getElem?_toArray, List.getElem?_cons_succ, List.getElem?_cons_zero]; rfl)); (focus rfl); (focus (intro w'; first | (go_simp; rfl) | (go_simp; done))); simp only [Act.put, List.setIfInBounds_toArray, List.set_cons_zero, List.set_cons_succ]) | (apply seqN_take; (focus (simp only [List.getElem?_toArray, List.getElem?_cons_succ, List.getElem?_cons_zero]; rfl)); (focus kernel_rfl); (focus rfl); (focus (intro w' hS; skip; first | (go_simp; rfl) | (go_simp; done))); simp only [Act.put, List.setIfInBounds_toArray, List.set_cons_zero, List.set_cons_succ]))
        apply seqN_eff
        (focus (simp only [List.getElem?_toArray, List.getElem?_cons_succ, List.getElem?_cons_zero]; rfl))
        (focus rfl)
        intro K hK
        refine wp_store_mid 27 (.tmp 100) (.tmp 94) rfl xb 4 #[.int .i64 code, .string rs, .slice A4 k.length c4, .string bd] rfl rfl (blk_there hE10 4 4 (by simp)) (by kernel_rfl) (by kernel_rfl) ?_
        refine hK _ _ ⟨fun h => absurd h (by decide), ?_⟩
        clear hK K
        have g6 := gr_set4 (w9.setCells xb 0 [.string rm, .string rt, .slice A3 l.length c3, .string rb]) xb 4 (.int .i64 code) (.string rs) (.slice A4 k.length c4) (.string bd)
        have hE11 : Blk _ xb 80 #[.string rm, .string rt, .slice A3 l.length c3, .string rb, .int .i64 code, .string rs, .slice A4 k.length c4, .string bd, .int .i64 asked, .int .i64 came, .int .i64 mark, .string key, .slice Ap (cutB bd).length cp] := blk_set4 (o := 4) hE10 (.int .i64 code) (.string rs) (.slice A4 k.length c4) (.string bd)
        refine seqN_nil ?_
        simp only [Array.toList]
        have g56 := gr_trans g5 g6
        have hz7 := HA7.out.size
        have hz9 := HB9.out.size
        have hxl := hE9.lt
        have HB11 := Lib.hid ((HA7.out.trans (HB9.out.mono hz7)).grown g56 (Nat.le_trans hz7 hz9) (fun k hk => by cases hk; exact Nat.le_of_eq HXB.out.symm))
        have HO3 := Lib.hid (O3.grownOther g56 (ownNe O3 hE9 (by decide)))
        have HO4' := Lib.hid (O4.grownOther g56 (ownNe O4 hE9 (by decide)))
        clear O3 O4 g5 g6 g56 hE9 hE10 hB9
        generalize (w9.setCells _ _ _).setCells _ _ _ = w11 at *
        have e7 := hE11.cell 7
        have f7 := hE11.frozen 7
        have g12 := gcell w11 ⟨xb, 7, none⟩ (.string ⟨#[]⟩)
        have HE12 : Hid (Blk (w11.setCell ⟨xb, 7, none⟩ (.string ⟨#[]⟩)) xb 80 #[.string rm, .string rt, .slice A3 l.length c3, .string rb, .int .i64 code, .string rs, .slice A4 k.length c4, .string ⟨#[]⟩, .int .i64 asked, .int .i64 came, .int .i64 mark, .string key, .slice Ap (cutB bd).length cp]) := hE11.set_ 7 (.string ⟨#[]⟩)
        have HO31 := Lib.hid (HO3.out.grownOther g12 (ownNe HO3.out hE11 (by decide)))
        have HO41 := Lib.hid (HO4'.out.grownOther g12 (ownNe HO4'.out hE11 (by decide)))
        have HB12 := Lib.hid (HB11.out.grown g12 HB11.out.size (fun k hk => by cases hk; exact Nat.le_of_eq HXB.out.symm))
        clear g12 hE11 HO3 HO4'
        go_wp2_with fail
        clear e7 f7
        have hn6 : n0.lo ≤ w6.heap.size := Nat.le_trans hn0 HR6.out.size
        have hx0 : n0.ok xb := by rw [HXB.out]; exact .inl hn6
        have HEN : Hid (EntB (w11.setCell ⟨xb, 7, none⟩ (.string ⟨#[]⟩)) n0 M ⟨xb, nameE (made + 1), ⟨rm, rt, .slice A3 l.length c3, rb, code, rs, bd, asked, came, mark⟩, .slice A4 k.length c4, l, k, key, .slice Ap (cutB bd).length cp⟩) :=
         ⟨HE12.out, HO31.out.mono (Nat.zero_le _), HO41.out.mono (Nat.zero_le _), (HOp.out.below HB12.out).mono (Nat.zero_le _), by show bd.size ≤ 5000; omega, hwl, hwk, fun b e => e.elim (fun e => .inl (Nat.le_trans (Nat.le_trans hn6 HA7.out.size) (HO31.out.lt b e).1)) (fun e => e.elim (fun e => .inl (Nat.le_trans (Nat.le_trans hn6 HA7.out.size) (HO41.out.lt b e).1)) (fun e => .inl (HOp.out.lt b e).1))⟩
        have HS12 := Lib.hid (HS6.out.below HB12.out)
        have HR12 := Lib.hid (HR6.out.below HB12.out hn0)
        obtain ⟨x, hx⟩ : ∃ x : Ce, x = ⟨xb, nameE (made + 1), ⟨rm, rt, .slice A3 l.length c3, rb, code, rs, bd, asked, came, mark⟩, .slice A4 k.length c4, l, k, key, .slice Ap (cutB bd).length cp⟩ := ⟨_, rfl⟩
        rw [← hx] at HEN
        have HXF : Hid (x.b = xb ∧ x.n = nameE (made + 1) ∧ x.h.bd = bd ∧ x.pl = ⟨nameE (made + 1), plH ⟨rm, rt, .slice Al l.length cl, rb, code, rs, bd, asked, came, mark⟩ l k, key⟩) := by rw [hx]; exact ⟨rfl, rfl, rfl, rfl⟩
        have HRG : Hid (R = ⟨true, 0, leftE room ((bd.size : Int) + 100) (cut20 (zs.map Ce.pl)) ++ [x.pl], made + 1⟩) := by show _ = _; rw [HXF.out.2.2.2]; exact HRF.out
        have HNB : Hid (∀ y ∈ zs, y.b ≠ xb) := fun y hy e => by have := (HS6.out.t.ent y hy).blk.lt; have := HXB.out; omega
        clear hx HE12 HO31 HO41 HB12 HOp HS6 HR6 HB11 HA7 HB9 HRF HL7 HK7 HXB hl1 hl2 hz7 hz9 hxl hn6
        have hexA : ({ A with ex := cutB bd } : Ad).ms = A.ms := rfl
        generalize hA' : ({ A with ex := cutB bd } : Ad) = A' at *
        have HA' : Hid (A'.c = A.c ∧ A'.pr = A.pr ∧ A'.cr = A.cr ∧ A'.mr = A.mr ∧ A'.pp = A.pp ∧ A'.mp = A.mp ∧ A'.me = A.me ∧ A'.ex = cutB bd ∧ ({ A' with ex := [] } : Ad) = A) := by rw [← hA']; exact ⟨rfl, rfl, rfl, rfl, rfl, rfl, rfl, rfl, by cases A; simp_all⟩
        clear hA'
        have hms : A.ms.contains A'.mr = true ∧ A.ms.contains A'.mp = true ∧ A.ms.contains A'.me = true := by rw [HA'.out.2.2.2.1, HA'.out.2.2.2.2.2.1, HA'.out.2.2.2.2.2.2.1]; simp [Ad.ms]
        generalize w11.setCell ⟨xb, 7, none⟩ (.string ⟨#[]⟩) = w12 at *
        have hz20 := HS12.out.t.len
        go_loopw [117] (fun q wr => ∃ zz : List Ce, ((q = undef ∧ zz = zs) ∨ (isSl q = 0 ∧ zz = cut20C zs ∧ zz.length ≤ 19)) ∧ CaS wr n0 A' room M zz made ∧ EntB wr n0 M x ∧ RM GT A.ms n0 w12 wr) (fun q _ => isSl q)
        case atStart => exact ⟨zs, .inl ⟨rfl, rfl⟩, HS12.out, HEN.out, RM.refl _ _ _ _⟩
        case round =>
         obtain ⟨zz, hq, hS, hE, hr⟩ := hrel
         have HSt := Lib.hid hS
         have HEt := Lib.hid hE
         have HRt := Lib.hid hr
         have c3 := hS.t.blk.cell 3
         have hc1 := HA'.out.1
         have hme := HA'.out.2.2.2.2.2.2.1
         have hpr := HA'.out.2.1
         rw [hc1, hpr, HA'.out.2.2.2.2.1, hme] at c3
         have hln := hS.t.mp.len_ (t := 74) (e := 78) Tryz.underlying74 3
         rw [hme] at hln
         by_cases h20 : zz.length = 20
         ·rcases hq with ⟨hq1, rfl⟩ | ⟨_, _, hq3⟩
          rotate_left
          ·omega
          subst hq1
          obtain ⟨z0, zt, rfl⟩ : ∃ z0 zt, zz = z0 :: zt := by
           cases zz with
           | nil => simp at h20
           | cons z0 zt => exact ⟨z0, zt, rfl⟩
          obtain ⟨ns, hrow, hkv⟩ := hS.row
          have HK := Lib.hid (keys_any n0 A'.pr A'.cr A'.mr room ns wr hrow)
          rw [kv_names hkv, hpr] at HK
          have c1 := hS.t.blk.cell 1
          rw [hc1, hpr, HA'.out.2.2.2.2.1, hme] at c1
          have hd20 : decide ((20 : Int) ≤ ((z0 :: zt).length : Int)) = true := by rw [decide_eq_true_iff, h20]; decide
          have hd21 : decide ((20 : Int) ≤ (zt.length : Int) + 1) = true := by rw [decide_eq_true_iff]; have := h20; simp at this; omega
          have HG := Lib.hid (fun (W : World) (h : CaS W n0 A' room M (z0 :: zt) made) => gone_any n0 M made A' room [] zt z0 W h (by omega))
          rw [hc1, hexA] at HG
          have HCT := Lib.hid (cut20C_cons h20)
          have hlt : zt.length = 19 := by simpa using h20
          have HLT := Lib.hid hlt
          clear hS hE hr hrow hkv h20 hlt
          go_wp2_with fail
          refine HK.out.mono ?_
          rintro e w13 ⟨vk, rfl, ok, b13⟩
          obtain ⟨bb, off, c13, he, hcc, hbb, hcell⟩ := (SlR.of_owns ok).texts (by simp)
          have q0 := hcell 0 (by simp)
          have hvl : vk = .slice (some ⟨bb, off, none⟩) 20 c13 := by rw [he]; simp [HLT.out]
          subst hvl
          have HG13 := Lib.hid (HG.out w13 (HSt.out.below b13))
          have HE13 := Lib.hid (HEt.out.below b13)
          have HR13 := Lib.hid (HRt.out.below b13 (Nat.le_trans hn0 HR12.out.size))
          clear hcell he hcc hbb ok b13 HK HG
          simp only [List.map_cons, List.getElem_cons_zero, Nat.add_zero] at q0
          go_wp2_with fail
          refine HG13.out.mono ?_
          rintro e w14 ⟨rfl, hS14, hr14⟩
          have HS14 := Lib.hid hS14
          have HR14 := Lib.hid (HR13.out.trans hr14)
          have HE14 := Lib.hid (HE13.out.rm hr14 rfl rfl rfl)
          clear hS14 hr14 q0
          go_wp2_with fail
          go_roundw
          case rel => exact ⟨zt, .inr ⟨rfl, HCT.out.symm, by have := HLT.out; omega⟩, HS14.out, HE14.out, HR14.out⟩
          case measure => exact Nat.zero_lt_one
         ·have hzc : zz = cut20C zs := by
           rcases hq with ⟨_, rfl⟩ | ⟨_, h, _⟩
           ·have := hS.t.len; exact (cut20C_le (by omega)).symm
           ·exact h
          have hd20 : decide ((20 : Int) ≤ (zz.length : Int)) = false := by rw [decide_eq_false_iff_not]; have := hS.t.len; omega
          have hz19 : zz.length ≤ 19 := by have := hS.t.len; omega
          have hsub : ∀ y ∈ zz, y ∈ zs := by rw [hzc]; exact fun y hy => List.mem_of_mem_drop hy
          have HNB2 : Hid (∀ y ∈ zz, y.b ≠ xb) := fun y hy => HNB.out y (hsub y hy)
          have HZP : Hid (zz.map Ce.pl = cut20 (zs.map Ce.pl)) := by show _ = _; rw [hzc]; exact cut20C_pl zs
          have HSC := Lib.hid hS
          have c4 := hS.t.blk.cell 4
          have f4 := hS.t.blk.frozen 4
          rw [hc1] at c4 f4
          have c4' : wr.cell? ⟨A.c, 4, none⟩ = some (.int .i64 (made : Int)) := c4
          have hwm : IntKind.i64.wrap ((made : Int) + 1) = (made : Int) + 1 := by rw [IntKind.wrap_i64]; omega
          have HSU := Lib.hid (hS.up (.int .i64 ((made : Int) + 1)) rfl)
          rw [hc1] at HSU
          have HEU := Lib.hid (hE.far (gcell wr ⟨A'.c, 4, none⟩ (.int .i64 ((made : Int) + 1))) hS.t.blk (by decide) (by decide) (by decide))
          rw [hc1] at HEU
          have HRU := Lib.hid (HR12.out.trans (hr.ct.set_ hS.t.blk hS.t.b0.1 (by decide) (i := 4) (.int .i64 ((made : Int) + 1))))
          rw [hc1] at HRU
          have HIt := Lib.hid (fun (W : World) (h : HasP10 W) => Bd.itoa_any ((made : Int) + 1) W (by omega) (by omega) h)
          have hnm : mkS (Lib.itoa ((made : Int) + 1)) = nameE (made + 1) := rfl
          rw [hnm] at HIt
          clear hS hE hr hq hzc hsub c4 hnm HNB HSt HEt HRt HR12
          go_wp2_with fail
          generalize wr.setCell ⟨A.c, 4, none⟩ (.int .i64 ((made : Int) + 1)) = w15 at *
          have d4 : w15.cell? ⟨A.c, 4, none⟩ = some (.int .i64 ((made : Int) + 1)) := by
           have := HSU.out.t.blk.cell 4
           rw [hc1] at this
           exact this
          have HP15 := (HENV.out.bel HRU.out.bel).p10
          go_wp2_with fail
          refine (HIt.out w15 HP15).mono ?_
          rintro e w16 ⟨rfl, b16⟩
          have HS16 := Lib.hid (HSU.out.below b16)
          have HE16 := Lib.hid (HEU.out.below b16)
          have HR16 := Lib.hid (HRU.out.below b16 hn0)
          have c1 := HS16.out.t.blk.cell 1
          rw [hc1, hpr, HA'.out.2.2.2.2.1, hme] at c1
          obtain ⟨ns, hrow, hkv⟩ := HS16.out.row
          have hnw : withoutK (kv ns) (nameE (made + 1)) = kv ns := by
           rw [hkv]
           unfold withoutK
           rw [List.filter_eq_self]
           intro y hy
           obtain ⟨z, hz, rfl⟩ := List.mem_map.1 hy
           obtain ⟨i, i1, i2, i3⟩ := HSC.out.t.nm z hz
           have : z.n ≠ nameE (made + 1) := fun e => by have := nameE_inj (i3.symm.trans e); omega
           simp [kvE, Ce.pl, this]
          have hnz := nameE_size (made + 1) (by omega)
          have HPu := Lib.hid (putR_kv n0 A'.pr A'.cr A'.mr room ns (nameE (made + 1)) ((bd.size : Int) + 100) w16 hrow (by omega) (by omega) hnz)
          obtain ⟨gs, hgs⟩ := leftC_split room ((bd.size : Int) + 100) zz
          rw [hnw, hkv, leftK_map, goneK_map hgs, hpr] at HPu
          have HLP := Lib.hid (leftC_pl room ((bd.size : Int) + 100) zz)
          generalize leftC room ((bd.size : Int) + 100) zz = ls at *
          have HGS := Lib.hid hgs
          clear hrow hkv hnw hgs b16 HSU HEU HRU HIt c4' f4 hwm d4
          go_wp2_with fail
          refine HPu.out.mono ?_
          rintro e w17 ⟨vg, ns17, rfl, og, hrow17, hkv17, hrg17⟩
          have HT17 := Lib.hid (HS16.out.t.row hrg17)
          have HE17 := Lib.hid (HE16.out.rgX hrg17 rfl rfl rfl)
          have HR17 := Lib.hid (HR16.out.trans (RM.of_rg hrg17 ct_ry hms.1))
          rw [← hpr] at hrow17
          have HROW := Lib.hid hrow17
          have HKV := Lib.hid hkv17
          have HOG := Lib.hid og
          obtain ⟨Ag, cg, rfl⟩ : ∃ Ag cg, vg = .slice Ag gs.length cg := by
           obtain ⟨Ag, cg, he, -⟩ := (SlR.of_owns og).form
           rw [List.length_map] at he
           exact ⟨Ag, cg, he⟩
          have hgl : gs.length + ls.length = zz.length := by rw [HGS.out, List.length_append]
          have HZL : Hid (gs.length + ls.length ≤ 19) := by show _ ≤ _; omega
          have HT17' : Hid (CaT w17 n0 A' room M (gs ++ ls) (made + 1)) := by show CaT _ _ _ _ _ _ _; rw [← HGS.out]; exact HT17.out
          have HLZ : Hid (∀ y ∈ ls, y.b ≠ xb) := fun y hy => HNB2.out y (by rw [HGS.out]; exact List.mem_append_right _ hy)
          have HLN : Hid (∀ y ∈ ls, y.n ≠ nameE (made + 1)) := by
           intro y hy e
           obtain ⟨i, i1, i2, i3⟩ := HSC.out.t.nm y (by rw [HGS.out]; exact List.mem_append_right _ hy)
           have := nameE_inj (i3.symm.trans e)
           omega
          clear og hrow17 hkv17 hrg17 HPu HS16 HE16 HR16 c1 hgl HT17
          go_wp2_with fail
          go_loopw [145] (fun i wr => ∃ j : Nat, j ≤ gs.length ∧ i = .int .i64 j ∧ CaT wr n0 A' room M (gs.drop j ++ ls) (made + 1) ∧ (∃ ns, RowS wr n0 A'.pr room A'.cr A'.mr ns ∧ kv ns = (ls.map fun x => kvE x.pl) ++ [(nameE (made + 1), (bd.size : Int) + 100)]) ∧ EntB wr n0 M x ∧ RM GT A.ms n0 w17 wr) (fun i _ => gs.length - (intOf i).toNat)
          case atStart => exact ⟨0, by omega, rfl, HT17'.out, ⟨ns17, HROW.out, HKV.out⟩, HE17.out, RM.refl _ _ _ _⟩
          case round =>
           obtain ⟨j, hj, rfl, hT, ⟨nsr, hrow, hkv⟩, hE, hr⟩ := hrel
           have HTr := Lib.hid hT
           have HROr := Lib.hid hrow
           have HKr := Lib.hid hkv
           have HEr := Lib.hid hE
           have HRr := Lib.hid hr
           have hpp := HA'.out.2.2.2.2.1
           have hmp := HA'.out.2.2.2.2.2.1
           have hgl19 : gs.length ≤ 19 := by have := HZL.out; omega
           by_cases hlt : j < gs.length
           ·have hlt' : j < (gs.map (·.n)).length := by rw [List.length_map]; exact hlt
            obtain ⟨bb, off, c3', he, hcc, hbb, hcell⟩ := (SlR.of_owns (Owns.rm HOG.out hr (by decide))).texts (by omega)
            injection he with g1 g2 g3
            subst g1 g3
            have c0 := hcell j hlt'
            rw [List.getElem_map] at c0
            rw [List.drop_eq_getElem_cons hlt] at HTr
            clear hcell g2 hcc hT hrow hkv hE hr
            generalize gs[j] = z at *
            have hzm : z ∈ z :: (gs.drop (j + 1) ++ ls) := by simp
            have HTz : Hid (CaT wr n0 A' room M ([] ++ z :: (gs.drop (j + 1) ++ ls)) (made + 1)) := HTr.out
            have hEz := HTz.out.ent z (by simp)
            obtain ⟨es2, cs2, hpv2, hperm2⟩ := HTz.out.pile
            have HDp := Lib.hid (dropP_pv n0 A'.pp A'.mp 1000000 es2 cs2 (chunksC ([] ++ (gs.drop (j + 1) ++ ls)) ++ A'.ex) z.h.bd z.pv wr.drew ⟨hpv2.st.drew, hpv2.rep⟩ hEz.bd (hperm2.trans ((chunks_split.append_right _).trans (by rw [List.append_assoc]))) (by have h1 := HTz.out.cl; have h2 := hperm2.length_eq; have h3 := HTz.out.exl; rw [List.length_append] at h2; omega) ((SlR.of_owns hEz.pv).below (Below.refl _ _).drew))
            rw [hpp] at HDp
            have hzz := HTz.out.nz (by omega) z (by simp)
            clear hpv2 hperm2 hEz HTr
            go_wp2_with fail
            refine wp_region_effs [(true, 0), (true, 1), (true, 2), (true, 3), (true, 4), (true, 5), (true, 6), (true, 7), (true, 8), (true, 9), (true, 10), (true, 11), (true, 12), (false, 13)] 13 (fun w' => Below wr.heap.size wr w') (by kernel_rfl) (by kernel_rfl) (fun _ _ _ _ _ h => h) (by kernel_rfl) (by kernel_rfl) ?_ ?_
            ·exact (Below.refl _ _).drew
            iterate 13 (first | (apply seqN_skip; (focus (simp only [List.getElem?_toArray, List.getElem?_cons_succ, List.getElem?_cons_zero]; rfl)); (focus rfl); simp only [Act.put, List.setIfInBounds_toArray, List.set_cons_zero, List.set_cons_succ]) | (apply seqN_pure; (focus (simp only [List.getElem?_toArray, List.getElem?_cons_succ, List.getElem?_cons_zero]; rfl)); (focus rfl); (focus (intro w'; first | (go_simp; rfl) | (go_simp; done))); simp only [Act.put, List.setIfInBounds_toArray, List.set_cons_zero, List.set_cons_succ]) | (apply seqN_take; (focus (simp only [List.getElem?_toArray, List.getElem?_cons_succ, List.getElem?_cons_zero]; rfl)); (focus kernel_rfl); (focus rfl); (focus (intro w' hS; have hT := HTz.out.below hS; have c2 := hT.blk.cell 2; have c3 := hT.blk.cell 3; rw [hc1, hpr, hpp, hme] at c2 c3; have hlk := hT.look (by omega) hzm; rw [hme] at hlk; have x12 := (hT.ent z hzm).blk.cell 12; first | (go_simp; rfl) | (go_simp; done))); simp only [Act.put, List.setIfInBounds_toArray, List.set_cons_zero, List.set_cons_succ]))
            apply seqN_eff
            (focus (simp only [List.getElem?_toArray, List.getElem?_cons_succ, List.getElem?_cons_zero]; rfl))
            (focus rfl)
            intro K hK
            go_simp
            refine HDp.out.mono ?_
            rintro e w20 ⟨rfl, rg2, es3, hpv3⟩
            refine hK _ _ ⟨fun h => absurd h (by decide), ?_⟩
            clear hK K
            refine seqN_nil ?_
            have rg2' : RG RP A'.mp n0 wr w20 := (RG.refl _ _ _ wr).drew.trans rg2
            have HG2 := Lib.hid rg2'
            have HP2 := Lib.hid hpv3
            have hb2 := Blk.rgX HTz.out.blk rg2' rfl
            have c3 := hb2.cell 3
            rw [hc1, hpr, hpp, hme] at c3
            have hm2 := MapS.rgX HTz.out.mp rg2' HTz.out.ne.2.2.symm
            have HM2 := Lib.hid hm2
            rw [hme] at hm2
            have HM2' := Lib.hid hm2
            have HE2 := Lib.hid (HEr.out.rgX rg2' rfl rfl rfl)
            have HRO2 := Lib.hid (RowS.rg HROr.out rg2' HTz.out.ne.1)
            clear rg2 rg2' hpv3 hb2 hm2 c0 HDp
            go_wp2_with (refine wpList_del rfl (.tmp 166) (.tmp 167) rfl rfl HM2'.out Tryz.underlying9 Tryz.underlying74 z.n rfl hzz ?_; intro w21 hm3 hg3)
            rw [← hme] at hm3 hg3
            have hT3 := CaT.del HTz.out HG2.out (by rw [hpp]; exact HP2.out) (List.Perm.refl _) hm3 hg3 HM2.out.isMapObj
            obtain ⟨ems, eck, hmo⟩ := HM2.out.isMapObj
            have hrr : RM GT A.ms n0 wr w21 := (RM.of_rg HG2.out gt_rp hms.2.1).grown hg3 (Nat.le_trans HTz.out.n0w HG2.out.size) (fun k hk => by cases hk; exact ⟨HTz.out.b0.2.1, _, hmo, by simp only [okM, hms.2.2]; rfl⟩)
            go_roundw
            case rel => exact ⟨j + 1, by omega, by go_num, hT3, ⟨nsr, HRO2.out.kept_map hg3 hmo HTz.out.ne.2.1, HKr.out⟩, HE2.out.kept_map hg3 hmo, HRr.out.trans hrr⟩
            case measure => simp [intOf]; omega
           ·obtain rfl : j = gs.length := by omega
            rw [List.drop_length, List.nil_append] at HTr
            have HMu := Lib.hid HTr.out.mp
            have HMu' := HMu
            rw [hme] at HMu'
            have c3 := HTr.out.blk.cell 3
            rw [hc1, hpr, hpp, hme] at c3
            have hlm : ls.length < maxLen := by have := HZL.out; simp only [maxLen]; omega
            clear hT hrow hkv hE hr hlt hj
            go_wp2_with (refine wpList_upd rfl (.tmp 172) (.tmp 173) (.tmp 174) rfl rfl HMu'.out Tryz.underlying9 Tryz.underlying74 (nameE (made + 1)) (ptr xb) rfl rfl hnz hlm ?_; intro w22 hm4 hg4)
            rw [← hme] at hm4 hg4
            obtain ⟨xb1, xn1, xd1, xp1⟩ := HXF.out
            rw [← xb1, ← xn1] at hm4
            obtain ⟨ems, eck, hmo⟩ := HMu.out.isMapObj
            have hT4 := CaT.add HTr.out HEr.out (by rw [xd1]; exact HA'.out.2.2.2.2.2.2.2.1) (by rw [xn1]; exact HLN.out) (by rw [xb1]; exact HLZ.out) ⟨made + 1, by omega, Nat.le_refl _, xn1⟩ (by rw [xb1]; exact hx0) (by have := HZL.out; omega) hm4 hg4
            have hRow4 := HROr.out.kept_map hg4 hmo HTr.out.ne.2.1
            have hkx : kvE x.pl = (nameE (made + 1), (bd.size : Int) + 100) := by rw [xp1]; rfl
            have hS4 : CaS w22 n0 { A' with ex := [] } room M (ls ++ [x]) (made + 1) := ⟨hT4, nsr, hRow4, by rw [HKr.out, List.map_append]; simp [hkx]⟩
            rw [HA'.out.2.2.2.2.2.2.2.2] at hS4
            have HS4 := Lib.hid hS4
            have HR22 := Lib.hid ((HR17.out.trans HRr.out.ct).grown hg4 (Nat.le_trans HTr.out.n0w (Nat.le_refl _)) (fun k hk => by cases hk; exact ⟨HTr.out.b0.2.1, _, hmo, by simp only [okM, hms.2.2]; rfl⟩))
            clear hT4 hRow4 hS4 hm4 hg4 hmo
            go_wp2_with fail
            go_ret2
            refine keepAns_of HRG.out ?_ HS4.out HR22.out
            rw [List.map_append, HLP.out, HZP.out]
            rfl
 ·have hne : (E != 0) = true := by rw [bne_iff_ne]; exact hE
  have hR : R = ⟨false, E, xs.map Ce.pl, made⟩ := by rw [HKD.out, if_pos hE]
  have HRR := Lib.hid hR
  clear HKD hR hin hE
  go_wp2_with fail
  go_ret2
  exact keepAns_of HRR.out rfl HS2.out HR2.out
end Ca
end Go.Proofs.YtgnblkmpoigejaaGreatDoor
