import Derived.Test.YtgnblkmpoigejaaGreatDoorU18
import Derived.Lib.ItoaMem
import Derived.Test.YtgnblkmpoigejaaGreatDoorU21
import Derived.Lib.ItoaLen
import Derived.Test.YtgnblkmpoigejaaGreatDoorU3
set_option linter.unusedVariables false
set_option linter.unusedSimpArgs false
namespace Go.Proofs.YtgnblkmpoigejaaGreatDoor
set_option maxRecDepth 20000
open Go.RowKit Go.Shelf
namespace Ca
open Bk
theorem dec_ne (u : Nat) : Lib.decDigits u ≠ [] := by
 rw [Lib.decDigits]
 split <;> simp
theorem dig_inj {a b : Nat} (ha : a < 10) (hb : b < 10) (h : UInt8.ofNat (48 + a) = UInt8.ofNat (48 + b)) : a = b := by
 have := congrArg UInt8.toNat h
 rw [UInt8.toNat_ofNat', UInt8.toNat_ofNat'] at this
 omega
theorem dec_inj : ∀ {u v : Nat}, Lib.decDigits u = Lib.decDigits v → u = v := by
 intro u
 induction u using Nat.strongRecOn with
 | _ u ih =>
  intro v h
  rw [Lib.decDigits, Lib.decDigits.eq_def v] at h
  by_cases hu : u < 10
  ·rw [dif_pos hu] at h
   by_cases hv : v < 10
   ·rw [dif_pos hv] at h
    injection h with h
    exact dig_inj hu hv h
   ·rw [dif_neg hv] at h
    have := congrArg List.length h
    rw [List.length_append] at this
    have h1 : (Lib.decDigits (v / 10)).length ≠ 0 := fun e => dec_ne _ (List.length_eq_zero_iff.1 e)
    simp at this
    exact absurd this (dec_ne _)
  ·rw [dif_neg hu] at h
   by_cases hv : v < 10
   ·rw [dif_pos hv] at h
    have := congrArg List.length h
    rw [List.length_append] at this
    simp at this
    exact absurd this (dec_ne _)
   ·rw [dif_neg hv] at h
    obtain ⟨h1, h2⟩ := List.append_inj' h rfl
    injection h2 with h2
    have e1 := ih (u / 10) (by omega) h1
    have e2 := dig_inj (Nat.mod_lt _ (by decide)) (Nat.mod_lt _ (by decide)) h2
    omega
theorem nameE_inj {i j : Nat} (h : nameE i = nameE j) : i = j := by
 unfold nameE at h
 have := congrArg sl h
 rw [sl_mkS, sl_mkS, Lib.itoa_nonneg, Lib.itoa_nonneg] at this
 exact dec_inj this
theorem nameE_ne (i : Nat) : nameE i ≠ ByteArray.empty := by
 intro h
 have := congrArg sl h
 unfold nameE at this
 rw [sl_mkS, Lib.itoa_nonneg] at this
 exact dec_ne _ this
structure InvE (room : Int) (xs : List En) (made : Nat) : Prop where
 key : ∀ e ∈ xs, normE e.x.rt = 0 ∧ e.key = normK e.x.rt
 get : ∀ e ∈ xs, e.x.rm = getB
 nm : ∀ e ∈ xs, ∃ i : Nat, 1 ≤ i ∧ i ≤ made ∧ e.n = nameE i
 nd : (xs.map (·.n)).Nodup
 len : xs.length ≤ 20
 us : usedE xs ≤ room
 bd : ∀ e ∈ xs, e.x.bd.size ≤ 5000
theorem usedE_cons (e : En) (xs : List En) : usedE (e :: xs) = sizeE e + usedE xs := rfl
theorem usedE_app (a b : List En) : usedE (a ++ b) = usedE a + usedE b := by simp [usedE]
theorem sizeE_pos (e : En) : 0 ≤ sizeE e := by unfold sizeE; omega
theorem usedE_sub {a b : List En} (h : a.Sublist b) : usedE a ≤ usedE b := by
 induction h with
 | slnil => exact Int.le_refl _
 | cons e _ ih => rw [usedE_cons]; have := sizeE_pos e; omega
 | cons_cons e _ ih => rw [usedE_cons, usedE_cons]; omega
theorem leftE_sub (room s : Int) : ∀ xs : List En, (leftE room s xs).Sublist xs
 | [] => List.Sublist.refl _
 | e :: r => by
  unfold leftE
  split
  ·exact List.Sublist.refl _
  ·exact (leftE_sub room s r).cons _
theorem leftE_used (room s : Int) (hs : s ≤ room) : ∀ xs : List En, usedE (leftE room s xs) + s ≤ room
 | [] => by simpa [leftE, usedE] using hs
 | e :: r => by
  unfold leftE
  split
  ·assumption
  ·exact leftE_used room s hs r
theorem InvE.sub {room : Int} {xs ys : List En} {made : Nat} (h : InvE room xs made) (hs : ys.Sublist xs) : InvE room ys made :=
 ⟨fun e he => h.key e (hs.subset he), fun e he => h.get e (hs.subset he), fun e he => h.nm e (hs.subset he), (hs.map _).nodup h.nd, Nat.le_trans hs.length_le h.len, Int.le_trans (usedE_sub hs) h.us, fun e he => h.bd e (hs.subset he)⟩
theorem mayF_get {m : ByteArray} {l : List Fld} {code : Int} {k : List Fld} (h : Dp.mayF m l code k = true) : m = getB := by
 unfold Dp.mayF at h
 split at h
 ·cases h
 ·rename_i hn
  have : (m.toList == [71, 69, 84]) = true := by
   cases hc : (m.toList == [71, 69, 84]) with
   | true => rfl
   | false => exact absurd (.inl hc) hn
  apply sl_inj
  rw [← ba_toList]
  exact (beq_iff_eq.1 this)
theorem matF_code {k l m : List Fld} (h : matB k l m = true) : (Vy.matF (Vy.txt k Vy.nVary) l m).2 = 0 := by
 unfold matB Vy.matF at h
 unfold Vy.matF
 split at h
 ·rename_i hc; rw [if_pos hc]
 ·cases h
theorem new_name {room : Int} {xs : List En} {made : Nat} (h : InvE room xs made) : ∀ e ∈ xs, e.n ≠ nameE (made + 1) := by
 intro e he hn
 obtain ⟨i, h1, h2, h3⟩ := h.nm e he
 have := nameE_inj (h3.symm.trans hn)
 omega
theorem InvE.keep {room : Int} {xs : List En} {made : Nat} (h : InvE room xs made) (x : Hp) : InvE room (keepM room xs made x).xs (keepM room xs made x).made := by
 unfold keepM
 split
 ·exact h
 ·rename_i h1
  split
  ·exact h
  ·rename_i h2
   split
   ·exact h
   ·rename_i h3
    have hc : InvE room (clearE (normK x.rt) x.l xs) made := h.sub List.filter_sublist
    split
    ·exact hc
    ·rename_i h4
     split
     ·exact hc
     ·generalize clearE (normK x.rt) x.l xs = ys at *
      have hl : (leftE room ((x.bd.size : Int) + 100) (cut20 ys)).Sublist ys := (leftE_sub _ _ _).trans (List.drop_sublist _ _)
      have hcl := hc.sub hl
      have hu := leftE_used room ((x.bd.size : Int) + 100) (by omega) (cut20 ys)
      have hlen : (leftE room ((x.bd.size : Int) + 100) (cut20 ys)).length ≤ 19 := by
       have h5 := (leftE_sub room ((x.bd.size : Int) + 100) (cut20 ys)).length_le
       have h6 : (cut20 ys).length ≤ 19 := by unfold cut20; rw [List.length_drop]; omega
       omega
      have hnn := new_name hcl
      generalize leftE room ((x.bd.size : Int) + 100) (cut20 ys) = zs at *
      have hm : Dp.mayF x.rm x.l x.code x.k = true := by
       cases hq : Dp.mayF x.rm x.l x.code x.k with
       | true => rfl
       | false => exact absurd hq h3
      have h1' : normE x.rt = 0 := by omega
      refine ⟨fun e he => ?_, fun e he => ?_, fun e he => ?_, ?_, ?_, ?_, fun e he => ?_⟩
      ·rcases List.mem_append.1 he with he | he
       ·exact hcl.key e he
       ·rw [List.mem_singleton.1 he]; exact ⟨h1', rfl⟩
      ·rcases List.mem_append.1 he with he | he
       ·exact hcl.get e he
       ·rw [List.mem_singleton.1 he]; exact mayF_get hm
      ·rcases List.mem_append.1 he with he | he
       ·obtain ⟨i, a1, a2, a3⟩ := hcl.nm e he
        exact ⟨i, a1, Nat.le_succ_of_le a2, a3⟩
       ·rw [List.mem_singleton.1 he]; exact ⟨made + 1, by omega, Nat.le_refl _, rfl⟩
      ·rw [List.map_append, List.nodup_append]
       refine ⟨hcl.nd, by simp, fun a ha b hb => ?_⟩
       obtain ⟨y, hy, rfl⟩ := List.mem_map.1 ha
       simp only [List.map_cons, List.map_nil, List.mem_singleton] at hb
       rw [hb]
       exact hnn y hy
      ·simp; omega
      ·rw [usedE_app]; simp [usedE, sizeE] at hu ⊢; omega
      ·rcases List.mem_append.1 he with he | he
       ·exact hcl.bd e he
       ·rw [List.mem_singleton.1 he]; show x.bd.size ≤ 5000; omega
theorem touch_perm {xs : List En} {e : En} (hn : (xs.map (·.n)).Nodup) (he : e ∈ xs) : (touchE xs e).Perm xs := by
 obtain ⟨a, b, rfl⟩ := List.append_of_mem he
 unfold touchE
 rw [List.map_append, List.map_cons, List.nodup_append] at hn
 obtain ⟨h1, h2, h3⟩ := hn
 have ha : a.filter (fun y => !decide (y.n = e.n)) = a := List.filter_eq_self.2 fun y hy => by
  have := h3 y.n (List.mem_map.2 ⟨y, hy, rfl⟩) e.n (by simp)
  simp [this]
 have hb : b.filter (fun y => !decide (y.n = e.n)) = b := List.filter_eq_self.2 fun y hy => by
  have : y.n ≠ e.n := fun q => (List.nodup_cons.1 h2).1 (List.mem_map.2 ⟨y, hy, q⟩)
  simp [this]
 rw [List.filter_append, List.filter_cons_of_neg (by simp), ha, hb, List.append_assoc]
 exact (List.perm_append_left_iff a).2 (List.perm_append_comm (l₁ := b) (l₂ := [e]))
theorem usedE_perm {a b : List En} (h : a.Perm b) : usedE a = usedE b := perm_sum (h.map _)
theorem InvE.perm {room : Int} {xs ys : List En} {made : Nat} (h : InvE room xs made) (hp : ys.Perm xs) : InvE room ys made :=
 ⟨fun e he => h.key e (hp.mem_iff.1 he), fun e he => h.get e (hp.mem_iff.1 he), fun e he => h.nm e (hp.mem_iff.1 he), ((hp.map _).nodup_iff).2 h.nd, by rw [hp.length_eq]; exact h.len, by rw [usedE_perm hp]; exact h.us, fun e he => h.bd e (hp.mem_iff.1 he)⟩
theorem best_fit {xs : List En} {m t : ByteArray} {l : List Fld} {e : En} (h : bestE xs m t l = some e) : e ∈ xs ∧ fitB (normK t) l e = true ∧ normE t = 0 ∧ (m = getB ∨ m = headB) ∧ ∀ y ∈ xs, fitB (normK t) l y = true → y.x.came ≤ e.x.came := by
 unfold bestE at h
 split at h
 ·cases h
 ·rename_i hn
  have hm := best_mem _ h
  obtain ⟨h1, h2⟩ := List.mem_filter.1 hm
  refine ⟨h1, h2, ?_, ?_, fun y hy hf => best_ge (fun e : En => e.x.came) h y (List.mem_filter.2 ⟨hy, hf⟩)⟩
  ·by_cases hq : normE t = 0
   ·exact hq
   ·exact absurd (.inr hq) hn
  ·by_cases hq : m = getB
   ·exact .inl hq
   ·by_cases hq2 : m = headB
    ·exact .inr hq2
    ·exact absurd (.inl ⟨hq, hq2⟩) hn
theorem InvE.touch {room : Int} {xs : List En} {made : Nat} (h : InvE room xs made) {e : En} (he : e ∈ xs) : InvE room (touchE xs e) made := h.perm (touch_perm h.nd he)
theorem InvE.find {room : Int} {xs : List En} {made : Nat} (h : InvE room xs made) (m t : ByteArray) (l : List Fld) : InvE room (findX xs m t l) made := by
 unfold findX
 split
 ·exact h
 ·rename_i e hb
  exact h.touch (best_fit hb).1
theorem InvE.renew1 {room : Int} {xs : List En} {made : Nat} {e : En} (h : InvE room (xs ++ [e]) made) (f : List Fld) (a c : Int) : InvE room (xs ++ [{ e with x := renewH e.x f a c }]) made := by
 have hk : ∀ (P : En → Prop), (∀ y ∈ xs ++ [e], P y) → (P e → P { e with x := renewH e.x f a c }) → ∀ y ∈ xs ++ [{ e with x := renewH e.x f a c }], P y := by
  intro P h1 h2 y hy
  rcases List.mem_append.1 hy with hy | hy
  ·exact h1 y (List.mem_append_left _ hy)
  ·rw [List.mem_singleton.1 hy]; exact h2 (h1 e (by simp))
 refine ⟨hk _ h.key (fun q => q), hk _ h.get (fun q => q), hk _ h.nm (fun q => q), ?_, ?_, ?_, hk (fun e => e.x.bd.size ≤ 5000) h.bd (fun q => q)⟩
 ·have := h.nd; rw [List.map_append] at this ⊢; exact this
 ·have := h.len; simpa using this
 ·have := h.us; rw [usedE_app] at this ⊢; exact this
theorem InvE.renew {room : Int} {xs : List En} {made : Nat} (h : InvE room xs made) (m t : ByteArray) (l f : List Fld) (a c : Int) : InvE room (renewX xs m t l f a c) made := by
 unfold renewX
 split
 ·exact h
 ·rename_i e hb
  have := (h.touch (best_fit hb).1)
  unfold touchE at this ⊢
  exact this.renew1 f a c
theorem InvE.nil {room : Int} (h : 0 ≤ room) : InvE room [] 0 := ⟨by simp, by simp, by simp, by simp, by simp, by simpa [usedE] using h, by simp⟩
end Ca
set_option maxRecDepth 20000
namespace Ca
open Bk
structure Caps (W : World) (g3 g4 g5 c : Nat) (key : ByteArray) (u : Value) : Prop where
 c3 : W.cell? ⟨g3, 0, none⟩ = some (ptr c)
 c4 : W.cell? ⟨g4, 0, none⟩ = some (.string key)
 c5 : W.cell? ⟨g5, 0, none⟩ = some u
 l3 : g3 < W.heap.size
 l4 : g4 < W.heap.size
 l5 : g5 < W.heap.size
theorem Caps.below {W W' : World} {g3 g4 g5 c : Nat} {key : ByteArray} {u : Value} (h : Caps W g3 g4 g5 c key u) (hb : Below W.heap.size W W') : Caps W' g3 g4 g5 c key u :=
 ⟨(hb.cell h.l3).trans h.c3, (hb.cell h.l4).trans h.c4, (hb.cell h.l5).trans h.c5, Nat.lt_of_lt_of_le h.l3 hb.size, Nat.lt_of_lt_of_le h.l4 hb.size, Nat.lt_of_lt_of_le h.l5 hb.size⟩
theorem nameE_size (i : Nat) (hi : i ≤ 9223372036854775807) : (nameE i).size ≤ maxLen := by
 unfold nameE
 rw [mkS_size]
 have := Lib.itoa_length_le (i : Int) (by omega) (by omega)
 exact Nat.le_trans this (by decide)
theorem CaT.nz {w : World} {n0 : Lim} {M made : Nat} {A : Ad} {room : Int} {xs : List Ce} (h : CaT w n0 A room M xs made) (hm : made ≤ 9223372036854775807) : ∀ x ∈ xs, x.n.size ≤ maxLen := fun x hx => by
 obtain ⟨i, h1, h2, h3⟩ := h.nm x hx
 rw [h3]
 exact nameE_size i (by omega)
theorem CaT.look {w : World} {n0 : Lim} {M made : Nat} {A : Ad} {room : Int} {xs : List Ce} {x : Ce} (h : CaT w n0 A room M xs made) (hm : made ≤ 9223372036854775807) (hx : x ∈ xs) :
  (Instr.lookup 74 (.map (some A.me)) (.string x.n) false).run Tryz.prog w = .ok (ptr x.b) w := by
 have := h.mp.look (t := 74) (e := 78) (k := x.n) Tryz.underlying9 Tryz.underlying74 (z := .pointer none) rfl (h.nz hm x hx)
 rwa [eF_some h.kd hx] at this
theorem matF_true {k l m : List Fld} {b : Bool} {c : Int} (h : Vy.matF (Vy.txt k Vy.nVary) l m = (b, c)) : b = matB k l m ∧ (b = true → c = 0) := by
 refine ⟨by unfold matB; rw [h], fun hb => ?_⟩
 have := matF_code (k := k) (l := l) (m := m) (by unfold matB; rw [h]; exact hb)
 rw [h] at this
 exact this
set_option maxHeartbeats 2000000 in
theorem fits1_any (n0 : Lim) (M made : Nat) (A : Ad) (room : Int) (xs : List Ce) (x : Ce) (key : ByteArray) (u : Value) (m : List Fld) (g3 g4 g5 : Nat) (W : World) (h : CaT W n0 A room M xs made) (hm : made ≤ 9223372036854775807) (hM : M ≤ 4398046511104) (hx : x ∈ xs) (hc : Caps W g3 g4 g5 A.c key u) (hu : SlR W e_ss u m) (hwm : Vy.wt m ≤ 4398046511104) :
  Calls Tryz.prog 71 #[.string x.n, ptr g3, ptr g4, ptr g5] W fun e w' => e = .returned (.bool (!fitB key m x.pl)) ∧ Below W.heap.size W w' := by
 have HE := h.ent x hx
 have p3 := h.blk.cell 3
 have hlk := h.look hm hx
 have q0 := hc.c3
 have HX := Lib.hid (fun (w' : World) (hb : Below W.heap.size W w') => show w'.cell? ⟨x.b, 11, none⟩ = some (.string x.key) ∧ w'.cell? ⟨x.b, 6, none⟩ = some x.u ∧ w'.cell? ⟨x.b, 2, none⟩ = some x.h.rf from ⟨(HE.blk.below hb HE.blk.lt).cell 11, (HE.blk.below hb HE.blk.lt).cell 6, (HE.blk.below hb HE.blk.lt).cell 2⟩)
 have HC := Lib.hid (fun (w' : World) (hb : Below W.heap.size W w') => show w'.cell? ⟨g4, 0, none⟩ = some (.string key) ∧ w'.cell? ⟨g5, 0, none⟩ = some u from ⟨(hc.below hb).c4, (hc.below hb).c5⟩)
 have hl1 := HE.wl
 have hl2 := HE.wk
 have HMt := Lib.hid (fun (w' : World) (hb : Below W.heap.size W w') => Vy.match_any x.u x.h.rf u x.k x.l m w' ⟨(SlR.of_owns HE.u).below hb, Nat.le_trans hl2 hM⟩ ⟨(SlR.of_owns HE.rf).below hb, Nat.le_trans hl1 hM⟩ ⟨hu.below hb, hwm⟩)
 have HA : Hid ((!fitB key m x.pl) = !(decide (x.key = key) && matB x.k x.l m)) := rfl
 obtain ⟨⟨mb, mc⟩, hmm⟩ : ∃ r, Vy.matF (Vy.txt x.k Vy.nVary) x.l m = r := ⟨_, rfl⟩
 obtain ⟨hmb, hmc⟩ := matF_true hmm
 rw [hmm] at HMt
 rw [← hmb] at HA
 clear hmb hmm h hx hc hu HE hl1 hl2
 generalize fitB key m x.pl = R at *
 by_cases hk : x.key = key
 ·have hq : (x.key.toList == key.toList) = true := beqL_true hk
  have HA2 : Hid ((!R) = !mb) := by show _ = _; rw [HA.out, decide_eq_true hk, Bool.true_and]
  clear HA hk
  go_enter Tryz.func71, Tryz.ntmps71
  go_wp2_with fail
  refine wp_region_seq [(true, 0), (true, 1), (true, 2), (true, 3), (true, 4), (true, 5)] (fun w' => Below W.heap.size W w') (by kernel_rfl) (by kernel_rfl) (fun _ _ _ _ _ h => h) (by kernel_rfl) (by kernel_rfl) (by first | exact (Below.refl _ _).drew | exact Below.drew (by assumption)) ?_
  have bS : Below W.heap.size W _ := (by first | exact Below.drew (by assumption) | exact (Below.refl _ W).drew)
  iterate 6 (first
   | (apply seqH_skip; (focus (simp only [List.getElem?_toArray, List.getElem?_cons_succ, List.getElem?_cons_zero]; rfl)); (focus rfl); simp only [Act.put, List.setIfInBounds_toArray, List.set_cons_zero, List.set_cons_succ])
   | (apply seqH_take; (focus (simp only [List.getElem?_toArray, List.getElem?_cons_succ, List.getElem?_cons_zero]; rfl)); (focus rfl); (focus (intro w' hS; obtain ⟨c0, -, -⟩ := HX.out _ hS; obtain ⟨c1, -⟩ := HC.out _ hS; first | (go_simp; rfl) | (go_simp; done))); simp only [Act.put, List.setIfInBounds_toArray, List.set_cons_zero, List.set_cons_succ])
   | (apply seqH_pass; (focus (simp only [List.getElem?_toArray, List.getElem?_cons_succ, List.getElem?_cons_zero]; rfl)); (focus rfl); (focus assumption); simp only [Act.put, List.setIfInBounds_toArray, List.set_cons_zero, List.set_cons_succ])
   | (apply seqH_eff; (focus (simp only [List.getElem?_toArray, List.getElem?_cons_succ, List.getElem?_cons_zero]; rfl)); (focus rfl); intro K hK; go_simp; fail; rintro e wN ⟨rfl, bN⟩; refine hK _ _ (seq_next (by assumption) bN (fun bS' => ?_)); clear hK K))
  refine seqH_nil ?_
  go_wp2_with fail
  refine wp_region_seq [(true, 0), (true, 1), (true, 2), (true, 3), (true, 4), (true, 5), (true, 6), (true, 7), (true, 8), (true, 9), (true, 10), (true, 11), (true, 12), (false, 13), (true, 14), (true, 15), (true, 16), (true, 17), (true, 18)] (fun w' => Below W.heap.size W w') (by kernel_rfl) (by kernel_rfl) (fun _ _ _ _ _ h => h) (by kernel_rfl) (by kernel_rfl) (by first | exact (Below.refl _ _).drew | exact Below.drew (by assumption)) ?_
  have bS : Below W.heap.size W _ := (by first | exact Below.drew (by assumption) | exact (Below.refl _ W).drew)
  iterate 19 (first
   | (apply seqH_skip; (focus (simp only [List.getElem?_toArray, List.getElem?_cons_succ, List.getElem?_cons_zero]; rfl)); (focus rfl); simp only [Act.put, List.setIfInBounds_toArray, List.set_cons_zero, List.set_cons_succ])
   | (apply seqH_take; (focus (simp only [List.getElem?_toArray, List.getElem?_cons_succ, List.getElem?_cons_zero]; rfl)); (focus rfl); (focus (intro w' hS; obtain ⟨-, c0, c1⟩ := HX.out _ hS; obtain ⟨-, c2⟩ := HC.out _ hS; first | (go_simp; rfl) | (go_simp; done))); simp only [Act.put, List.setIfInBounds_toArray, List.set_cons_zero, List.set_cons_succ])
   | (apply seqH_pass; (focus (simp only [List.getElem?_toArray, List.getElem?_cons_succ, List.getElem?_cons_zero]; rfl)); (focus rfl); (focus assumption); simp only [Act.put, List.setIfInBounds_toArray, List.set_cons_zero, List.set_cons_succ])
   | (apply seqH_eff; (focus (simp only [List.getElem?_toArray, List.getElem?_cons_succ, List.getElem?_cons_zero]; rfl)); (focus rfl); intro K hK; go_simp; (go_at_call 17; (with_reducible refine (HMt.out _ (by assumption)).mono ?_)); rintro e wN ⟨rfl, bN⟩; refine hK _ _ (seq_next (by assumption) bN (fun bS' => ?_)); clear hK K))
  refine seqH_nil ?_
  rename_i bS
  cases mb
  ·go_wp2_with fail
   go_ret
   exact ⟨by rw [HA2.out]; rfl, by assumption⟩
  ·obtain rfl := hmc rfl
   go_wp2_with fail
   go_ret
   exact ⟨by rw [HA2.out]; rfl, by assumption⟩
 ·have hq : (x.key.toList == key.toList) = false := beqL_false hk
  have HA2 : Hid ((!R) = true) := by show _ = _; rw [HA.out, decide_eq_false hk, Bool.false_and]; rfl
  clear HA hk
  go_enter Tryz.func71, Tryz.ntmps71
  go_wp2_with fail
  refine wp_region_seq [(true, 0), (true, 1), (true, 2), (true, 3), (true, 4), (true, 5)] (fun w' => Below W.heap.size W w') (by kernel_rfl) (by kernel_rfl) (fun _ _ _ _ _ h => h) (by kernel_rfl) (by kernel_rfl) (by first | exact (Below.refl _ _).drew | exact Below.drew (by assumption)) ?_
  have bS : Below W.heap.size W _ := (by first | exact Below.drew (by assumption) | exact (Below.refl _ W).drew)
  iterate 6 (first
   | (apply seqH_skip; (focus (simp only [List.getElem?_toArray, List.getElem?_cons_succ, List.getElem?_cons_zero]; rfl)); (focus rfl); simp only [Act.put, List.setIfInBounds_toArray, List.set_cons_zero, List.set_cons_succ])
   | (apply seqH_take; (focus (simp only [List.getElem?_toArray, List.getElem?_cons_succ, List.getElem?_cons_zero]; rfl)); (focus rfl); (focus (intro w' hS; obtain ⟨c0, -, -⟩ := HX.out _ hS; obtain ⟨c1, -⟩ := HC.out _ hS; first | (go_simp; rfl) | (go_simp; done))); simp only [Act.put, List.setIfInBounds_toArray, List.set_cons_zero, List.set_cons_succ])
   | (apply seqH_pass; (focus (simp only [List.getElem?_toArray, List.getElem?_cons_succ, List.getElem?_cons_zero]; rfl)); (focus rfl); (focus assumption); simp only [Act.put, List.setIfInBounds_toArray, List.set_cons_zero, List.set_cons_succ])
   | (apply seqH_eff; (focus (simp only [List.getElem?_toArray, List.getElem?_cons_succ, List.getElem?_cons_zero]; rfl)); (focus rfl); intro K hK; go_simp; fail; rintro e wN ⟨rfl, bN⟩; refine hK _ _ (seq_next (by assumption) bN (fun bS' => ?_)); clear hK K))
  refine seqH_nil ?_
  go_wp2_with fail
  go_ret
  exact ⟨by rw [HA2.out]; rfl, by assumption⟩
theorem kv_names {ns : List Nd} {xs : List Ce} (h : kv ns = xs.map fun x => kvE x.pl) : ns.map (·.2.1) = xs.map (·.n) := by
 have := congrArg (List.map (·.1)) h
 unfold kv at this
 rw [List.map_map, List.map_map] at this
 exact this
def noFit (key : ByteArray) (m : List Fld) (xs : List Ce) (n : ByteArray) : Bool := !(xs.any fun x => decide (x.n = n) && fitB key m x.pl)
theorem noFit_at {key : ByteArray} {m : List Fld} {xs : List Ce} {x : Ce} (hk : (xs.map (·.n)).Nodup) (hx : x ∈ xs) : noFit key m xs x.n = !fitB key m x.pl := by
 unfold noFit
 congr 1
 rw [Bool.eq_iff_iff, List.any_eq_true]
 constructor
 ·rintro ⟨y, hy, he⟩
  simp only [Bool.and_eq_true, decide_eq_true_eq] at he
  rw [← nodup_inj hk hy hx he.1]
  exact he.2
 ·intro h
  exact ⟨x, hx, by simp [h]⟩
def fitsC (key : ByteArray) (m : List Fld) (xs : List Ce) : List Ce := xs.filter fun x => fitB key m x.pl
theorem noFit_filter {key : ByteArray} {m : List Fld} {xs : List Ce} (hk : (xs.map (·.n)).Nodup) : (xs.map (·.n)).filter (fun n => !noFit key m xs n) = (fitsC key m xs).map (·.n) := by
 unfold fitsC
 rw [List.filter_map]
 congr 1
 refine List.filter_congr fun x hx => ?_
 show (!noFit key m xs x.n) = _
 rw [noFit_at hk hx, Bool.not_not]
set_option maxHeartbeats 2000000 in
theorem fits_any (n0 : Lim) (M made : Nat) (A : Ad) (room : Int) (xs : List Ce) (key : ByteArray) (u : Value) (m : List Fld) (w : World) (h : CaS w n0 A room M xs made) (hm : made ≤ 9223372036854775807) (hM : M ≤ 4398046511104) (hu : SlR w e_ss u m) (hwm : Vy.wt m ≤ 4398046511104) :
  Calls Tryz.prog 30 #[ptr A.c, .string key, u] w fun e w' => (∃ v, e = .returned v ∧ Owns w' w.heap.size 9 1 Go.Proofs.YtgnblkmpoigejaaGreatDoor.es v ((fitsC key m xs).map (·.n))) ∧ Below w.heap.size w w' := by
 obtain ⟨Au, cu, rfl, hcu⟩ := hu.form
 have hb3 : Below w.heap.size w (((w.alloc (.cells #[ptr A.c] 30)).alloc (.cells #[.string key] 9)).alloc (.cells #[.slice Au m.length cu] 23)) := (((Below.refl _ w).alloc (Nat.le_refl _) _).alloc (by simp) _).alloc (by simp; omega) _
 have hS3 := h.below hb3
 have hu3 := hu.below hb3
 obtain ⟨ns, hrow, hkv⟩ := hS3.row
 have HK := Lib.hid (keys_any n0 A.pr A.cr A.mr room ns _ hrow)
 rw [kv_names hkv] at HK
 have p1 := hS3.t.blk.cell 1
 have HB3 := Lib.hid hb3
 have hcap : Caps (((w.alloc (.cells #[ptr A.c] 30)).alloc (.cells #[.string key] 9)).alloc (.cells #[.slice Au m.length cu] 23)) w.heap.size (w.heap.size + 1) (w.heap.size + 1 + 1) A.c key (.slice Au m.length cu) := ⟨by go_simp, by go_simp, by go_simp, by simp; omega, by simp, by simp⟩
 have HF : Hid (FitsP (((w.alloc (.cells #[ptr A.c] 30)).alloc (.cells #[.string key] 9)).alloc (.cells #[.slice Au m.length cu] 23)) w.heap.size (w.heap.size + 1) (w.heap.size + 1 + 1) (xs.map (·.n)) (noFit key m xs)) := by
  intro W hb n hn
  obtain ⟨x, hx, rfl⟩ := List.mem_map.1 hn
  rw [noFit_at h.t.kd hx]
  exact fits1_any n0 M made A room xs x key _ m _ _ _ W (hS3.t.below hb) hm hM hx (hcap.below hb) (hu3.below hb) hwm
 have HN := Lib.hid (noFit_filter (key := key) (m := m) h.t.kd)
 have HL : Hid ((xs.map (·.n)).length ≤ 20) := by rw [List.length_map]; exact h.t.len
 have q0 := hcap.c3
 clear h hu hS3 hu3 hrow hkv hb3
 go_enter Tryz.func30, Tryz.ntmps30
 go_wp2_with fail
 generalize (((w.alloc (.cells #[ptr A.c] 30)).alloc (.cells #[.string key] 9)).alloc (.cells #[.slice Au m.length cu] 23)) = w3 at *
 refine HK.out.mono ?_
 rintro e w4 ⟨v, rfl, ho, b4⟩
 have r0 := (b4.cell hcap.l3).trans q0
 have r1 := (hcap.below b4).c4
 have r2 := (hcap.below b4).c5
 have HO := Lib.hid ho
 clear ho p1 q0
 go_wp2_with fail
 refine (deleteN_any w3 w.heap.size (w.heap.size + 1) (w.heap.size + 1 + 1) (noFit key m xs) v _ w3.heap.size w4 HF.out b4 (Nat.le_refl _) HO.out (by have := HL.out; omega)).mono ?_
 rintro e w5 ⟨⟨v5, rfl, o5⟩, hg⟩
 rw [HN.out] at o5
 go_wp2_with fail
 go_ret
 exact ⟨⟨_, rfl, o5.mono HB3.out.size⟩, (HB3.out.trans (b4.mono HB3.out.size)).grown hg (Nat.le_trans HB3.out.size b4.size) (fun k hk => Nat.le_trans HB3.out.size (HO.out.lt k hk).1)⟩
end Ca
set_option maxRecDepth 20000
namespace Ca
open Bk
theorem chunks_split {a b : List Ce} {x : Ce} : (chunksC (a ++ x :: b)).Perm (cutB x.h.bd ++ chunksC (a ++ b)) := by
 have e : chunksC (a ++ x :: b) = chunksC a ++ (cutB x.h.bd ++ chunksC b) := by rw [chunksC_app]; rfl
 rw [e, chunksC_app]
 exact List.perm_append_comm_assoc _ _ _
theorem CaT.cl {w : World} {n0 : Lim} {M made : Nat} {A : Ad} {room : Int} {xs : List Ce} (h : CaT w n0 A room M xs made) : (chunksC xs).length ≤ 6260 := by
 have : ∀ xs : List Ce, (∀ x ∈ xs, x.h.bd.size ≤ 5000) → (chunksC xs).length ≤ 313 * xs.length := by
  intro xs
  induction xs with
  | nil => intro _; simp [chunksC]
  | cons x l ih =>
   intro h
   have h1 := ih (fun y hy => h y (List.mem_cons_of_mem _ hy))
   have h2 := cutB_len16 (h x (by simp))
   have e : chunksC (x :: l) = cutB x.h.bd ++ chunksC l := rfl
   rw [e, List.length_append, List.length_cons]
   omega
 have h1 := this xs (fun x hx => (h.ent x hx).bd)
 have h2 := h.len
 omega
theorem without_kv {a b : List Ce} {x : Ce} (hk : ((a ++ x :: b).map (·.n)).Nodup) : withoutK ((a ++ x :: b).map fun x => kvE x.pl) x.n = (a ++ b).map fun x => kvE x.pl := by
 unfold withoutK
 rw [List.filter_map, List.filter_append]
 rw [List.map_append, List.map_cons, List.nodup_append] at hk
 obtain ⟨h1, h2, h3⟩ := hk
 have ha : a.filter ((fun y : Kv => !decide (y.1 = x.n)) ∘ fun x => kvE x.pl) = a := List.filter_eq_self.2 fun y hy => by
  have := h3 y.n (List.mem_map.2 ⟨y, hy, rfl⟩) x.n (by simp)
  simp [kvE, Ce.pl, this]
 have hb : b.filter ((fun y : Kv => !decide (y.1 = x.n)) ∘ fun x => kvE x.pl) = b := List.filter_eq_self.2 fun y hy => by
  have : y.n ≠ x.n := fun q => (List.nodup_cons.1 h2).1 (List.mem_map.2 ⟨y, hy, q⟩)
  simp [kvE, Ce.pl, this]
 rw [ha, List.filter_cons_of_neg (by simp [kvE, Ce.pl]), hb]
theorem _root_.Go.Proofs.YtgnblkmpoigejaaGreatDoor.RowS.kept_map {w w' : World} {n0 : Lim} {p c mb g : Nat} {room : Int} {ns : List Nd} {es ck} (h : RowS w n0 p room c mb ns) (hg : w.grownBy w' (some g)) (hm : w.heap[g]? = some (.map es ck)) (hne : mb ≠ g) : RowS w' n0 p room c mb ns := by
 have hb : ∀ {k : Nat} {t : TypeId} {cs : Array Value}, Blk w k t cs → some k ≠ some g := fun hb e => by
  injection e with e
  subst e
  unfold Blk at hb
  rw [hm] at hb
  cases hb
 refine ⟨Blk.keptR h.blk hg (hb h.blk), h.p0, h.ch.kept hg ?_ (fun e => by injection e with e; exact hne e.symm.symm) (fun x hx => ?_), h.rm, h.sz, h.us, h.ks⟩
 ·obtain ⟨_, _, hr⟩ := h.ch.root
  exact hb hr
 ·obtain ⟨_, _, hn⟩ := h.ch.node x hx
  exact hb hn
set_option maxHeartbeats 2000000 in
theorem gone_any (n0 : Lim) (M made : Nat) (A : Ad) (room : Int) (a b : List Ce) (x : Ce) (w : World) (h : CaS w n0 A room M (a ++ x :: b) made) (hm : made ≤ 9223372036854775807) :
  Calls Tryz.prog 31 #[ptr A.c, .string x.n] w fun e w' => e = .returned (.tuple #[]) ∧ CaS w' n0 A room M (a ++ b) made ∧ RM GT A.ms n0 w w' := by
 have hxm : x ∈ a ++ x :: b := by simp
 obtain ⟨ns, hrow, hkv⟩ := h.row
 have hz := h.t.nz hm x hxm
 have p1 := h.t.blk.cell 1
 have HD := Lib.hid (dropR_kv n0 A.pr A.cr A.mr room ns x.n w hrow hz)
 have HT := Lib.hid h.t
 have HW := Lib.hid (without_kv (a := a) (b := b) (x := x) h.t.kd)
 have HKV := Lib.hid hkv
 have hn0 := h.n0w
 clear h hrow hkv
 go_enter Tryz.func31, Tryz.ntmps31
 go_wp2_with fail
 refine HD.out.mono ?_
 rintro e w1 ⟨⟨q, rfl⟩, ns', hrow1, hkv1, rg1⟩
 have HT1 := Lib.hid (HT.out.row rg1)
 have HR1 := Lib.hid hrow1
 have HG1 := Lib.hid rg1
 have HK1 : Hid (kv ns' = (a ++ b).map fun x => kvE x.pl) := by show _ = _; rw [hkv1, HKV.out, HW.out]
 obtain ⟨es, cs, hpv, hperm⟩ := HT1.out.pile
 have HPV := Lib.hid hpv
 have hn1 : n0.lo ≤ w1.heap.size := Nat.le_trans hn0 rg1.size
 have HE := HT1.out.ent x hxm
 have HDp := Lib.hid (dropP_pv n0 A.pp A.mp 1000000 es cs (chunksC (a ++ b) ++ A.ex) x.h.bd x.pv)
 have HPM : Hid (cs.Perm (cutB x.h.bd ++ (chunksC (a ++ b) ++ A.ex))) := hperm.trans ((chunks_split.append_right _).trans (by rw [List.append_assoc]))
 have hcl : cs.length ≤ 4611686018427387904 := by have h1 := HT1.out.cl; have h2 := hperm.length_eq; have h3 := HT1.out.exl; rw [List.length_append] at h2; omega
 have HX := Lib.hid (fun (w' : World) (hb : Below w1.heap.size w1 w') => (HT1.out.below hb))
 clear hrow1 rg1 hkv1 hpv hperm p1
 go_wp2_with fail
 refine wp_region_effs [(true, 0), (true, 1), (true, 2), (true, 3), (true, 4), (true, 5), (true, 6), (true, 7), (true, 8), (true, 9), (true, 10), (true, 11), (true, 12), (false, 13)] 13 (fun w' => Below w1.heap.size w1 w') (by kernel_rfl) (by kernel_rfl) (fun _ _ _ _ _ h => h) (by kernel_rfl) (by kernel_rfl) ?_ ?_
 ·exact (Below.refl _ _).drew
 iterate 13 (first | (apply seqN_skip; (focus (simp only [List.getElem?_toArray, List.getElem?_cons_succ, List.getElem?_cons_zero]; rfl)); (focus rfl); simp only [Act.put, List.setIfInBounds_toArray, List.set_cons_zero, List.set_cons_succ]) | (apply seqN_pure; (focus (simp only [List.getElem?_toArray, List.getElem?_cons_succ, List.getElem?_cons_zero]; rfl)); (focus rfl); (focus (intro w'; first | (go_simp; rfl) | (go_simp; done))); simp only [Act.put, List.setIfInBounds_toArray, List.set_cons_zero, List.set_cons_succ]) | (apply seqN_take; (focus (simp only [List.getElem?_toArray, List.getElem?_cons_succ, List.getElem?_cons_zero]; rfl)); (focus kernel_rfl); (focus rfl); (focus (intro w' hS; have hT := HX.out _ hS; have c2 := hT.blk.cell 2; have c3 := hT.blk.cell 3; have hlk := hT.look hm hxm; have x12 := (hT.ent x hxm).blk.cell 12; first | (go_simp; rfl) | (go_simp; done))); simp only [Act.put, List.setIfInBounds_toArray, List.set_cons_zero, List.set_cons_succ]))
 apply seqN_eff
 (focus (simp only [List.getElem?_toArray, List.getElem?_cons_succ, List.getElem?_cons_zero]; rfl))
 (focus rfl)
 intro K hK
 go_simp
 refine (HDp.out w1.drew ⟨HPV.out.st.drew, HPV.out.rep⟩ HE.bd HPM.out hcl (SlR.of_owns HE.pv)).mono ?_
 rintro e w2 ⟨rfl, rg2, es', hpv2⟩
 refine hK _ _ ⟨fun h => absurd h (by decide), ?_⟩
 clear hK K
 refine seqN_nil ?_
 have rg2' : RG RP A.mp n0 w1 w2 := (RG.refl _ _ _ w1).drew.trans rg2
 have HG2 := Lib.hid rg2'
 have HP2 := Lib.hid hpv2
 have hb2 := Blk.rgX HT1.out.blk rg2' rfl
 have c3 := hb2.cell 3
 have hm2 := MapS.rgX HT1.out.mp rg2' HT1.out.ne.2.2.symm
 have HM2 := Lib.hid hm2
 clear rg2 rg2' hpv2 hb2
 go_wp2_with (refine wpList_del rfl (.tmp 27) (.tmp 28) rfl rfl HM2.out Tryz.underlying9 Tryz.underlying74 x.n rfl hz ?_; intro w3 hm3 hg3)
 go_end0
 have hT3 := CaT.del HT1.out HG2.out HP2.out (List.Perm.refl _) hm3 hg3 HM2.out.isMapObj
 obtain ⟨ems, eck, hmo⟩ := HM2.out.isMapObj
 have hR2 := RowS.rg HR1.out HG2.out HT1.out.ne.1
 refine ⟨rfl, ⟨hT3, ns', hR2.kept_map hg3 hmo HT1.out.ne.2.1, HK1.out⟩, ((RM.of_rg HG1.out gt_ry (by simp [Ad.ms])).trans (RM.of_rg HG2.out gt_rp (by simp [Ad.ms]))).grown hg3 (Nat.le_trans hn1 HG2.out.size) (fun k hk => ?_)⟩
 cases hk
 exact ⟨HT1.out.b0.2.1, _, hmo, by simp [okM, Ad.ms]⟩
end Ca
set_option maxRecDepth 20000
namespace Ca
open Bk
def hZ : Array Value := #[.string ⟨#[]⟩, .string ⟨#[]⟩, .slice none 0 0, .string ⟨#[]⟩, .int .i64 0, .string ⟨#[]⟩, .slice none 0 0, .string ⟨#[]⟩, .int .i64 0, .int .i64 0, .int .i64 0]
def hdC (x : Ce) (u v : Value) : Array Value := #[.string x.h.rm, .string x.h.rt, u, .string x.h.rb, .int .i64 x.h.code, .string x.h.rs, v, .string x.h.bd, .int .i64 x.h.asked, .int .i64 x.h.came, .int .i64 x.h.mark]
def RetH (base : Nat) (x : Ce) (e : Ending) (w' : World) : Prop := ∃ u v, e = .returned (.agg (hdC x u v)) ∧ Owns w' base 57 2 e_ss u x.l ∧ Owns w' base 57 2 e_ss v x.k
theorem blk_set4 {w : World} {g o : Nat} {t : TypeId} {cs : Array Value} (h : Blk w g t cs) (a b c d : Value) :
  Blk (w.setCells g o [a, b, c, d]) g t ((((cs.setIfInBounds o a).setIfInBounds (o + 1) b).setIfInBounds (o + 1 + 1) c).setIfInBounds (o + 1 + 1 + 1) d) :=
 (((h.set_ o a).set_ (o + 1) b).set_ (o + 1 + 1) c).set_ (o + 1 + 1 + 1) d
theorem gr_set4 (w : World) (g o : Nat) (a b c d : Value) : w.grownBy (w.setCells g o [a, b, c, d]) (some g) :=
 gr_trans (gr_trans (gr_trans (gcell w ⟨g, o, none⟩ a) (gcell _ ⟨g, o + 1, none⟩ b)) (gcell _ ⟨g, o + 1 + 1, none⟩ c)) (gcell _ ⟨g, o + 1 + 1 + 1, none⟩ d)
theorem blk_there {w : World} {g : Nat} {t : TypeId} {cs : Array Value} (h : Blk w g t cs) (o n : Nat) (hn : o + n ≤ cs.size) : w.there g o n := fun j hj => ⟨by rw [h.cell (o + j), Array.getElem?_eq_getElem (by omega)]; rfl, h.frozen (o + j)⟩
set_option maxHeartbeats 4000000 in
theorem held_any (n0 : Lim) (M made : Nat) (A : Ad) (room : Int) (xs : List Ce) (x : Ce) (w : World) (h : CaT w n0 A room M xs made) (hx : x ∈ xs) (hM : M ≤ 4398046511104) :
  Calls Tryz.prog 41 #[ptr A.c, ptr x.b] w fun e w' => RetH w.heap.size x e w' ∧ Below w.heap.size w w' := by
 have hE := h.ent x hx
 have hl1 : x.l.length * 32 ≤ 140737488355328 := by have := Fr.wt_len x.l; have := hE.wl; omega
 have hl2 : x.k.length * 32 ≤ 140737488355328 := by have := Fr.wt_len x.k; have := hE.wk; omega
 obtain ⟨Au, cu, hu, -⟩ := (SlR.of_owns hE.rf).form
 obtain ⟨Av, cv, hv, -⟩ := (SlR.of_owns hE.u).form
 obtain ⟨h0, hh0⟩ : ∃ h0 : Array Value, h0 = #[.string x.h.rm, .string x.h.rt, .slice Au x.l.length cu, .string x.h.rb, .int .i64 x.h.code, .string x.h.rs, .slice Av x.k.length cv, .string ⟨#[]⟩, .int .i64 x.h.asked, .int .i64 x.h.came, .int .i64 x.h.mark] := ⟨_, rfl⟩
 have hA2 : Below w.heap.size w ((w.alloc (.cells hZ 29)).alloc (.cells h0 29)) := ((Below.refl _ w).alloc (Nat.le_refl _) _).alloc (by simp) _
 have hcells : (w.alloc (.cells hZ 29)).rangeAt x.b 0 h0.toList := by
  have hb := (hE.blk.alloc (.cells hZ 29))
  have := World.rangeAt_of_block (w := w.alloc (.cells hZ 29)) hb 0 11
  rw [hh0, ← hu, ← hv]
  exact this
 have hst : (storeCells ⟨w.heap.size + 1, 0, none⟩ h0.toList).run Tryz.prog ((w.alloc (.cells hZ 29)).alloc (.cells hZ 29)) = .ok () ((w.alloc (.cells hZ 29)).alloc (.cells h0 29)) := by
  subst hh0
  have := run_storeCells_new (P := Tryz.prog) (w.alloc (.cells hZ 29)) 29 hZ #[.string x.h.rm, .string x.h.rt, .slice Au x.l.length cu, .string x.h.rb, .int .i64 x.h.code, .string x.h.rs, .slice Av x.k.length cv, .string ⟨#[]⟩, .int .i64 x.h.asked, .int .i64 x.h.came, .int .i64 x.h.mark] (by kernel_rfl) (by simp [hZ]) (by simp [Value.oneCell'])
  rwa [World.size_alloc] at this
 have hB1 : Blk ((w.alloc (.cells hZ 29)).alloc (.cells h0 29)) w.heap.size 29 hZ := (Blk.new w _ _).alloc _
 have hB2 : Blk ((w.alloc (.cells hZ 29)).alloc (.cells h0 29)) (w.heap.size + 1) 29 h0 := by
  have := Blk.new (w.alloc (.cells hZ 29)) 29 h0
  rwa [World.size_alloc] at this
 have HT2 := Lib.hid (h.below hA2)
 have HT0 := Lib.hid h
 have HX : Hid (x ∈ xs) := hx
 subst hh0
 unfold hZ at *
 clear h hx
 go_enter Tryz.func41, Tryz.ntmps41
 go_wp2_with (first
  | refine wpList_load_mid rfl 29 (.tmp 8) rfl x.b 0 rfl _ _ hcells Tryz.underlying29 rfl (by kernel_rfl) ?_)
 clear hst hcells
 generalize ((w.alloc _).alloc _) = w2 at *
 have HU := Lib.hid (SlR.of_owns (HT2.out.ent x HX.out).rf)
 have HV := Lib.hid (SlR.of_owns (HT2.out.ent x HX.out).u)
 rw [hu] at HU
 rw [hv] at HV
 refine wp_region_effs [(true, 0), (true, 1), (true, 3), (true, 4), (false, 2), (true, 6), (false, 5), (false, 7), (true, 8), (false, 9)] 7 (fun w' => Below w2.heap.size w2 w') (by kernel_rfl) (by kernel_rfl) (fun _ _ _ _ _ h => h) (by kernel_rfl) (by kernel_rfl) ?_ ?_
 ·exact (Below.refl _ _).drew
 iterate 4 (first | (apply seqN_skip; (focus (simp only [List.getElem?_toArray, List.getElem?_cons_succ, List.getElem?_cons_zero]; rfl)); (focus rfl); simp only [Act.put, List.setIfInBounds_toArray, List.set_cons_zero, List.set_cons_succ]) | (apply seqN_pure; (focus (simp only [List.getElem?_toArray, List.getElem?_cons_succ, List.getElem?_cons_zero]; rfl)); (focus rfl); (focus (intro w'; first | (go_simp; rfl) | (go_simp; done))); simp only [Act.put, List.setIfInBounds_toArray, List.set_cons_zero, List.set_cons_succ]) | (apply seqN_take; (focus (simp only [List.getElem?_toArray, List.getElem?_cons_succ, List.getElem?_cons_zero]; rfl)); (focus kernel_rfl); (focus rfl); (focus (intro w' hS; have hb := hB2.below hS hB2.lt; have c0 := hb.cell 0; have c1 := hb.cell 1; have c2 := hb.cell 2; have c3 := hb.cell 3; have c4 := hb.cell 4; have c5 := hb.cell 5; have c6 := hb.cell 6; have c7 := hb.cell 7; first | (go_simp; rfl) | (go_simp; done))); simp only [Act.put, List.setIfInBounds_toArray, List.set_cons_zero, List.set_cons_succ]))
 apply seqN_eff
 (focus (simp only [List.getElem?_toArray, List.getElem?_cons_succ, List.getElem?_cons_zero]; rfl))
 (focus rfl)
 intro K hK
 go_simp
 refine (copyRq_any x.h.rm x.h.rt _ x.h.rb x.l w2.drew (HU.out.below (Below.refl _ _).drew) hl1).mono ?_
 rintro e w3 ⟨⟨v3, rfl, o3⟩, b3⟩
 have B3 : Below w2.heap.size w2 w3 := (Below.refl _ _).drew.trans b3
 obtain ⟨A3, c3, rfl, -⟩ := (SlR.of_owns o3).form
 refine hK _ _ ⟨fun _ => B3, ?_⟩
 clear hK K
 iterate 1 (first | (apply seqN_skip; (focus (simp only [List.getElem?_toArray, List.getElem?_cons_succ, List.getElem?_cons_zero]; rfl)); (focus rfl); simp only [Act.put, List.setIfInBounds_toArray, List.set_cons_zero, List.set_cons_succ]) | (apply seqN_pure; (focus (simp only [List.getElem?_toArray, List.getElem?_cons_succ, List.getElem?_cons_zero]; rfl)); (focus rfl); (focus (intro w'; first | (go_simp; rfl) | (go_simp; done))); simp only [Act.put, List.setIfInBounds_toArray, List.set_cons_zero, List.set_cons_succ]) | (apply seqN_take; (focus (simp only [List.getElem?_toArray, List.getElem?_cons_succ, List.getElem?_cons_zero]; rfl)); (focus kernel_rfl); (focus rfl); (focus (intro w' hS; skip; first | (go_simp; rfl) | (go_simp; done))); simp only [Act.put, List.setIfInBounds_toArray, List.set_cons_zero, List.set_cons_succ]))
 apply seqN_eff
 (focus (simp only [List.getElem?_toArray, List.getElem?_cons_succ, List.getElem?_cons_zero]; rfl))
 (focus rfl)
 intro K hK
 go_simp
 refine (copyRs_any x.h.code x.h.rs _ ⟨#[]⟩ x.k w3 (HV.out.below B3) hl2).mono ?_
 rintro e w4 ⟨⟨v4, rfl, o4⟩, b4⟩
 have B4 : Below w2.heap.size w2 w4 := B3.trans (b4.mono B3.size)
 obtain ⟨A4, c4, rfl, -⟩ := (SlR.of_owns o4).form
 refine hK _ _ ⟨fun _ => B4, ?_⟩
 clear hK K
 have hB24 := hB2.below B4 hB2.lt
 have hB14 := hB1.below B4 hB1.lt
 have O3 : Owns w4 w2.heap.size 57 2 e_ss (.slice A3 x.l.length c3) x.l := (o3.mono (Nat.le_of_eq rfl)).below b4
 have O4 : Owns w4 w2.heap.size 57 2 e_ss (.slice A4 x.k.length c4) x.k := o4.mono B3.size
 have hT4 := HT2.out.below B4
 clear b3 b4 o3 o4 hB1 hB2 B3
 apply seqN_eff
 (focus (simp only [List.getElem?_toArray, List.getElem?_cons_succ, List.getElem?_cons_zero]; rfl))
 (focus rfl)
 intro K hK
 refine wp_store_mid 25 (.tmp 16) (.tmp 12) rfl (w.heap.size + 1) 0 #[.string x.h.rm, .string x.h.rt, .slice A3 x.l.length c3, .string x.h.rb] rfl rfl (blk_there hB24 0 4 (by simp)) (by kernel_rfl) (by kernel_rfl) ?_
 refine hK _ _ ⟨fun h => absurd h (by decide), ?_⟩
 clear hK K
 have g5 := gr_set4 w4 (w.heap.size + 1) 0 (.string x.h.rm) (.string x.h.rt) (.slice A3 x.l.length c3) (.string x.h.rb)
 have hB25 := blk_set4 (o := 0) hB24 (.string x.h.rm) (.string x.h.rt) (.slice A3 x.l.length c3) (.string x.h.rb)
 have hB15 := Blk.keptR hB14 g5 (by simp)
 have O35 := O3.grownOther g5 (ownNe O3 hB24 (by decide))
 have O45 := O4.grownOther g5 (ownNe O4 hB24 (by decide))
 iterate 1 (first | (apply seqN_skip; (focus (simp only [List.getElem?_toArray, List.getElem?_cons_succ, List.getElem?_cons_zero]; rfl)); (focus rfl); simp only [Act.put, List.setIfInBounds_toArray, List.set_cons_zero, List.set_cons_succ]) | (apply seqN_pure; (focus (simp only [List.getElem?_toArray, List.getElem?_cons_succ, List.getElem?_cons_zero]; rfl)); (focus rfl); (focus (intro w'; first | (go_simp; rfl) | (go_simp; done))); simp only [Act.put, List.setIfInBounds_toArray, List.set_cons_zero, List.set_cons_succ]) | (apply seqN_take; (focus (simp only [List.getElem?_toArray, List.getElem?_cons_succ, List.getElem?_cons_zero]; rfl)); (focus kernel_rfl); (focus rfl); (focus (intro w' hS; skip; first | (go_simp; rfl) | (go_simp; done))); simp only [Act.put, List.setIfInBounds_toArray, List.set_cons_zero, List.set_cons_succ]))
 apply seqN_eff
 (focus (simp only [List.getElem?_toArray, List.getElem?_cons_succ, List.getElem?_cons_zero]; rfl))
 (focus rfl)
 intro K hK
 refine wp_store_mid 27 (.tmp 17) (.tmp 15) rfl (w.heap.size + 1) 4 #[.int .i64 x.h.code, .string x.h.rs, .slice A4 x.k.length c4, .string ⟨#[]⟩] rfl rfl (blk_there hB25 4 4 (by simp)) (by kernel_rfl) (by kernel_rfl) ?_
 refine hK _ _ ⟨fun h => absurd h (by decide), ?_⟩
 clear hK K
 have g6 := gr_set4 (w4.setCells (w.heap.size + 1) 0 [.string x.h.rm, .string x.h.rt, .slice A3 x.l.length c3, .string x.h.rb]) (w.heap.size + 1) 4 (.int .i64 x.h.code) (.string x.h.rs) (.slice A4 x.k.length c4) (.string ⟨#[]⟩)
 have hB26 : Blk _ (w.heap.size + 1) 29 #[.string x.h.rm, .string x.h.rt, .slice A3 x.l.length c3, .string x.h.rb, .int .i64 x.h.code, .string x.h.rs, .slice A4 x.k.length c4, .string ⟨#[]⟩, .int .i64 x.h.asked, .int .i64 x.h.came, .int .i64 x.h.mark] := blk_set4 (o := 4) hB25 (.int .i64 x.h.code) (.string x.h.rs) (.slice A4 x.k.length c4) (.string ⟨#[]⟩)
 have hB16 := Blk.keptR hB15 g6 (by simp)
 have O36 := O35.grownOther g6 (ownNe O35 hB25 (by decide))
 have O46 := O45.grownOther g6 (ownNe O45 hB25 (by decide))
 refine seqN_nil ?_
 simp only [Array.toList]
 have hn4 : w.heap.size ≤ w4.heap.size := by have := hA2.size; have := B4.size; omega
 have BW6 := ((hA2.trans (B4.mono hA2.size)).grown g5 hn4 (fun k hk => by cases hk; omega)).grown g6 (Nat.le_trans hn4 g5.size) (fun k hk => by cases hk; omega)
 have g56 := gr_trans g5 g6
 have hz4 : w.heap.size + 1 < w4.heap.size := hB24.lt
 clear O3 O4 O35 O45 hB14 hB24 hB15 hB25 g5 g6 B4
 generalize (w4.setCells _ _ _).setCells _ _ _ = w6 at *
 have HT6 := Lib.hid (HT0.out.below BW6)
 have HE6 := Lib.hid (HT6.out.ent x HX.out)
 obtain ⟨es, cs, hpv, hperm⟩ := HT6.out.pile
 have HG := Lib.hid (getP_pv n0 A.pp A.mp 1000000 es cs x.h.bd x.pv w6.drew ⟨hpv.st.drew, hpv.rep⟩ HE6.out.bd (fun t ht => hperm.mem_iff.2 (List.mem_append_left _ (List.mem_flatMap.2 ⟨x, HX.out, ht⟩))) ((SlR.of_owns HE6.out.pv).below (Below.refl _ _).drew))
 clear hpv hperm hT4
 go_wp2_with fail
 refine wp_region_effs [(true, 0), (true, 1), (true, 2), (true, 3), (true, 4), (true, 5), (true, 6), (true, 7), (false, 8), (true, 9), (true, 10), (true, 11), (true, 12), (true, 13), (false, 14)] 8 (fun w' => Below w6.heap.size w6 w') (by kernel_rfl) (by kernel_rfl) (fun _ _ _ _ _ h => h) (by kernel_rfl) (by kernel_rfl) ?_ ?_
 ·exact (Below.refl _ _).drew
 iterate 8 (first | (apply seqN_skip; (focus (simp only [List.getElem?_toArray, List.getElem?_cons_succ, List.getElem?_cons_zero]; rfl)); (focus rfl); simp only [Act.put, List.setIfInBounds_toArray, List.set_cons_zero, List.set_cons_succ]) | (apply seqN_pure; (focus (simp only [List.getElem?_toArray, List.getElem?_cons_succ, List.getElem?_cons_zero]; rfl)); (focus rfl); (focus (intro w'; first | (go_simp; rfl) | (go_simp; done))); simp only [Act.put, List.setIfInBounds_toArray, List.set_cons_zero, List.set_cons_succ]) | (apply seqN_take; (focus (simp only [List.getElem?_toArray, List.getElem?_cons_succ, List.getElem?_cons_zero]; rfl)); (focus kernel_rfl); (focus rfl); (focus (intro w' hS; have hT := HT6.out.below hS; have c2 := hT.blk.cell 2; have x12 := (hT.ent x HX.out).blk.cell 12; first | (go_simp; rfl) | (go_simp; done))); simp only [Act.put, List.setIfInBounds_toArray, List.set_cons_zero, List.set_cons_succ]))
 apply seqN_eff
 (focus (simp only [List.getElem?_toArray, List.getElem?_cons_succ, List.getElem?_cons_zero]; rfl))
 (focus rfl)
 intro K hK
 go_simp
 refine HG.out.mono ?_
 rintro e w7 ⟨rfl, b7⟩
 have B7 : Below w6.heap.size w6 w7 := (Below.refl _ _).drew.trans b7
 refine hK _ _ ⟨fun h => absurd h (by decide), ?_⟩
 clear hK K
 have hB27 := hB26.below B7 hB26.lt
 have hB17 := hB16.below B7 hB16.lt
 have O37 := O36.below B7
 have O47 := O46.below B7
 have hn7 := B7.size
 have hn6 := BW6.size
 have BW7 := BW6.trans (B7.mono hn6)
 clear b7 B7 hB26 hB16 O36 O46 HG
 iterate 5 (first | (apply seqN_skip; (focus (simp only [List.getElem?_toArray, List.getElem?_cons_succ, List.getElem?_cons_zero]; rfl)); (focus rfl); simp only [Act.put, List.setIfInBounds_toArray, List.set_cons_zero, List.set_cons_succ]) | (apply seqN_pure; (focus (simp only [List.getElem?_toArray, List.getElem?_cons_succ, List.getElem?_cons_zero]; rfl)); (focus rfl); (focus (intro w'; first | (go_simp; rfl) | (go_simp; done))); simp only [Act.put, List.setIfInBounds_toArray, List.set_cons_zero, List.set_cons_succ]) | (apply seqN_take; (focus (simp only [List.getElem?_toArray, List.getElem?_cons_succ, List.getElem?_cons_zero]; rfl)); (focus kernel_rfl); (focus rfl); (focus (intro w' hS; skip; first | (go_simp; rfl) | (go_simp; done))); simp only [Act.put, List.setIfInBounds_toArray, List.set_cons_zero, List.set_cons_succ]))
 apply seqN_eff
 (focus (simp only [List.getElem?_toArray, List.getElem?_cons_succ, List.getElem?_cons_zero]; rfl))
 (focus rfl)
 intro K hK
 have k7 := hB27.cell 7
 have f7 := hB27.frozen 7
 go_simp
 refine hK _ _ ⟨fun h => absurd h (by decide), ?_⟩
 clear hK K
 refine seqN_nil ?_
 have g8 := gcell w7 ⟨w.heap.size + 1, 7, none⟩ (.string x.h.bd)
 have hB28 : Blk _ (w.heap.size + 1) 29 #[.string x.h.rm, .string x.h.rt, .slice A3 x.l.length c3, .string x.h.rb, .int .i64 x.h.code, .string x.h.rs, .slice A4 x.k.length c4, .string x.h.bd, .int .i64 x.h.asked, .int .i64 x.h.came, .int .i64 x.h.mark] := hB27.set_ 7 (.string x.h.bd)
 have hB18 := Blk.keptR hB17 g8 (by simp)
 have O38 := O37.grownOther g8 (ownNe O37 hB27 (by decide))
 have O48 := O47.grownOther g8 (ownNe O47 hB27 (by decide))
 have BW8 := BW7.grown g8 BW7.size (fun k hk => by cases hk; exact Nat.le_succ _)
 clear O37 O47 hB17 hB27 BW7 k7 f7 g8
 generalize w7.setCell _ _ = w8 at *
 go_wp2_with (first
  | refine wpList_load_row rfl 29 (.tmp 5) rfl (w.heap.size + 1) rfl 29 _ (0, 0) _ hB28 Tryz.underlying29 rfl (by kernel_rfl) ?_
  | refine wpList_store_row rfl _ _ _ rfl w.heap.size _ rfl rfl 29 _ hB18 (by kernel_rfl) (by kernel_rfl) (by kernel_rfl) ?_)
 have HOa := (O38.grownOther (gsetRow w8 w.heap.size #[.string x.h.rm, .string x.h.rt, .slice A3 x.l.length c3, .string x.h.rb, .int .i64 x.h.code, .string x.h.rs, .slice A4 x.k.length c4, .string x.h.bd, .int .i64 x.h.asked, .int .i64 x.h.came, .int .i64 x.h.mark]) (ownNe O38 hB18 (by decide))).mono (base' := w.heap.size) (by have := hA2.size; omega)
 have HOb := (O48.grownOther (gsetRow w8 w.heap.size #[.string x.h.rm, .string x.h.rt, .slice A3 x.l.length c3, .string x.h.rb, .int .i64 x.h.code, .string x.h.rs, .slice A4 x.k.length c4, .string x.h.bd, .int .i64 x.h.asked, .int .i64 x.h.came, .int .i64 x.h.mark]) (ownNe O48 hB18 (by decide))).mono (base' := w.heap.size) (by have := hA2.size; omega)
 have HBa := BW8.grown (gsetRow w8 w.heap.size #[.string x.h.rm, .string x.h.rt, .slice A3 x.l.length c3, .string x.h.rb, .int .i64 x.h.code, .string x.h.rs, .slice A4 x.k.length c4, .string x.h.bd, .int .i64 x.h.asked, .int .i64 x.h.came, .int .i64 x.h.mark]) BW8.size (fun k hk => by cases hk; exact Nat.le_refl _)
 exact bodyPost_ret (results_cell_row rfl _ _ w.heap.size _ _ (0, 0) _ (by kernel_rfl) (setRow_heap _ _ _ _ _ _ hB18) Tryz.underlying29 rfl (by kernel_rfl)) (by kernel_rfl) ⟨⟨_, _, rfl, HOa, HOb⟩, HBa⟩
end Ca
set_option maxRecDepth 20000
namespace Ca
open Bk
theorem heldInfo : ElemInfo Tryz.prog 29 (.agg hZ) 11 160 := by unfold ElemInfo; kernel_rfl
abbrev Ho := Ce × Value × Value
def e_ho (y : Ho) : List Value := (hdC y.1 y.2.1 y.2.2).toList
def HoOk (w : World) (base : Nat) (y : Ho) : Prop := Owns w base 57 2 e_ss y.2.1 y.1.l ∧ Owns w base 57 2 e_ss y.2.2 y.1.k
theorem HoOk.below {w w' : World} {base : Nat} {y : Ho} (h : HoOk w base y) (hb : Below w.heap.size w w') : HoOk w' base y := ⟨h.1.below hb, h.2.below hb⟩
theorem e_ho_one {w : World} {base : Nat} {y : Ho} (h : HoOk w base y) : ∀ u ∈ e_ho y, u.oneCell' = true := by
 obtain ⟨A1, c1, h1, -⟩ := (SlR.of_owns h.1).form
 obtain ⟨A2, c2, h2, -⟩ := (SlR.of_owns h.2).form
 obtain ⟨x, u, v⟩ := y
 dsimp only at h1 h2
 subst h1 h2
 simp [e_ho, hdC, Value.oneCell']
set_option maxHeartbeats 4000000 in
theorem all_any (n0 : Lim) (M made : Nat) (A : Ad) (room : Int) (xs : List Ce) (w : World) (h : CaS w n0 A room M xs made) (hm : made ≤ 9223372036854775807) (hM : M ≤ 4398046511104) :
  Calls Tryz.prog 19 #[ptr A.c] w fun e w' => (∃ v ys, e = .returned v ∧ Owns w' w.heap.size 29 11 e_ho v ys ∧ ys.map (·.1) = xs ∧ ∀ y ∈ ys, HoOk w' w.heap.size y) ∧ Below w.heap.size w w' := by
 obtain ⟨ns, hrow, hkv⟩ := h.row
 have HK := Lib.hid (keys_any n0 A.pr A.cr A.mr room ns w hrow)
 rw [kv_names hkv] at HK
 have p1 := h.t.blk.cell 1
 have HT := Lib.hid h.t
 have hl20 := h.t.len
 clear h hrow hkv
 go_enter Tryz.func19, Tryz.ntmps19
 go_wp2_with fail
 refine HK.out.mono ?_
 rintro e w1 ⟨v, rfl, ho, b1⟩
 have HO := Lib.hid ho
 have HX := Lib.hid (SlR.of_owns ho)
 have hfm : ∃ Av cv, v = .slice Av xs.length cv := by
  obtain ⟨Av, cv, he, -⟩ := (SlR.of_owns ho).form
  rw [List.length_map] at he
  exact ⟨Av, cv, he⟩
 obtain ⟨Av, cv, rfl⟩ := hfm
 have HB1 := Lib.hid b1
 clear ho p1 HK
 go_wp2_with fail
 go_loopw [3, 12] (fun o i wr => ∃ (k : Nat) (ys : List Ho), k ≤ xs.length ∧ i = .int .i64 k ∧ ys.map (·.1) = xs.take k ∧ Owns wr w1.heap.size 29 11 e_ho o ys ∧ (∀ y ∈ ys, HoOk wr w1.heap.size y) ∧ Below w1.heap.size w1 wr) (fun _ i _ => xs.length - (intOf i).toNat)
 case atStart => exact ⟨0, [], by omega, rfl, rfl, Owns.nil .., by simp, Below.refl _ _⟩
 case round =>
  obtain ⟨k, ys, hk, rfl, hys, hoo, hok, hb1⟩ := hrel
  have hbel := HB1.out.trans (hb1.mono HB1.out.size)
  have HYS := Lib.hid hys
  have HOK := Lib.hid hok
  have HOO := Lib.hid hoo
  have HBE := Lib.hid hbel
  have HB1' := Lib.hid hb1
  by_cases hlt : k < xs.length
  ·have hlt' : k < (xs.map (·.n)).length := by rw [List.length_map]; exact hlt
   obtain ⟨bb, off, c3, he, hcc, hbb, hcell⟩ := HX.out.texts (by omega)
   injection he with g1 g2 g3
   subst g1 g3
   have c0 := (hb1.cell (p := ⟨bb, off + k, none⟩) hbb).trans (hcell k hlt')
   rw [List.getElem_map] at c0
   have hxm := List.getElem_mem hlt
   have HTK : Hid (xs.take (k + 1) = xs.take k ++ [xs[k]]) := by show _ = _; rw [List.take_add_one, List.getElem?_eq_getElem hlt]; rfl
   generalize xs[k] = x at *
   have hT := HT.out.below hbel
   have c3 := hT.blk.cell 3
   have hlk := hT.look hm hxm
   have HH := Lib.hid (held_any n0 M made A room xs x wr hT hxm hM)
   have hyl : ys.length ≤ 20 := by have := congrArg List.length hys; rw [List.length_map, List.length_take] at this; omega
   obtain ⟨Ao, co, ho, -⟩ := (SlR.of_owns hoo).form
   subst ho
   clear hcell g2 hT hys hoo hok hbel hb1 hcc
   go_wp2_with fail
   refine HH.out.mono ?_
   rintro e w2 ⟨⟨u, v, rfl, hu, hv⟩, b2⟩
   have hok2 : HoOk w2 wr.heap.size (x, u, v) := ⟨hu, hv⟩
   have hone := e_ho_one hok2
   obtain ⟨A1, c1, rfl, -⟩ := (SlR.of_owns hu).form
   obtain ⟨A2, c2, rfl, -⟩ := (SlR.of_owns hv).form
   have B2 : Below w.heap.size w w2 := HBE.out.trans (b2.mono HBE.out.size)
   have B2' : Below w1.heap.size w1 w2 := HB1'.out.trans (b2.mono HB1'.out.size)
   have O2 := HOO.out.below b2
   have hsz2 := B2.size
   have hsz2' := B2'.size
   have hA3 := (Below.refl w2.heap.size w2).alloc (Nat.le_refl _) (.cells (hdC x (.slice A1 x.l.length c1) (.slice A2 x.k.length c2)) 29)
   have O3 := O2.alloc (.cells (hdC x (.slice A1 x.l.length c1) (.slice A2 x.k.length c2)) 29)
   have hok3 := hok2.below hA3
   have hoks3 : ∀ y ∈ ys, HoOk (w2.alloc (.cells (hdC x (.slice A1 x.l.length c1) (.slice A2 x.k.length c2)) 29)) w1.heap.size y := fun y hy => ((HOK.out y hy).below b2).below hA3
   unfold hdC at *
   go_wp2_with (at_builtin; refine wpList_append_owns rfl (.tmp 16) (.tmp 25) _ rfl w1.heap.size 29 (.agg hZ) 11 160 e_ho Tryz.underlying46 heldInfo (by kernel_rfl) (by decide) _ ys rfl O3 ⟨w2.heap.size, 0, none⟩ 1 1 [(x, .slice A1 x.l.length c1, .slice A2 x.k.length c2)] rfl rfl rfl (new_cells w2 (e_ho (x, .slice A1 x.l.length c1, .slice A2 x.k.length c2)) _) (by simpa using hone) (by simp only [maxLen]; omega) (by omega) (Nat.le_trans hsz2' (le_alloc _ _)) ?_; intro v4 w4 hown4 hg4)
   have hne : ∀ {α : Type} {b : Nat} {en : α → List Value} {s : Nat} {vv : Value} {l : List α}, Owns (w2.alloc (.cells (hdC x (.slice A1 x.l.length c1) (.slice A2 x.k.length c2)) 29)) b 57 s en vv l → Owns w4 b 57 s en vv l := fun ho => ho.grownOther hg4 (Owns.apart ho O3 (by decide))
   go_roundw
   case rel =>
    refine ⟨k + 1, ys ++ [(x, .slice A1 x.l.length c1, .slice A2 x.k.length c2)], by omega, by go_num, by rw [List.map_append, HYS.out, HTK.out]; rfl, hown4, fun y hy => ?_, ?_⟩
    ·rcases List.mem_append.1 hy with hy | hy
     ·exact ⟨hne (hoks3 y hy).1, hne (hoks3 y hy).2⟩
     ·rw [List.mem_singleton.1 hy]
      exact ⟨(hne hok3.1).mono HB1'.out.size, (hne hok3.2).mono HB1'.out.size⟩
    ·exact (B2'.alloc hsz2' _).grown hg4 (Nat.le_trans hsz2' (le_alloc _ _)) (fun j hj => (O3.lt j hj).1)
   case measure => simp [intOf]; omega
  ·obtain rfl : k = xs.length := by omega
   have hyx : ys.map (·.1) = xs := by rw [HYS.out, List.take_of_length_le (Nat.le_refl _)]
   go_wp2_with fail
   go_ret
   exact ⟨⟨_, ys, rfl, HOO.out.mono HB1.out.size, hyx, fun y hy => ⟨(HOK.out y hy).1.mono HB1.out.size, (HOK.out y hy).2.mono HB1.out.size⟩⟩, HBE.out⟩
end Ca
end Go.Proofs.YtgnblkmpoigejaaGreatDoor
