import Derived.Test.YtgjfhgcjiglfkaaGreatDoorD16
import Derived.Test.YtgjfhgcjiglfkaaGreatDoorD13
set_option linter.unusedVariables false
set_option linter.unusedSimpArgs false
namespace Go.Proofs.YtgjfhgcjiglfkaaGreatDoor
set_option maxRecDepth 20000
open Go.RowKit Go.Shelf
attribute [local go_sem] Oper.semAt_some
namespace Spw
open Spc
structure PX (R2 D : Nat) (rec : Loop) (pre : List (Int × Int)) (er : Int) (W : World) : Prop where
  out : ∃ o, Blk W (R2 + 2) 237 #[o] ∧ Owns W (D + 2) 321 2 e_ii o pre
  r2 : Blk W R2 237 #[.slice none 0 0]
  r3 : Blk W (R2 + 1) 48 #[.int .i64 er]
  ld : W.heap[D]? = some (.deferred (some []))
  lr : W.heap[D + 1]? = some (.loop rec)
  sz : D + 2 ≤ W.heap.size
  lt : R2 + 5 < D
section
variable {er : Int} {R2 D : Nat} {rec rec' : Loop} {pre : List (Int × Int)} {W W' : World}
theorem PX.grown {row : Option Nat} (h : PX R2 D rec pre er W) (hg : W.grownBy W' row) (h0 : ∀ k, row = some k → k ≠ R2 ∧ k ≠ R2 + 1 ∧ k ≠ R2 + 2 ∧ k < D) : PX R2 D rec pre er W' := by
  obtain ⟨o, h1, h2⟩ := h.out
  have hlt := h.lt
  have ne : ∀ k, (k = R2 ∨ k = R2 + 1 ∨ k = R2 + 2 ∨ D ≤ k) → some k ≠ row := fun k hk e => by
    obtain ⟨a, b, c, d⟩ := h0 k e.symm
    omega
  refine ⟨⟨o, h1.grown hg (ne _ (by simp)), h2.grownOther hg ?_⟩, h.r2.grown hg (ne _ (by simp)), h.r3.grown hg (ne _ (by simp)), (hg.block _ (ltW h.ld) (ne _ (by omega))).trans h.ld, (hg.block _ (ltW h.lr) (ne _ (by omega))).trans h.lr, Nat.le_trans h.sz hg.size, hlt⟩
  cases hv : o.ownBlock with
  | none => exact .inl rfl
  | some k => exact .inr (ne k (by have := (h2.lt k hv).1; omega))
theorem PX.below (h : PX R2 D rec pre er W) (hb : Below W.heap.size W W') : PX R2 D rec pre er W' := by
  obtain ⟨o, h1, h2⟩ := h.out
  exact ⟨⟨o, h1.below hb h1.lt, h2.below hb⟩, h.r2.below hb h.r2.lt, h.r3.below hb h.r3.lt, (hb.block _ (ltW h.ld)).trans h.ld, (hb.block _ (ltW h.lr)).trans h.lr, Nat.le_trans h.sz hb.size, h.lt⟩
theorem PX.drew (h : PX R2 D rec pre er W) : PX R2 D rec pre er W.drew := ⟨h.out, h.r2, h.r3, h.ld, h.lr, h.sz, h.lt⟩
theorem PX.put (h : PX R2 D rec pre er W) : PX R2 D rec' pre er (W.putObj (D + 1) (.loop rec')) := by
  have hg := gputW W (D + 1) (.loop rec')
  obtain ⟨o, h1, h2⟩ := h.out
  have hlt := h.lt
  have ne : ∀ k, k ≠ D + 1 → some k ≠ some (D + 1) := fun k hk e => hk (by injection e)
  refine ⟨⟨o, h1.grown hg (ne _ (by omega)), h2.grownOther hg ?_⟩, h.r2.grown hg (ne _ (by omega)), h.r3.grown hg (ne _ (by omega)), (hg.block _ (ltW h.ld) (ne _ (by omega))).trans h.ld, World.putObj_heap_same (ltW h.lr), Nat.le_trans h.sz hg.size, hlt⟩
  cases hv : o.ownBlock with
  | none => exact .inl rfl
  | some k => exact .inr (ne k (by have := (h2.lt k hv).1; omega))
theorem PX.grow {o v' : Value} {w1 : World} {p : Int × Int} (h : PX R2 D rec pre er W) (ho1 : Blk W (R2 + 2) 237 #[o]) (ho2 : Owns W (D + 2) 321 2 e_ii o pre)
    (hg : W.grownBy w1 o.ownBlock) (hv : Owns w1 (D + 2) 321 2 e_ii v' (pre ++ [p])) : PX R2 D rec (pre ++ [p]) er (w1.setCell ⟨R2 + 2, 0, none⟩ v') := by
  have hl := h.lt
  have far : ∀ k, k < D + 2 → some k ≠ o.ownBlock := fun k hk e => by have := (ho2.lt k e.symm).1; omega
  have hb1 : Blk w1 (R2 + 2) 237 #[o] := ho1.grown hg (far _ (by omega))
  have hg2 := gsetW w1 (R2 + 2) v'
  have s1 : ∀ {a b : Nat}, a ≠ b → some a ≠ some b := fun h e => h (by injection e)
  have d1 := (hg.block _ (ltW h.ld) (far _ (by omega))).trans h.ld
  have l1 := (hg.block _ (ltW h.lr) (far _ (by omega))).trans h.lr
  refine ⟨⟨v', hb1.set_ 0 v', hv.grownOther hg2 ?_⟩, (h.r2.grown hg (far _ (by omega))).grown hg2 (s1 (by omega)), (h.r3.grown hg (far _ (by omega))).grown hg2 (s1 (by omega)), (hg2.block _ (ltW d1) (s1 (by omega))).trans d1, (hg2.block _ (ltW l1) (s1 (by omega))).trans l1, Nat.le_trans (Nat.le_trans h.sz hg.size) hg2.size, hl⟩
  cases hv' : v'.ownBlock with
  | none => exact .inl rfl
  | some k => exact .inr (s1 (by have := (hv.lt k hv').1; omega))
theorem PX.alloc (h : PX R2 D rec pre er W) (o : Obj) : PX R2 D rec pre er (W.alloc o) := h.below ((Below.refl _ _).alloc (Nat.le_refl _) o)
theorem PX.bad (h : PX R2 D rec pre er W) (e' : Int) : PX R2 D rec pre e' ((W.setCell ⟨R2, 0, none⟩ (.slice none 0 0)).setCell ⟨R2 + 1, 0, none⟩ (.int .i64 e')) := by
  have g1 := gsetW W R2 (.slice none 0 0)
  have g2 := gsetW (W.setCell ⟨R2, 0, none⟩ (.slice none 0 0)) (R2 + 1) (.int .i64 e')
  obtain ⟨o, h1, h2⟩ := h.out
  have hlt := h.lt
  have s1 : ∀ {a b : Nat}, a ≠ b → some a ≠ some b := fun h e => h (by injection e)
  have own : ∀ k, k < D → o.ownBlock = none ∨ o.ownBlock ≠ some k := fun k hk => by
    cases hv : o.ownBlock with
    | none => exact .inl rfl
    | some j => exact .inr (s1 (by have := (h2.lt j hv).1; omega))
  have d1 := (g1.block _ (ltW h.ld) (s1 (by omega))).trans h.ld
  have l1 := (g1.block _ (ltW h.lr) (s1 (by omega))).trans h.lr
  exact ⟨⟨o, (h1.grown g1 (s1 (by omega))).grown g2 (s1 (by omega)), (h2.grownOther g1 (own _ (by omega))).grownOther g2 (own _ (by omega))⟩, (show Blk _ R2 237 #[.slice none 0 0] from h.r2.set_ 0 _).grown g2 (s1 (by omega)), show Blk _ (R2 + 1) 48 #[.int .i64 e'] from (h.r3.grown g1 (s1 (by omega))).set_ 0 _, (g2.block _ (ltW d1) (s1 (by omega))).trans d1, (g2.block _ (ltW l1) (s1 (by omega))).trans l1, Nat.le_trans (Nat.le_trans h.sz g1.size) g2.size, hlt⟩
end
def Texts (ps : List (List UInt8)) (l : List (Int × Int)) : Prop := ps.map Tok.trimL = l.map (fun d => wL d.1 d.2) ∧ ∀ d ∈ l, Spn.wantB d = true
def Wants (r : List UInt8) (l : List (Int × Int)) : Prop := Texts (sg 44 [] r) l
def bytesL : List UInt8 := [98, 121, 116, 101, 115, 61]
def ParsR (s : List UInt8) (c : Int) (l : List (Int × Int)) : Prop :=
  (c = 0 ∧ l.length ≤ 20 ∧ ∃ r, s = bytesL ++ r ∧ Wants r l) ∨ (c = 2 ∧ ∃ r m, s = bytesL ++ r ∧ Wants r m ∧ 20 < m.length) ∨ (c = 3 ∧ ∀ r m, s = bytesL ++ r → ¬ Wants r m)
theorem texts_snoc {ps : List (List UInt8)} {l : List (Int × Int)} (h : Texts ps l) {p : List UInt8} {d : Int × Int} (h1 : Spn.wantB d = true) (h2 : wL d.1 d.2 = Tok.trimL p) : Texts (ps ++ [p]) (l ++ [d]) := by
  refine ⟨by rw [List.map_append, List.map_append, h.1]; simp [h2], fun x hx => ?_⟩
  rcases List.mem_append.1 hx with hx | hx
  · exact h.2 x hx
  · rw [List.mem_singleton] at hx; subst hx; exact h1
theorem texts_mem {ps : List (List UInt8)} {l : List (Int × Int)} (h : Texts ps l) {p : List UInt8} (hp : p ∈ ps) : ∃ d, Spn.wantB d = true ∧ wL d.1 d.2 = Tok.trimL p := by
  have h1 := List.mem_map_of_mem (f := Tok.trimL) hp
  rw [h.1, List.mem_map] at h1
  obtain ⟨d, hd, he⟩ := h1
  exact ⟨d, h.2 d hd, he⟩
theorem texts_len {ps : List (List UInt8)} {l : List (Int × Int)} (h : Texts ps l) : l.length = ps.length := by
  have := congrArg List.length h.1
  rw [List.length_map, List.length_map] at this
  exact this.symm
theorem texts_inj : ∀ {ps : List (List UInt8)} {l m : List (Int × Int)}, Texts ps l → Texts ps m → l = m
  | [], l, m, h1, h2 => by rw [List.eq_nil_of_length_eq_zero (texts_len h1), List.eq_nil_of_length_eq_zero (texts_len h2)]
  | p :: ps, [], m, h1, _ => by have := texts_len h1; cases this
  | p :: ps, _ :: _, [], _, h2 => by have := texts_len h2; cases this
  | p :: ps, d :: l, e :: m, h1, h2 => by
    obtain ⟨a1, b1⟩ := h1
    obtain ⟨a2, b2⟩ := h2
    simp only [List.map_cons, List.cons.injEq] at a1 a2
    have hd := wL_inj (b1 d (by simp)) (b2 e (by simp)) (a1.1.symm.trans a2.1)
    rw [show d = e from Prod.ext hd.1 hd.2, texts_inj (ps := ps) (l := l) (m := m) ⟨a1.2, fun x hx => b1 x (by simp [hx])⟩ ⟨a2.2, fun x hx => b2 x (by simp [hx])⟩]
theorem sg_count (c : UInt8) : ∀ (l cur : List UInt8), (sg c cur l).length ≤ l.length + 1
  | [], cur => by rw [show sg c cur [] = [cur] from rfl]; simp
  | x :: l, cur => by
    rw [sg_c]
    split
    · have := sg_count c l []; simp only [List.length_cons] at *; omega
    · have := sg_count c l (cur ++ [x]); simp only [List.length_cons] at *; omega
theorem preW_any (s : ByteArray) (w : World) :
    Calls Tryz.prog 256 #[.string s, .string ⟨#[98, 121, 116, 101, 115, 61]⟩] w fun e w' => (∃ r is, e = .returned (.tuple #[.string r, .bool is]) ∧ r.size ≤ s.size ∧ ((is = true ∧ sl s = bytesL ++ sl r) ∨ (is = false ∧ ∀ r', sl s ≠ bytesL ++ r'))) ∧ w' = w := by
  refine (Tryz.strings_CutPrefix s ⟨#[98, 121, 116, 101, 115, 61]⟩ w).mono fun e w' ⟨he, hw⟩ => ⟨⟨_, _, he, ?_⟩, hw⟩
  cases hp : Lib.hasPrefix s.data.toList [98, 121, 116, 101, 115, 61] with
  | true =>
    obtain ⟨t, ht⟩ := List.isPrefixOf_iff_prefix.1 hp
    have h1 : Lib.trimPrefix s.data.toList [98, 121, 116, 101, 115, 61] = t := by unfold Lib.trimPrefix; rw [if_pos hp, ← ht]; rfl
    refine ⟨?_, .inl ⟨rfl, ?_⟩⟩
    · show (mkS (Lib.trimPrefix s.data.toList [98, 121, 116, 101, 115, 61])).size ≤ _
      rw [h1, mkS_size, ← sl_len, show sl s = _ from ht.symm, List.length_append]; omega
    · show sl s = _ ++ sl (mkS (Lib.trimPrefix s.data.toList [98, 121, 116, 101, 115, 61]))
      rw [h1, sl_mkS]; exact ht.symm
  | false =>
    have h1 : Lib.trimPrefix s.data.toList [98, 121, 116, 101, 115, 61] = s.data.toList := by unfold Lib.trimPrefix; rw [hp]; rfl
    refine ⟨?_, .inr ⟨rfl, fun r' h => ?_⟩⟩
    · show (mkS (Lib.trimPrefix s.data.toList [98, 121, 116, 101, 115, 61])).size ≤ _
      rw [h1, mkS_size, ← sl_len]; exact Nat.le_refl _
    · have h2 : Lib.hasPrefix s.data.toList [98, 121, 116, 101, 115, 61] = true := List.isPrefixOf_iff_prefix.2 ⟨r', h.symm⟩
      rw [hp] at h2; cases h2
def Going (w : World) (B : Nat) (D : Nat) (rec : Loop) (r : List UInt8) (rest : List (List UInt8)) (W : World) : Prop :=
  ∃ ps l, sg 44 [] r = ps ++ rest ∧ Texts ps l ∧ PX B D rec l 0 W ∧ Below B w W
def Gone (w : World) (B : Nat) (D : Nat) (rec : Loop) (r : List UInt8) (W : World) : Prop :=
  (∃ l, Wants r l ∧ PX B D rec l 0 W ∧ Below B w W) ∨ (∃ l, (∀ m, ¬ Wants r m) ∧ PX B D { rec with state := .done, pending := some .ret } l 3 W ∧ Below B w W)
set_option maxHeartbeats 2000000 in
theorem parseW_any (s : ByteArray) (w : World) (hs : s.size ≤ 1000000000000) (he : Bd.HasErr w) :
    Calls Tryz.prog 200 #[.string s] w fun e w' => (∃ v c l, e = .returned (.tuple #[v, .int .i64 c]) ∧ ParsR (sl s) c l ∧ (c = 0 → SlR w' e_ii v l)) ∧ Below w.heap.size w w' := by
  have HE := Lib.hid (fun w' (hb : Below w.heap.size w w') => he.below hb)
  have HPr := Lib.hid (fun w' => preW_any s w')
  have HS := Lib.hid hs
  clear he hs
  have hmf : ∀ (fn : Fn) (first cap : Array Value) (w : World), (Instr.makeFunc fn first cap).run Tryz.prog w = .ok (.func fn first cap) w := fun _ _ _ _ => rfl
  refine (callsIn_wide (n := 4)).1 ?_
  refine callsIn_of_wp_marks Tryz.func200 rfl trivial ?_ rfl
  simp only [Tryz.ntmps200, List.size_toArray, List.length_cons, List.length_nil, Nat.reduceAdd, Nat.reduceSub, Array.replicate_succ, Array.replicate_zero, List.push_toArray, List.append_toArray, List.nil_append, List.cons_append]
  have k0 := Blk.new w 237 #[.slice none 0 0]
  have k1 := Blk.new (w.alloc (.cells #[.slice none 0 0] 237)) 48 #[.int .i64 0]
  rw [World.size_alloc] at k1
  have k0 := k0.alloc (.cells #[.int .i64 0] 48)
  have hb0 : Below w.heap.size w ((w.alloc (.cells #[.slice none 0 0] 237)).alloc (.cells #[.int .i64 0] 48)) := ((Below.refl _ w).alloc (Nat.le_refl _) _).alloc (by simp) _
  gi_wp2_with (refine ⟨trivial, ?_⟩; gi_at_call 256; refine (callsIn_wide.2 (HPr.out _)).mono ?_; rintro e w' ⟨⟨r, is, rfl, hrs, hpre⟩, rfl⟩)
  · have hno : ∀ r', sl s ≠ bytesL ++ r' := by
      rcases hpre with ⟨h, _⟩ | ⟨_, h⟩
      · subst h; simp at *
      · exact h
    have q1 := Blk.new (w.alloc (.cells #[.slice none 0 0] 237)) 48 #[.int .i64 3]
    rw [World.size_alloc] at q1
    have q0 := (Blk.new w 237 #[.slice none 0 0]).alloc (.cells #[.int .i64 3] 48)
    exact ⟨_, results_cc rfl _ _ _ ⟨w.heap.size, 0, none⟩ ⟨w.heap.size + 1, 0, none⟩ (.slice none 0 0) (.int .i64 3) rfl rfl (load_wants (q0.cell 0)) (load_errno (q1.cell 0)), ⟨_, 3, [], rfl, .inr (.inr ⟨rfl, fun r m h _ => hno r h⟩), fun h => absurd h (by decide)⟩, ((Below.refl _ w).alloc (Nat.le_refl _) _).alloc (by simp) _⟩
  · have hsr : sl s = bytesL ++ sl r := by
      rcases hpre with ⟨_, h⟩ | ⟨h, _⟩
      · exact h
      · subst h; simp at *
    have HSR := Lib.hid hsr
    have HRS : Hid (r.size ≤ 1000000000000) := by have := HS.out; show _ ≤ _; omega
    clear hsr hpre hrs HPr
    have k2 := Blk.new ((w.alloc (.cells #[.slice none 0 0] 237)).alloc (.cells #[.int .i64 0] 48)) 237 #[.slice none 0 0]
    rw [World.size_alloc, World.size_alloc] at k2
    have k1 := k1.alloc (.cells #[.slice none 0 0] 237)
    have k0 := k0.alloc (.cells #[.slice none 0 0] 237)
    have hb0 := hb0.alloc (by simp; omega) (.cells #[.slice none 0 0] 237)
    have hz0 : (((w.alloc (.cells #[.slice none 0 0] 237)).alloc (.cells #[.int .i64 0] 48)).alloc (.cells #[.slice none 0 0] 237)).heap.size = w.heap.size + 3 := by simp
    generalize ((w.alloc (.cells #[.slice none 0 0] 237)).alloc (.cells #[.int .i64 0] 48)).alloc (.cells #[.slice none 0 0] 237) = Wa at *
    refine ⟨trivial, (callsIn_wide.2 (seq_any r 44 Wa)).mono ?_⟩
    rintro e W0 ⟨rfl, hsb, b0, hz1⟩
    have k0 := k0.below b0 k0.lt
    have k1 := k1.below b0 k1.lt
    have k2 := k2.below b0 k2.lt
    have hb0 := belT hb0 b0
    rw [hz0] at hsb hz1 ⊢
    clear b0 hz0
    gi_wp2
    have hn1 : ∀ {a b : Nat}, a ≠ b → some a ≠ some b := fun h e => h (by injection e)
    obtain ⟨B, hB⟩ : ∃ B, B = w.heap.size + 1 + 1 := ⟨_, rfl⟩
    rw [← hB]
    have HB := Lib.hid hB
    clear hB
    refine wpIn_rangeFunc_out (n := 4) rfl (by decide) (gf := 309) (fs := #[]) (lb := #[ptrq (w.heap.size + 3 + 1), ptrq (w.heap.size + 3), ptrq (w.heap.size + 3 + 2)]) rfl trivial (enters_of Tryz.func309 (by kernel_rfl) rfl) ?_
    intro rec hF hst hpe htm hpa has hbo
    have hl1 : ((W0.alloc (.deferred (some []))).alloc (.loop rec)).heap[W0.heap.size + 1]? = some (.loop rec) := by
      have := World.alloc_heap_new (W0.alloc (.deferred (some []))) (.loop rec); rwa [World.size_alloc] at this
    have hd1 : ((W0.alloc (.deferred (some []))).alloc (.loop rec)).heap[W0.heap.size]? = some (.deferred (some [])) :=
      (Below.heap_alloc _ _ _ (by simp)).trans (World.alloc_heap_new W0 _)
    have hpw1 : PX w.heap.size W0.heap.size rec [] 0 ((W0.alloc (.deferred (some []))).alloc (.loop rec)) :=
      ⟨⟨_, (k2.alloc _).alloc _, Owns.nil ..⟩, (k0.alloc _).alloc _, (k1.alloc _).alloc _, hd1, hl1, by simp, by omega⟩
    have hb1 : Below w.heap.size w ((W0.alloc (.deferred (some []))).alloc (.loop rec)) := (hb0.alloc hb0.size _).alloc (Nat.le_trans hb0.size (le_alloc _ _)) _
    have hsb1 : SeqB ((W0.alloc (.deferred (some []))).alloc (.loop rec)) (w.heap.size + 3) (w.heap.size + 3 + 1) (w.heap.size + 3 + 2) 44 r :=
      ⟨(hsb.s.alloc _).alloc _, (hsb.p.alloc _).alloc _, (hsb.k.alloc _).alloc _⟩
    have HZ := Lib.hid hz1
    refine (seq_out 3 (w.heap.size + 3) (w.heap.size + 3 + 1) (w.heap.size + 3 + 2) (W0.heap.size + 1) 44 (Going w w.heap.size W0.heap.size rec (sl r)) (Gone w w.heap.size W0.heap.size rec (sl r))
      (by decide) (by omega) (by omega) ?set ?drew ?round ?ends r _ (by have := HRS.out; omega) ⟨[], [], rfl, ⟨rfl, fun _ h => by cases h⟩, hpw1, hb1⟩ hsb1).mono ?_
    case set =>
      rintro rest W v ⟨ps, l, h1, h2, hpw, hb⟩
      refine ⟨ps, l, h1, h2, hpw.grown (gsetW W _ v) (fun j hj => ?_), hb.setCell (p := ⟨w.heap.size + 3, 0, none⟩) (by show w.heap.size ≤ w.heap.size + 3; omega) _⟩
      injection hj with hj
      omega
    case drew =>
      rintro rest W ⟨ps, l, h1, h2, hpw, hb⟩
      exact ⟨ps, l, h1, h2, hpw.drew, hb.drew⟩
    case ends =>
      rintro W ⟨ps, l, h1, h2, hpw, hb⟩
      rw [List.append_nil] at h1
      exact .inl ⟨l, by unfold Wants; rw [h1]; exact h2, hpw, hb⟩
    case round =>
      rintro p rest S W ⟨ps, l, h1, h2, hpw, hb⟩ hsq
      have hpz : p.length ≤ 1000000000000 := by
        have h3 := sg_le 44 (sl r) [] p (by rw [h1]; simp)
        rw [sl_len] at h3
        have := HRS.out
        simp only [List.length_nil] at h3
        omega
      have hlz : l.length ≤ 1000000000001 := by
        have h3 := sg_count 44 (sl r) []
        rw [h1, List.length_append, List.length_cons, sl_len] at h3
        have h4 := texts_len h2
        have := HRS.out
        omega
      have HT := Lib.hid h2
      have HS1 := Lib.hid h1
      clear h1 h2
      refine yieldR_of ?a1 hF hpw.lr hst hpe (by rw [hpa]; rfl) ?asg ?bod
      case asg =>
        intro K hK
        rw [has, htm, hpa]
        gi_wp2
        exact hK
      case bod =>
        have hg := gputW W (W0.heap.size + 1) (.loop { rec with state := .busy })
        have hpb : PX w.heap.size W0.heap.size { rec with state := .busy } l 0 (W.putObj (W0.heap.size + 1) (.loop { rec with state := .busy })) := hpw.put
        have hbb : Below w.heap.size w (W.putObj (W0.heap.size + 1) (.loop { rec with state := .busy })) := hb.grown hg (by have := hpw.sz; omega) (fun k hk => by cases hk; omega)
        have hsq2 := hsq.grown hg (hn1 (by omega)) (hn1 (by omega)) (hn1 (by omega))
        generalize W.putObj (W0.heap.size + 1) (.loop { rec with state := .busy }) = Wb at *
        have HRB : Hid (∀ d W3, Spn.wantB d = true → wL d.1 d.2 = Tok.trimL p → PX w.heap.size W0.heap.size { rec with state := .busy } (l ++ [d]) 0 W3 → Below w.heap.size w W3 → SeqB W3 (w.heap.size + 3) (w.heap.size + 3 + 1) (w.heap.size + 3 + 2) 44 S →
            W3.heap[W0.heap.size + 1]? = some (.loop { rec with state := .busy }) ∧ (Going w w.heap.size W0.heap.size rec (sl r) rest (W3.putObj (W0.heap.size + 1) (.loop rec)) ∧ SeqB (W3.putObj (W0.heap.size + 1) (.loop rec)) (w.heap.size + 3) (w.heap.size + 3 + 1) (w.heap.size + 3 + 2) 44 S)) := by
          intro d W3 g1 g2 h1 h2 h3
          have hg3 := gputW W3 (W0.heap.size + 1) (.loop rec)
          exact ⟨h1.lr, ⟨ps ++ [p], l ++ [d], by rw [HS1.out]; simp, texts_snoc HT.out g1 g2, h1.put, h2.grown hg3 (by have := h1.sz; omega) (fun k hk => by cases hk; omega)⟩, h3.grown hg3 (hn1 (by omega)) (hn1 (by omega)) (hn1 (by omega))⟩
        have HRN : Hid (∀ W3, (∀ x y, Spn.wantB (x, y) = true → wL x y ≠ Tok.trimL p) → PX w.heap.size W0.heap.size { rec with state := .busy } l 3 W3 → Below w.heap.size w W3 →
            W3.heap[W0.heap.size + 1]? = some (.loop { rec with state := .busy }) ∧ Gone w w.heap.size W0.heap.size rec (sl r) (W3.putObj (W0.heap.size + 1) (.loop { rec with state := .done, pending := some .ret }))) := by
          intro W3 g1 h1 h2
          have hg3 := gputW W3 (W0.heap.size + 1) (.loop { rec with state := .done, pending := some .ret })
          refine ⟨h1.lr, .inr ⟨l, fun m hm => ?_, h1.put, h2.grown hg3 (by have := h1.sz; omega) (fun k hk => by cases hk; omega)⟩⟩
          obtain ⟨d, g2, g3⟩ := texts_mem hm (p := p) (by rw [HS1.out]; simp)
          exact g1 d.1 d.2 g2 g3
        generalize ({ rec with state := .busy } : Loop) = recB at *
        generalize hrecD : ({ rec with state := .done, pending := some .ret } : Loop) = recD at *
        conv => arg 4; rw [hbo]
        have HHB := Lib.hid hbb
        have HHP := Lib.hid hpb
        have HHS := Lib.hid hsq2
        have HW := Lib.hid (fun W' hb' => want_any (mkS p) W' (by rw [mkS_size]; omega) (HE.out W' hb'))
        rw [sl_mkS] at HW
        have HLZ := Lib.hid hlz
        clear hrecD hst hpe htm hpa has hbo hl1 hd1 hpw1 hb1 hsb1 hpw hb hsq hg hsb k0 k1 k2 hb0 hbb hpb hsq2 hlz hpz HT HS1 HSR hz1
        gi_wp2
        refine ⟨trivial, (CallsIn.inRound _ (callsIn_wide.2 (HW.out _ HHB.out))).mono ?_⟩
        rintro e W6 ⟨⟨a, b, ok, rfl, hok⟩, b6⟩
        have hp6 := HHP.out.below b6
        have hb6 := belT HHB.out b6
        have hs6 := HHS.out.below b6 (Nat.le_refl _)
        clear HHP HHB HHS b6 HW
        cases ok
        · have hno : ∀ x y, Spn.wantB (x, y) = true → wL x y ≠ Tok.trimL p := by
            rcases hok with ⟨h, _⟩ | ⟨_, h⟩
            · cases h
            · exact h
          have HN := Lib.hid hno
          have hp6 := hp6.alloc (.cells #[.int .i64 a, .int .i64 b] 321)
          have hb6 := hb6.alloc hb6.size (.cells #[.int .i64 a, .int .i64 b] 321)
          have q2 := hp6.r2.cell 0
          have q3 := hp6.r3.cell 0
          have f2 := hp6.r2.frozen 0
          have f3 := hp6.r3.frozen 0
          clear hok hno hs6
          gi_wp2
          have hpB := hp6.bad 3
          have hbB : Below w.heap.size w (((W6.alloc (.cells #[.int .i64 a, .int .i64 b] 321)).setCell ⟨w.heap.size, 0, none⟩ (.slice none 0 0)).setCell ⟨w.heap.size + 1, 0, none⟩ (.int .i64 3)) := (hb6.setCell (p := ⟨w.heap.size, 0, none⟩) (Nat.le_refl _) _).setCell (p := ⟨w.heap.size + 1, 0, none⟩) (Nat.le_succ _) _
          obtain ⟨g1, g2⟩ := HRN.out _ HN.out hpB hbB
          exact ⟨g1, g2⟩
        · have hok' : Spn.wantB (a, b) = true ∧ wL a b = Tok.trimL p := by
            rcases hok with ⟨_, h, h'⟩ | ⟨h, _⟩
            · exact ⟨h, h'⟩
            · cases h
          have HOk := Lib.hid hok'
          clear hok hok'
          have hp7 := hp6.alloc (.cells #[.int .i64 a, .int .i64 b] 321)
          have hs7 := hs6.below ((Below.refl _ W6).alloc (Nat.le_refl _) (.cells #[.int .i64 a, .int .i64 b] 321)) (Nat.le_refl _)
          have hb7 := hb6.alloc hb6.size (.cells #[.int .i64 a, .int .i64 b] 321)
          obtain ⟨o, ho1, ho2⟩ := hp7.out
          have b0 : (W6.alloc (.cells #[.int .i64 a, .int .i64 b] 321)).cell? ⟨B, 0, none⟩ = some o := by rw [HB.out]; exact ho1.cell 0
          obtain ⟨i0, hi, hi0, hi1, hi2⟩ := info_parts wantInfo
          have hrow : (W6.alloc (.cells #[.int .i64 a, .int .i64 b] 321)).ownsRow (W0.heap.size + 2) 321 2 o l.length (l.flatMap e_ii) := ho2
          have hz7 := hp7.sz
          have hlz := HLZ.out
          have hnc := new_cells (W6.alloc (.cells #[.int .i64 a, .int .i64 b] 321)) [.int .i64 a, .int .i64 b] 321
          rw [World.size_alloc] at hnc
          gi_wp2_with (gi_at_builtin; refine wpListIn_append_own _ rfl _ _ 237 rfl (W0.heap.size + 2) 321 i0 (.agg #[.int .i64 0, .int .i64 0]) 2 16 Tryz.underlying237 hi hi0 hi1 hi2 rfl (by decide) _ _ _ rfl (hrow.alloc _) ⟨W6.heap.size + 1, 0, none⟩ 1 1 [.int .i64 a, .int .i64 b] rfl rfl hnc (by simp [Value.oneCell']) (by simp only [maxLen]; omega) (by omega) (by simp at hz7 ⊢; omega) ?_; intro v' w1 hown' hgrow _; obtain ⟨g', cap', rfl⟩ := ownsRow_succ hown'; have hv1 := (ho1.alloc (.cells #[.int .i64 a, .int .i64 b] 321)).grown hgrow (by intro e; have := (ho2.lt _ e.symm).1; have := HZ.out; omega); have hc1 : w1.cell? ⟨B, 0, none⟩ = some o := (by rw [HB.out]; exact hv1.cell 0); have hf1 : w1.frozen? ⟨B, 0, none⟩ = false := (by rw [HB.out]; exact hv1.frozen 0))
          have hp8 := (hp7.alloc (.cells #[.int .i64 a, .int .i64 b] 321)).grow (p := (a, b)) (ho1.alloc _) (ho2.alloc _) hgrow (v' := .slice (some ⟨g', 0, none⟩) (l.length + 1) cap') (by
            have := hown'
            unfold Owns
            rw [List.length_append, List.flatMap_append]
            simp only [List.length_cons, List.length_nil, List.flatMap_cons, List.flatMap_nil, List.append_nil, e_ii, Nat.zero_add] at this ⊢
            exact this)
          have far : ∀ k, k < W0.heap.size + 2 → some k ≠ o.ownBlock := fun k hk e => by have := (ho2.lt k e.symm).1; omega
          have hs8 := (((hs7.below ((Below.refl _ _).alloc (Nat.le_refl _) (.cells #[.int .i64 a, .int .i64 b] 321)) (Nat.le_refl _)).grown hgrow (far _ (by have := HZ.out; omega)) (far _ (by have := HZ.out; omega)) (far _ (by have := HZ.out; omega))).grown (gsetW w1 B (.slice (some ⟨g', 0, none⟩) (l.length + 1) cap')) (hn1 (by have := HB.out; omega)) (hn1 (by have := HB.out; omega)) (hn1 (by have := HB.out; omega)))
          have hb8 : Below w.heap.size w (w1.setCell ⟨B, 0, none⟩ (.slice (some ⟨g', 0, none⟩) (l.length + 1) cap')) := ((hb7.alloc hb7.size _).grown hgrow (Nat.le_trans hb7.size (le_alloc _ _)) (fun k hk => by have := (ho2.lt k hk).1; have := HZ.out; omega)).setCell (p := ⟨B, 0, none⟩) (by show w.heap.size ≤ B; have := HB.out; omega) _
          obtain ⟨g1, g2, g3⟩ := HRB.out (a, b) _ HOk.out.1 HOk.out.2 (by rw [HB.out]; exact hp8) hb8 hs8
          exact ⟨g1, g2, g3⟩
    · rintro e W2 ⟨hv, hgo⟩
      refine ⟨hv, ?_⟩
      rcases hgo with ⟨l, hw, hpw, hb⟩ | ⟨l, hno, hpw, hb⟩
      · refine ⟨_, _, hpw.lr, by rw [hst]; decide, ?_⟩
        rw [hpe]
        show Exit.inBlock _ _ _ _ _
        have hg := gputW W2 (W0.heap.size + 1) (.loop { rec with state := .exhausted, pending := none })
        have hpx : PX w.heap.size W0.heap.size { rec with state := .exhausted, pending := none } l 0 (W2.putObj (W0.heap.size + 1) (.loop { rec with state := .exhausted, pending := none })) := hpw.put
        have hbx := hb.grown hg (by have := hpw.sz; omega) (fun k hk => by cases hk; have := HZ.out; omega)
        have hlen : l.length ≤ 1000000000001 := by
          have h3 := sg_count 44 (sl r) []
          rw [sl_len] at h3
          have h4 := texts_len hw
          have := HRS.out
          omega
        have HWn := Lib.hid hw
        clear hl1 hd1 hpw1 hb1 hsb1 hpw hb hg hsb k0 k1 k2 hb0 hz1 hw
        generalize W2.putObj (W0.heap.size + 1) (.loop { rec with state := .exhausted, pending := none }) = W3 at *
        generalize ({ rec with state := .exhausted, pending := none } : Loop) = recX at *
        obtain ⟨o, h1, h2⟩ := hpx.out
        obtain ⟨A2, c2, ho⟩ := h2.slice
        subst ho
        have b0 : W3.cell? ⟨B, 0, none⟩ = some (.slice A2 l.length c2) := by rw [HB.out]; exact h1.cell 0
        have q2 := hpx.r2.cell 0
        have q3 := hpx.r3.cell 0
        have f2 := hpx.r2.frozen 0
        have f3 := hpx.r3.frozen 0
        by_cases h20 : l.length ≤ 20
        · have d20 : decide (20 < (l.length : Int)) = false := by rw [decide_eq_false_iff_not]; omega
          gi_wp2
          have hzz := HZ.out
          have g1 := gsetW W3 w.heap.size (.slice A2 l.length c2)
          have g2 := gsetW (W3.setCell ⟨w.heap.size, 0, none⟩ (.slice A2 l.length c2)) (w.heap.size + 1) (.int .i64 0)
          have k2 : Blk ((W3.setCell ⟨w.heap.size, 0, none⟩ (.slice A2 l.length c2)).setCell ⟨w.heap.size + 1, 0, none⟩ (.int .i64 0)) w.heap.size 237 #[.slice A2 l.length c2] := (hpx.r2.set_ 0 (.slice A2 l.length c2)).grown g2 (hn1 (by omega))
          have k3 : Blk ((W3.setCell ⟨w.heap.size, 0, none⟩ (.slice A2 l.length c2)).setCell ⟨w.heap.size + 1, 0, none⟩ (.int .i64 0)) (w.heap.size + 1) 48 #[.int .i64 0] := (hpx.r3.grown g1 (hn1 (by omega))).set_ 0 (.int .i64 0)
          have d1 := (g1.block _ (ltW hpx.ld) (hn1 (by omega))).trans hpx.ld
          have hKd := (g2.block _ (ltW d1) (hn1 (by omega))).trans d1
          have own := fun (k : Nat) (hk : k < W0.heap.size + 2) => show (Value.slice A2 l.length c2).ownBlock = none ∨ (Value.slice A2 l.length c2).ownBlock ≠ some k by
            cases hv : (Value.slice A2 l.length c2).ownBlock with
            | none => exact .inl rfl
            | some j => exact .inr (hn1 (by have := (h2.lt j hv).1; omega))
          have h2b := (h2.grownOther g1 (own _ (by omega))).grownOther g2 (own _ (by omega))
          have hbz := (hbx.setCell (p := ⟨w.heap.size, 0, none⟩) (Nat.le_refl _) (.slice A2 l.length c2)).setCell (p := ⟨w.heap.size + 1, 0, none⟩) (Nat.le_succ _) (.int .i64 0)
          have hsz4 := (hpx.sz)
          have hsz5 := g1.size
          have hsz6 := g2.size
          generalize (W3.setCell ⟨w.heap.size, 0, none⟩ (.slice A2 l.length c2)).setCell ⟨w.heap.size + 1, 0, none⟩ (.int .i64 0) = W4 at *
          refine ⟨by simp, .inl ⟨_, _, rfl, run_takeDeferred hKd, ?_⟩⟩
          have hg5 := gputW W4 W0.heap.size (.deferred none)
          exact ⟨_, results_cc rfl _ _ _ ⟨w.heap.size, 0, none⟩ ⟨w.heap.size + 1, 0, none⟩ (.slice A2 l.length c2) (.int .i64 0) rfl rfl (load_wants ((k2.grown hg5 (hn1 (by omega))).cell 0)) (load_errno ((k3.grown hg5 (hn1 (by omega))).cell 0)), ⟨_, 0, rfl, l, .inl ⟨rfl, h20, _, HSR.out, HWn.out⟩, fun _ => SlR.of_owns (h2b.grownOther hg5 (own _ (by omega)))⟩, hbz.grown hg5 (by omega) (fun k hk => by cases hk; omega)⟩
        · have d20 : decide (20 < (l.length : Int)) = true := by rw [decide_eq_true_iff]; omega
          gi_wp2
          have hpB := hpx.bad 2
          have hbz := (hbx.setCell (p := ⟨w.heap.size, 0, none⟩) (Nat.le_refl _) (.slice none 0 0)).setCell (p := ⟨w.heap.size + 1, 0, none⟩) (Nat.le_succ _) (.int .i64 2)
          clear hpx hbx h1 h2 b0 q2 q3 f2 f3
          generalize (W3.setCell ⟨w.heap.size, 0, none⟩ (.slice none 0 0)).setCell ⟨w.heap.size + 1, 0, none⟩ (.int .i64 2) = W4 at *
          refine ⟨by simp, .inl ⟨_, _, rfl, run_takeDeferred hpB.ld, ?_⟩⟩
          have hg5 := gputW W4 W0.heap.size (.deferred none)
          have hzz := HZ.out
          exact ⟨_, results_cc rfl _ _ _ ⟨w.heap.size, 0, none⟩ ⟨w.heap.size + 1, 0, none⟩ (.slice none 0 0) (.int .i64 2) rfl rfl (load_wants ((hpB.r2.grown hg5 (hn1 (by omega))).cell 0)) (load_errno ((hpB.r3.grown hg5 (hn1 (by omega))).cell 0)), ⟨_, 2, rfl, [], .inr (.inl ⟨rfl, _, l, HSR.out, HWn.out, by omega⟩), fun h => absurd h (by decide)⟩, hbz.grown hg5 (by have := hpB.sz; omega) (fun k hk => by cases hk; omega)⟩
      · refine ⟨_, _, hpw.lr, by decide, ?_⟩
        dsimp only
        have hg := gputW W2 (W0.heap.size + 1) (.loop { rec with state := .exhausted, pending := some .ret })
        have hpx : PX w.heap.size W0.heap.size { rec with state := .exhausted, pending := some .ret } l 3 (W2.putObj (W0.heap.size + 1) (.loop { rec with state := .exhausted, pending := some .ret })) := hpw.put
        have hbx := hb.grown hg (by have := hpw.sz; omega) (fun k hk => by cases hk; have := HZ.out; omega)
        have HNo := Lib.hid hno
        clear hl1 hd1 hpw1 hb1 hsb1 hpw hb hg hsb k0 k1 k2 hb0 hz1 hno
        generalize W2.putObj (W0.heap.size + 1) (.loop { rec with state := .exhausted, pending := some .ret }) = W4 at *
        generalize ({ rec with state := .exhausted, pending := some .ret } : Loop) = recX at *
        gi_wp2
        refine ⟨by simp, .inl ⟨_, _, rfl, run_takeDeferred hpx.ld, ?_⟩⟩
        have hg5 := gputW W4 W0.heap.size (.deferred none)
        have hzz := HZ.out
        exact ⟨_, results_cc rfl _ _ _ ⟨w.heap.size, 0, none⟩ ⟨w.heap.size + 1, 0, none⟩ (.slice none 0 0) (.int .i64 3) rfl rfl (load_wants ((hpx.r2.grown hg5 (hn1 (by omega))).cell 0)) (load_errno ((hpx.r3.grown hg5 (hn1 (by omega))).cell 0)), ⟨_, 3, rfl, [], .inr (.inr ⟨rfl, fun q m hq hm => HNo.out m (by rw [List.append_cancel_left (HSR.out.symm.trans hq)]; exact hm)⟩), fun h => absurd h (by decide)⟩, hbx.grown hg5 (by have := hpx.sz; omega) (fun k hk => by cases hk; omega)⟩
end Spw
set_option maxRecDepth 20000
namespace Dk
open Classical in
noncomputable def parsD (s : ByteArray) : Except Int (List (Int × Int)) :=
  if h : ∃ l, ∃ r, sl s = Spw.bytesL ++ r ∧ Spw.Wants r l then (if (Classical.choose h).length ≤ 20 then .ok (Classical.choose h) else .error 2) else .error 3
theorem wants_one {s : List UInt8} {l m : List (Int × Int)} (h1 : ∃ r, s = Spw.bytesL ++ r ∧ Spw.Wants r l) (h2 : ∃ r, s = Spw.bytesL ++ r ∧ Spw.Wants r m) : l = m := by
  obtain ⟨r, e1, h1⟩ := h1
  obtain ⟨q, e2, h2⟩ := h2
  rw [e1] at e2
  obtain rfl := List.append_cancel_left e2
  exact Spw.texts_inj h1 h2
theorem parsD_of {s : ByteArray} {c : Int} {l : List (Int × Int)} (h : Spw.ParsR (sl s) c l) : (c = 0 ∧ parsD s = .ok l ∧ l.length ≤ 20) ∨ (c ≠ 0 ∧ parsD s = .error c) := by
  unfold parsD
  rcases h with ⟨rfl, h1, h2⟩ | ⟨rfl, r, m, h1, h2, h3⟩ | ⟨rfl, h1⟩
  · have hx : ∃ l, ∃ r, sl s = Spw.bytesL ++ r ∧ Spw.Wants r l := ⟨l, h2⟩
    rw [dif_pos hx]
    have he := wants_one (Classical.choose_spec hx) h2
    rw [he, if_pos h1]
    exact .inl ⟨rfl, rfl, h1⟩
  · have hx : ∃ l, ∃ r, sl s = Spw.bytesL ++ r ∧ Spw.Wants r l := ⟨m, r, h1, h2⟩
    rw [dif_pos hx]
    have he := wants_one (Classical.choose_spec hx) ⟨r, h1, h2⟩
    rw [he, if_neg (by omega)]
    exact .inr ⟨by decide, rfl⟩
  · rw [dif_neg (by rintro ⟨m, r, h2, h3⟩; exact h1 r m h2 h3)]
    exact .inr ⟨by decide, rfl⟩
theorem parsD_good {s : ByteArray} {l : List (Int × Int)} (h : parsD s = .ok l) : ∀ d ∈ l, Spn.wantB d = true := by
  unfold parsD at h
  split at h
  · rename_i hx
    split at h
    · injection h with h
      obtain ⟨r, _, h2⟩ := Classical.choose_spec hx
      rw [h] at h2
      exact h2.2
    · cases h
  · cases h
theorem parsD_in {s : ByteArray} {c : Int} (h : parsD s = .error c) : 0 ≤ c ∧ c ≤ 100 := by
  unfold parsD at h
  split at h
  · split at h
    · cases h
    · injection h with h; omega
  · injection h with h; omega
theorem resolve_in {l : List (Int × Int)} {n c : Int} (h : Spn.resolve l n = .error c) : 0 < c ∧ c ≤ 100 := by
  unfold Spn.resolve at h
  split at h
  · injection h with h; omega
  · split at h
    · injection h with h; omega
    · split at h
      · injection h with h; omega
      · cases h
def spanT (d : Int × Int) : ByteArray := mkS (Lib.itoa d.1) ++ ⟨#[45]⟩ ++ mkS (Lib.itoa d.2)
def InW (x : Int) : Prop := -9223372036854775808 ≤ x ∧ x ≤ 9223372036854775807
theorem res1_in {d : Int × Int} {n : Int} (h : Spn.wantB d = true) (h0 : 0 ≤ n) (h1 : n ≤ 9223372036854775807) : InW (Spn.res1 n d).1 ∧ InW (Spn.res1 n d).2 := by
  have hb := Spn.wantB_bounds h
  unfold Spn.res1 InW
  split
  · dsimp only; split <;> omega
  · split
    · dsimp only; omega
    · dsimp only; split <;> omega
theorem resolve_good {l out : List (Int × Int)} {n : Int} (hl : ∀ d ∈ l, Spn.wantB d = true) (h0 : 0 ≤ n) (h1 : n ≤ 9223372036854775807) (h : Spn.resolve l n = .ok out) : out.length ≤ l.length ∧ ∀ d ∈ out, InW d.1 ∧ InW d.2 := by
  have ho : out = Spn.resL l n := by
    unfold Spn.resolve at h
    split at h
    · cases h
    · split at h
      · cases h
      · split at h
        · cases h
        · injection h with h; exact h.symm
  subst ho
  unfold Spn.resL
  refine ⟨Nat.le_trans (List.length_filter_le _ _) (by rw [List.length_map]; exact Nat.le_refl _), fun d hd => ?_⟩
  obtain ⟨x, hx, rfl⟩ := List.mem_map.1 (List.mem_filter.1 hd).1
  exact res1_in (hl x hx) h0 h1
theorem itoa_short {x : Int} (h : InW x) : (mkS (Lib.itoa x)).size ≤ 21 := by
  rw [mkS_size]
  exact Lib.itoa_length_le x h.1 h.2
theorem spanT_len {d : Int × Int} (h : InW d.1 ∧ InW d.2) : (spanT d).size ≤ 1000000 := by
  have h1 := itoa_short h.1
  have h2 := itoa_short h.2
  unfold spanT
  rw [ByteArray.size_append, ByteArray.size_append]
  have h3 : (⟨#[45]⟩ : ByteArray).size = 1 := rfl
  omega
noncomputable def rangesD (l : List ByteArray) : Except Int ByteArray := match l with
  | [a, b] => bnd (numD b) fun n => bnd (parsD a) fun m => bnd (Spn.resolve m n) fun r => .ok (listD (r.map spanT))
  | _ => .error 3
theorem numD_err {s : ByteArray} {c : Int} (h : numD s = .error c) : c = 3 := by
  unfold numD at h
  split at h
  · split at h
    · injection h with h; exact h.symm
    · cases h
  · injection h with h; exact h.symm
theorem rangesD_in' (l : List ByteArray) (c : Int) (h : rangesD l = .error c) : 0 ≤ c ∧ c ≤ 100 := by
  unfold rangesD at h
  split at h
  · rename_i a b
    cases h1 : numD b with
    | error x => rw [h1] at h; have h : Except.error x = Except.error c := h; injection h with h; have := numD_err h1; omega
    | ok n =>
      rw [h1] at h
      have h : bnd (parsD a) (fun m => bnd (Spn.resolve m n) fun r => .ok (listD (r.map spanT))) = .error c := h
      cases h2 : parsD a with
      | error x => rw [h2] at h; have h : Except.error x = Except.error c := h; injection h with h; have := parsD_in h2; omega
      | ok m =>
        rw [h2] at h
        have h : bnd (Spn.resolve m n) (fun r => .ok (listD (r.map spanT))) = .error c := h
        cases h3 : Spn.resolve m n with
        | error x => rw [h3] at h; have h : Except.error x = Except.error c := h; injection h with h; have := resolve_in h3; omega
        | ok r => rw [h3] at h; cases h
  · injection h with h; omega
set_option maxHeartbeats 2000000 in
theorem ranges_any (v : Value) (l : List ByteArray) (w : World) (h : SlR w es v l) (hz : ∀ x ∈ l, x.size ≤ 300) (ht : Tab w) :
    Calls Tryz.prog 141 #[v] w fun e w' => AnsD (rangesD l) e ∧ Below w.heap.size w w' := by
  by_cases h2 : ∃ a b, l = [a, b]
  · obtain ⟨a, b, rfl⟩ := h2
    have H := Lib.hid (h.texts (by simp))
    obtain ⟨A, cp, rfl, -⟩ := h.form
    obtain ⟨bk, o, c', he, hc', hb, hcell⟩ := H.out
    injection he with g1 g2 g3
    subst g1 g3
    have c0 := hcell 0 (by simp)
    have c1 := hcell 1 (by simp)
    simp only [List.getElem_cons_zero, List.getElem_cons_succ, Nat.add_zero] at c0 c1
    have hza := hz a (by simp)
    have hzb := hz b (by simp)
    have HD : Hid (rangesD [a, b] = bnd (numD b) fun n => bnd (parsD a) fun m => bnd (Spn.resolve m n) fun r => .ok (listD (r.map spanT))) := rfl
    have HNb := Lib.hid (number_any b w (by omega) ht.err)
    have HNi := Lib.hid (fun n (h : numD b = .ok n) => numD_in h)
    have HT := Lib.hid (fun w' (hb : Below w.heap.size w w') => ht.below hb)
    have HPa := Lib.hid (fun w' hb => Spw.parseW_any a w' (by omega) (HT.out w' hb).err)
    clear H hcell hz h hza hzb ht g2 hc'
    simp only [List.length_cons, List.length_nil, Nat.zero_add, Nat.reduceAdd] at *
    generalize rangesD [a, b] = R at *
    generalize numD b = q at *
    go_enter Tryz.func141, Tryz.ntmps141
    go_wp2_with fail
    refine HNb.out.mono ?_
    rintro e w1 ⟨h1, b1⟩
    cases q with
    | error c =>
      have h1' : e = .panicked (badP c) := h1
      subst h1'
      clear HNb HT h1 HPa
      go_wp2_with fail
      exact ⟨rfl, by rw [HD.out]; rfl, b1⟩
    | ok n =>
    have h1' : e = .returned (.int .i64 n) := h1
    subst h1'
    have hn := HNi.out n rfl
    have HN := Lib.hid hn
    have HR : Hid (R = bnd (parsD a) fun m => bnd (Spn.resolve m n) fun r => .ok (listD (r.map spanT))) := HD.out
    have c0 := (b1.cell (p := ⟨bk, o, none⟩) hb).trans c0
    clear HNb h1 hn HD c1 HNi
    go_wp2_with fail
    refine (HPa.out _ b1).mono ?_
    rintro e w2 ⟨⟨u, c, m, rfl, hp, hsl⟩, b2⟩
    have hpd := parsD_of hp
    have HG := Lib.hid (fun m (h : parsD a = .ok m) => parsD_good h)
    clear hp HPa
    generalize parsD a = pa at *
    have B2 := belT b1 b2
    rcases hpd with ⟨rfl, rfl, h20⟩ | ⟨hc, rfl⟩
    rotate_left
    · clear hsl HT
      go_wp2_with fail
      refine (fails_bad c hc _).mono ?_
      rintro e w3 ⟨rfl, rfl⟩
      go_wp2_with fail
      exact ⟨rfl, by rw [HR.out]; rfl, B2⟩
    have hsl := hsl rfl
    have hg := HG.out m rfl
    have HRs := Lib.hid (resolve_any u m n w2 hsl (by omega) HN.out.2 (by have := HN.out.1; omega))
    have HRg := Lib.hid (fun out (h : Spn.resolve m n = .ok out) => resolve_good hg HN.out.1 HN.out.2 h)
    have HRi := Lib.hid (fun c (h : Spn.resolve m n = .error c) => resolve_in h)
    have HR : Hid (R = bnd (Spn.resolve m n) fun r => .ok (listD (r.map spanT))) := HR.out
    clear hg HG hsl
    go_wp2_with fail
    refine (fails_ok _).mono ?_
    rintro e w3 ⟨rfl, rfl⟩
    go_wp2_with fail
    refine HRs.out.mono ?_
    rintro e w3 ⟨ha, b3⟩
    have B3 := belT B2 b3
    unfold ResAns at ha
    generalize Spn.resolve m n = rs at *
    cases rs with
    | error c =>
      obtain ⟨hc, hc2⟩ := HRi.out c rfl
      have ha : e = .returned (.tuple #[.slice none 0 0, .int .i64 c]) := ha
      subst ha
      clear HRs HRg HRi HT
      go_wp2_with fail
      refine (fails_bad c (by omega) _).mono ?_
      rintro e w4 ⟨rfl, rfl⟩
      go_wp2_with fail
      exact ⟨rfl, by rw [HR.out]; rfl, B3⟩
    | ok out =>
    obtain ⟨vo, rfl, how⟩ : ∃ v, e = .returned (.tuple #[v, .int .i64 0]) ∧ Owns w3 w2.heap.size 279 2 e_ii v out := ha
    have HR : Hid (R = .ok (listD (out.map spanT))) := HR.out
    obtain ⟨hlen, hin⟩ := HRg.out out rfl
    have hl20 : out.length ≤ 20 := by omega
    have HI := Lib.hid hin
    have hso := SlR.of_owns how
    have HS := Lib.hid hso
    clear HRs HRg HRi how hlen hin h20
    go_wp2_with fail
    refine (fails_ok _).mono ?_
    rintro e w4 ⟨rfl, rfl⟩
    obtain ⟨A, ca, rfl, -⟩ := hso.form
    clear hso
    go_wp2_with fail
    go_loopw [7, 37] (fun o i wr => ∃ k : Nat, k ≤ out.length ∧ i = .int .i64 k ∧ Owns wr w3.heap.size 9 1 es o ((out.take k).map spanT) ∧ Below w3.heap.size w3 wr) (fun _ i _ => out.length - (intOf i).toNat)
    case atStart => exact ⟨0, by omega, rfl, Owns.nil _ _ _ _ _, Below.refl _ _⟩
    case round =>
      obtain ⟨k, hk, rfl, hown, hbel⟩ := hrel
      have HO := Lib.hid hown
      by_cases hlt : k < out.length
      · obtain ⟨b, off, c', he, hbb, hcell⟩ := HS.out.two (fun _ => rfl) (by omega)
        obtain ⟨rfl, rfl⟩ : A = some ⟨b, off, none⟩ ∧ ca = c' := by injection he with h1 h2 h3; exact ⟨h1, h3⟩
        obtain ⟨q0, q1⟩ := hcell k hlt (.int .i64 out[k].1) (.int .i64 out[k].2) rfl rfl
        have c0 := (hbel.cell (p := ⟨b, off + k * 2, none⟩) hbb).trans q0
        have c1 := (hbel.cell (p := ⟨b, off + k * 2 + 1, none⟩) hbb).trans q1
        have hw := HI.out out[k] (List.getElem_mem hlt)
        have hTl : (out.take (k + 1)).map spanT = (out.take k).map spanT ++ [spanT out[k]] := by rw [List.take_add_one, List.getElem?_eq_getElem hlt, List.map_append]; rfl
        have HTl := Lib.hid hTl
        have hlen : ((out.take k).map spanT).length ≤ 20 := by simp; omega
        clear hcell q0 q1 he hown hTl
        generalize (out.take k).map spanT = ts at *
        generalize out[k] = d at *
        obtain ⟨f, g⟩ := d
        have HX := Lib.hid (fun w' hp => Bd.itoa_any f w' hw.1.1 hw.1.2 hp)
        have HY := Lib.hid (fun w' hp => Bd.itoa_any g w' hw.2.1 hw.2.2 hp)
        have zF := itoa_short hw.1
        have zG := itoa_short hw.2
        have HB0 := hbel.alloc hbel.size (.cells #[.int .i64 f, .int .i64 g] 279)
        have HOA := Lib.hid (HO.out.alloc (.cells #[.int .i64 f, .int .i64 g] 279))
        have HK := Blk.new wr 279 #[.int .i64 f, .int .i64 g]
        clear hw
        go_wp2_with fail
        generalize wr.alloc (.cells #[.int .i64 f, .int .i64 g] 279) = wa at *
        have HC := Lib.hid (fun w' (hb : Below wa.heap.size wa w') => And.intro ((hb.cell (p := ⟨wr.heap.size, 0, none⟩) HK.lt).trans (HK.cell 0)) ((hb.cell (p := ⟨wr.heap.size, 1, none⟩) HK.lt).trans (HK.cell 1)))
        have HP1 := Lib.hid (fun w' (h : Below w3.heap.size w3 w') => (HT.out _ (belT B3 h)).err.p10)
        have HF : Hid (spanT (f, g) = mkS (Lib.itoa f) ++ ⟨#[45]⟩ ++ mkS (Lib.itoa g)) := rfl
        have zF' : (mkS (Lib.itoa f) ++ (⟨#[45]⟩ : ByteArray)).size ≤ 22 := by rw [ByteArray.size_append]; have : (⟨#[45]⟩ : ByteArray).size = 1 := rfl; omega
        obtain ⟨P, hP⟩ : ∃ P, mkS (Lib.itoa f) ++ (⟨#[45]⟩ : ByteArray) = P := ⟨_, rfl⟩
        rw [hP] at HF zF'
        generalize mkS (Lib.itoa f) = F at *
        generalize mkS (Lib.itoa g) = G at *
        have g1 : ¬ 9223372036854775807 < F.size + 1 := by omega
        have g2 : ¬ 9223372036854775807 < P.size + G.size := by omega
        refine wp_region_seq [(true, 0), (true, 1), (true, 2), (true, 5), (true, 6), (false, 3), (true, 4), (false, 7), (true, 8), (false, 9), (false, 10), (true, 11)] (fun w' => Blk w' wr.heap.size 279 #[.int .i64 f, .int .i64 g] ∧ Below w3.heap.size w3 w') (by kernel_rfl) (by kernel_rfl) (fun _ _ _ _ _ h => h) (by kernel_rfl) (by kernel_rfl) ?_ ?_
        · exact ⟨HK.drew, HB0.drew⟩
        iterate 5 (first | (apply seqH_skip; (focus (simp only [List.getElem?_toArray, List.getElem?_cons_succ, List.getElem?_cons_zero]; rfl)); (focus rfl); simp only [Act.put, List.setIfInBounds_toArray, List.set_cons_zero, List.set_cons_succ]) | (apply seqH_take; (focus (simp only [List.getElem?_toArray, List.getElem?_cons_succ, List.getElem?_cons_zero]; rfl)); (focus rfl); (focus (intro w' hS; obtain ⟨kA, kb⟩ := hS; have k0 := kA.cell 0; have k1 := kA.cell 1; first | (go_simp; rfl) | (go_simp; done))); simp only [Act.put, List.setIfInBounds_toArray, List.set_cons_zero, List.set_cons_succ]) | (apply seqH_pass; (focus (simp only [List.getElem?_toArray, List.getElem?_cons_succ, List.getElem?_cons_zero]; rfl)); (focus rfl); (focus assumption); simp only [Act.put, List.setIfInBounds_toArray, List.set_cons_zero, List.set_cons_succ]))
        apply seqH_eff
        (focus (simp only [List.getElem?_toArray, List.getElem?_cons_succ, List.getElem?_cons_zero]; rfl))
        (focus rfl)
        intro K hK
        go_simp
        go_at_call 75
        refine (HX.out _ (HP1.out _ HB0.drew)).mono ?_
        rintro e w5 ⟨rfl, b5⟩
        have kA5 := HK.drew.below b5 HK.drew.lt
        have kB5 := belT HB0.drew b5
        have HO5 := Lib.hid (HOA.out.drew.below b5)
        refine hK _ _ ⟨⟨kA5, kB5⟩, ?_⟩
        clear hK K
        iterate 1 (first | (apply seqH_skip; (focus (simp only [List.getElem?_toArray, List.getElem?_cons_succ, List.getElem?_cons_zero]; rfl)); (focus rfl); simp only [Act.put, List.setIfInBounds_toArray, List.set_cons_zero, List.set_cons_succ]) | (apply seqH_take; (focus (simp only [List.getElem?_toArray, List.getElem?_cons_succ, List.getElem?_cons_zero]; rfl)); (focus rfl); (focus (intro w' hS; skip; first | (go_simp; rfl) | (go_simp; done))); simp only [Act.put, List.setIfInBounds_toArray, List.set_cons_zero, List.set_cons_succ]) | (apply seqH_pass; (focus (simp only [List.getElem?_toArray, List.getElem?_cons_succ, List.getElem?_cons_zero]; rfl)); (focus rfl); (focus assumption); simp only [Act.put, List.setIfInBounds_toArray, List.set_cons_zero, List.set_cons_succ]))
        apply seqH_eff
        (focus (simp only [List.getElem?_toArray, List.getElem?_cons_succ, List.getElem?_cons_zero]; rfl))
        (focus rfl)
        intro K hK
        go_simp
        go_at_call 75
        refine (HY.out _ (HP1.out _ kB5)).mono ?_
        rintro e w6 ⟨rfl, b6⟩
        have kA6 := kA5.below b6 kA5.lt
        have kB6 := belT kB5 b6
        have HO6 := Lib.hid (HO5.out.below b6)
        refine hK _ _ ⟨⟨kA6, kB6⟩, ?_⟩
        clear hK K
        iterate 1 (first | (apply seqH_skip; (focus (simp only [List.getElem?_toArray, List.getElem?_cons_succ, List.getElem?_cons_zero]; rfl)); (focus rfl); simp only [Act.put, List.setIfInBounds_toArray, List.set_cons_zero, List.set_cons_succ]) | (apply seqH_take; (focus (simp only [List.getElem?_toArray, List.getElem?_cons_succ, List.getElem?_cons_zero]; rfl)); (focus rfl); (focus (intro w' hS; skip; first | (go_simp; rfl) | (go_simp; done))); simp only [Act.put, List.setIfInBounds_toArray, List.set_cons_zero, List.set_cons_succ]) | (apply seqH_pass; (focus (simp only [List.getElem?_toArray, List.getElem?_cons_succ, List.getElem?_cons_zero]; rfl)); (focus rfl); (focus assumption); simp only [Act.put, List.setIfInBounds_toArray, List.set_cons_zero, List.set_cons_succ]))
        apply seqH_eff
        (focus (simp only [List.getElem?_toArray, List.getElem?_cons_succ, List.getElem?_cons_zero]; rfl))
        (focus rfl)
        intro K hK
        go_simp
        have kA7 := kA6.alloc (.cells #[.string (P ++ G)] 9)
        have kB7 := kB6.alloc kB6.size (.cells #[.string (P ++ G)] 9)
        have HO7 := Lib.hid (HO6.out.alloc (.cells #[.string (P ++ G)] 9))
        have HNA : Hid (SlR (w6.alloc (.cells #[.string (P ++ G)] 9)) es (.slice (some ⟨w6.heap.size, 0, none⟩) 1 1) [P ++ G]) := SlR.lit (enc := es) w6 [.string (P ++ G)] 9 [P ++ G] rfl
        refine hK _ _ ⟨⟨kA7, kB7⟩, ?_⟩
        clear hK K
        apply seqH_eff
        (focus (simp only [List.getElem?_toArray, List.getElem?_cons_succ, List.getElem?_cons_zero]; rfl))
        (focus rfl)
        intro K hK
        refine wp_append_owns (.tmp 41) (.tmp 50) _ rfl w3.heap.size 9 (.string ByteArray.empty) 1 16 es Tryz.underlying69 stringInfo rfl (by decide) (fun _ => rfl) _ ts rfl HO7.out _ [P ++ G] rfl HNA.out (es_one _) (by simp only [maxLen, List.length_cons, List.length_nil]; omega) (by simp only [List.length_cons, List.length_nil]; omega) kB7.size ?_
        intro v8 w8 ho8 hg8
        have kB8 := kB7.grown hg8 kB7.size (fun j hj => (HO7.out.lt j hj).1)
        have kA8 := kA7.grown hg8 (fun e => Nat.lt_irrefl _ (HO.out.lt _ e.symm).2)
        have HO8 := Lib.hid ho8
        refine hK _ _ ⟨⟨kA8, kB8⟩, ?_⟩
        clear hK K ho8 hg8
        iterate 1 (first | (apply seqH_skip; (focus (simp only [List.getElem?_toArray, List.getElem?_cons_succ, List.getElem?_cons_zero]; rfl)); (focus rfl); simp only [Act.put, List.setIfInBounds_toArray, List.set_cons_zero, List.set_cons_succ]) | (apply seqH_take; (focus (simp only [List.getElem?_toArray, List.getElem?_cons_succ, List.getElem?_cons_zero]; rfl)); (focus rfl); (focus (intro w' hS; skip; first | (go_simp; rfl) | (go_simp; done))); simp only [Act.put, List.setIfInBounds_toArray, List.set_cons_zero, List.set_cons_succ]) | (apply seqH_pass; (focus (simp only [List.getElem?_toArray, List.getElem?_cons_succ, List.getElem?_cons_zero]; rfl)); (focus rfl); (focus assumption); simp only [Act.put, List.setIfInBounds_toArray, List.set_cons_zero, List.set_cons_succ]))
        refine seqH_nil ?_
        go_wp2_with fail
        go_roundw
        case rel => exact ⟨k + 1, by omega, by go_num, by rw [HTl.out, HF.out]; exact HO8.out, kB8⟩
        case measure => simp [intOf]; omega
      · obtain rfl : out.length = k := by omega
        have hT : out.take out.length = out := List.take_of_length_le (Nat.le_refl _)
        rw [hT] at HO
        have HL := Lib.hid (list_any _ (out.map spanT) wr (SlR.of_owns HO.out) (by rw [List.length_map]; omega) (fun y hy => by
          obtain ⟨x, hx, rfl⟩ := List.mem_map.1 hy
          exact spanT_len (HI.out x hx)))
        obtain ⟨A2, c2, rfl, -⟩ := (SlR.of_owns HO.out).form
        have HB := Lib.hid hbel
        clear hbel hT HS
        generalize out.map spanT = ts at *
        go_wp2_with fail
        refine HL.out.mono ?_
        rintro e w5 ⟨rfl, b5⟩
        have hf := belT B3 (belT HB.out b5)
        go_wp2_with fail
        go_ret
        exact ⟨by rw [HR.out]; rfl, hf⟩
  · have hne : (((l.length : Nat) : Int) != 2) = true := by
      simp only [bne_iff_ne, ne_eq]
      intro e
      have e : l.length = 2 := by omega
      match l, e with
      | [a, b], _ => exact h2 ⟨a, b, rfl⟩
    have hone : rangesD l = .error 3 := by
      unfold rangesD
      split
      · rename_i a b; exact absurd ⟨a, b, rfl⟩ h2
      · rfl
    obtain ⟨A, cp, rfl, -⟩ := h.form
    have HO := Lib.hid hone
    clear hone h h2 hz ht
    generalize l.length = n at *
    go_enter Tryz.func141, Tryz.ntmps141
    go_wp2_with fail
    refine (fails_bad 3 (by decide) _).mono ?_
    rintro e w1 ⟨rfl, rfl⟩
    go_wp2_with fail
    exact ⟨rfl, by rw [HO.out]; rfl, Below.refl _ _⟩
end Dk
end Go.Proofs.YtgjfhgcjiglfkaaGreatDoor
