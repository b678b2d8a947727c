/- What span's Parse answers for the text of a good list, whatever blanks stand beside the commas. -/
import Derived.Test.YthhhlaoiampinaaDoorSpwP
import Derived.Test.YthhhlaoiampinaaDoorSeqW
import Derived.Test.YthhhlaoiampinaaDoorTwoOwn
namespace Go.Proofs.YthhhlaoiampinaaDoor
set_option maxRecDepth 20000
open Go.RowKit Go.Shelf
attribute [local go_sem] Oper.semAt_some
theorem gputW (w : World) (l : Nat) (o : Obj) : w.grownBy (w.putObj l o) (some l) :=
  ⟨rfl, rfl, rfl, by simp [World.putObj], fun k hk hne => World.putObj_heap_other (by intro e; exact hne (by rw [e]))⟩
theorem gsetW (w : World) (b : Nat) (v : Value) : w.grownBy (w.setCell ⟨b, 0, none⟩ v) (some b) :=
  ⟨rfl, rfl, rfl, by simp [World.setCell], fun k _ hne => Below.heap_setCell _ _ _ _ (fun e => hne (by rw [e]))⟩
theorem ltW {w : World} {k : Nat} {o : Obj} (h : w.heap[k]? = some o) : k < w.heap.size := (Array.getElem?_eq_some_iff.1 h).1
theorem SeqB.grown {W W' : World} {bs bp bk : Nat} {c : UInt8} {S : ByteArray} {row : Option Nat} (h : SeqB W bs bp bk c S) (hg : W.grownBy W' row) (h1 : some bs ≠ row) (h2 : some bp ≠ row) (h3 : some bk ≠ row) : SeqB W' bs bp bk c S :=
  ⟨h.s.grown hg h1, h.p.grown hg h2, h.k.grown hg h3⟩
namespace Spw
open Spc
/-- What lies in Parse's frame: the list that grows, the results' cells, the loop's record. -/
structure PW (R2 D : Nat) (rec : Loop) (pre : List (Int × Int)) (W : World) : Prop where
  out : ∃ o, Blk W (R2 + 2) 33 #[o] ∧ Owns W (D + 2) 40 2 e_ii o pre
  r2 : Blk W R2 33 #[.slice none 0 0]
  r3 : Blk W (R2 + 1) 23 #[.int .i64 0]
  ld : W.heap[D]? = some (.deferred (some []))
  lr : W.heap[D + 1]? = some (.loop rec)
  sz : D + 2 ≤ W.heap.size
  lt : R2 + 5 < D
section
variable {R2 D : Nat} {rec rec' : Loop} {pre : List (Int × Int)} {W W' : World}
theorem PW.grown {row : Option Nat} (h : PW R2 D rec pre W) (hg : W.grownBy W' row) (h0 : ∀ k, row = some k → k ≠ R2 ∧ k ≠ R2 + 1 ∧ k ≠ R2 + 2 ∧ k < D) : PW R2 D rec pre W' := by
  obtain ⟨o, h1, h2⟩ := h.out
  have hlt := h.lt
  have ne : ∀ k, (k = R2 ∨ k = R2 + 1 ∨ k = R2 + 2 ∨ D ≤ k) → some k ≠ row := fun k hk e => by
    obtain ⟨a, b, c, d⟩ := h0 k e.symm
    omega
  refine ⟨⟨o, h1.grown hg (ne _ (by simp)), h2.grownOther hg ?_⟩, h.r2.grown hg (ne _ (by simp)), h.r3.grown hg (ne _ (by simp)), (hg.block _ (ltW h.ld) (ne _ (by omega))).trans h.ld, (hg.block _ (ltW h.lr) (ne _ (by omega))).trans h.lr, Nat.le_trans h.sz hg.size, hlt⟩
  cases hv : o.ownBlock with
  | none => exact .inl rfl
  | some k => exact .inr (ne k (by have := (h2.lt k hv).1; omega))
theorem PW.below (h : PW R2 D rec pre W) (hb : Below W.heap.size W W') : PW R2 D rec pre W' := by
  obtain ⟨o, h1, h2⟩ := h.out
  exact ⟨⟨o, h1.below hb h1.lt, h2.below hb⟩, h.r2.below hb h.r2.lt, h.r3.below hb h.r3.lt, (hb.block _ (ltW h.ld)).trans h.ld, (hb.block _ (ltW h.lr)).trans h.lr, Nat.le_trans h.sz hb.size, h.lt⟩
theorem PW.drew (h : PW R2 D rec pre W) : PW R2 D rec pre W.drew := ⟨h.out, h.r2, h.r3, h.ld, h.lr, h.sz, h.lt⟩
theorem PW.put (h : PW R2 D rec pre W) : PW R2 D rec' pre (W.putObj (D + 1) (.loop rec')) := by
  have hg := gputW W (D + 1) (.loop rec')
  obtain ⟨o, h1, h2⟩ := h.out
  have hlt := h.lt
  have ne : ∀ k, k ≠ D + 1 → some k ≠ some (D + 1) := fun k hk e => hk (by injection e)
  refine ⟨⟨o, h1.grown hg (ne _ (by omega)), h2.grownOther hg ?_⟩, h.r2.grown hg (ne _ (by omega)), h.r3.grown hg (ne _ (by omega)), (hg.block _ (ltW h.ld) (ne _ (by omega))).trans h.ld, World.putObj_heap_same (ltW h.lr), Nat.le_trans h.sz hg.size, hlt⟩
  cases hv : o.ownBlock with
  | none => exact .inl rfl
  | some k => exact .inr (ne k (by have := (h2.lt k hv).1; omega))
theorem PW.grow {o v' : Value} {w1 : World} {p : Int × Int} (h : PW R2 D rec pre W) (ho1 : Blk W (R2 + 2) 33 #[o]) (ho2 : Owns W (D + 2) 40 2 e_ii o pre)
    (hg : W.grownBy w1 o.ownBlock) (hv : Owns w1 (D + 2) 40 2 e_ii v' (pre ++ [p])) : PW R2 D rec (pre ++ [p]) (w1.setCell ⟨R2 + 2, 0, none⟩ v') := by
  have hl := h.lt
  have far : ∀ k, k < D + 2 → some k ≠ o.ownBlock := fun k hk e => by have := (ho2.lt k e.symm).1; omega
  have hb1 : Blk w1 (R2 + 2) 33 #[o] := ho1.grown hg (far _ (by omega))
  have hg2 := gsetW w1 (R2 + 2) v'
  have s1 : ∀ {a b : Nat}, a ≠ b → some a ≠ some b := fun h e => h (by injection e)
  have d1 := (hg.block _ (ltW h.ld) (far _ (by omega))).trans h.ld
  have l1 := (hg.block _ (ltW h.lr) (far _ (by omega))).trans h.lr
  refine ⟨⟨v', hb1.set_ 0 v', hv.grownOther hg2 ?_⟩, (h.r2.grown hg (far _ (by omega))).grown hg2 (s1 (by omega)), (h.r3.grown hg (far _ (by omega))).grown hg2 (s1 (by omega)), (hg2.block _ (ltW d1) (s1 (by omega))).trans d1, (hg2.block _ (ltW l1) (s1 (by omega))).trans l1, Nat.le_trans (Nat.le_trans h.sz hg.size) hg2.size, hl⟩
  cases hv' : v'.ownBlock with
  | none => exact .inl rfl
  | some k => exact .inr (s1 (by have := (hv.lt k hv').1; omega))
theorem PW.alloc (h : PW R2 D rec pre W) (o : Obj) : PW R2 D rec pre (W.alloc o) := h.below ((Below.refl _ _).alloc (Nat.le_refl _) o)
end
theorem pre_is (r : ByteArray) (w : World) :
    Calls Tryd.prog 20 #[.string ((⟨#[98, 121, 116, 101, 115, 61]⟩ : ByteArray) ++ r), .string ⟨#[98, 121, 116, 101, 115, 61]⟩] w fun e w' => e = .returned (.tuple #[.string r, .bool true]) ∧ w' = w := by
  have hp : Lib.hasPrefix ((⟨#[98, 121, 116, 101, 115, 61]⟩ : ByteArray) ++ r).data.toList [98, 121, 116, 101, 115, 61] = true := by
    refine List.isPrefixOf_iff_prefix.2 ⟨sl r, ?_⟩
    show _ = sl _
    rw [sl_append]; rfl
  have ht : mkS (Lib.trimPrefix ((⟨#[98, 121, 116, 101, 115, 61]⟩ : ByteArray) ++ r).data.toList [98, 121, 116, 101, 115, 61]) = r := by
    refine sl_inj ?_
    unfold Lib.trimPrefix
    rw [if_pos hp, sl_mkS]
    show (sl (_ ++ r)).drop _ = _
    rw [sl_append]; rfl
  refine (Tryd.strings_CutPrefix _ ⟨#[98, 121, 116, 101, 115, 61]⟩ w).mono fun e w' ⟨he, hw⟩ => ⟨?_, hw⟩
  rw [he]
  show Ending.returned (.tuple #[.string (mkS (Lib.trimPrefix _ [98, 121, 116, 101, 115, 61])), .bool (Lib.hasPrefix _ [98, 121, 116, 101, 115, 61])]) = _
  rw [hp, ht]
theorem sg_le (c : UInt8) : ∀ (l cur : List UInt8), ∀ p ∈ sg c cur l, p.length ≤ cur.length + l.length
  | [], cur, p, hp => by
    rw [show sg c cur [] = [cur] from rfl, List.mem_singleton] at hp
    subst hp; simp
  | x :: l, cur, p, hp => by
    rw [sg_c] at hp
    split at hp
    · rcases List.mem_cons.1 hp with rfl | hp
      · simp
      · have := sg_le c l [] p hp; simp only [List.length_nil, List.length_cons] at *; omega
    · have := sg_le c l _ p hp; simp only [List.length_append, List.length_cons, List.length_nil] at *; omega
theorem wantInfo : ElemInfo Tryd.prog 40 (.agg #[.int .i64 0, .int .i64 0]) 2 16 := by unfold ElemInfo; kernel_rfl
theorem results_cc {fn : Func} {p u : Tmp} {tp tu : TypeId} (h : fn.results = #[.cell p tp, .cell u tu]) (tmps : Array Value) (P : Program) (w : World) (a b : Addr) (x y : Value)
    (hp : tmps.getD p undef = .pointer (some a)) (hu : tmps.getD u undef = .pointer (some b)) (h1 : (loadVar tp a).run P w = .ok x w) (h2 : (loadVar tu b).run P w = .ok y w) :
    (results fn tmps).run P w = .ok (.tuple #[x, y]) w := by
  have hp' : tmps[p]?.getD undef = .pointer (some a) := by simpa using hp
  have hu' : tmps[u]?.getD undef = .pointer (some b) := by simpa using hu
  simp [results, h, hp', hu', asAddr, h1, h2]
theorem load_wants {w : World} {g : Nat} {v : Value} (h : w.cell? ⟨g, 0, none⟩ = some v) : (loadVar 33 ⟨g, 0, none⟩).run Tryd.prog w = .ok v w := by
  simp [loadVar, isAgg, run_underlying Tryd.underlying33, h, go_sem]
theorem load_errno {w : World} {g : Nat} {v : Value} (h : w.cell? ⟨g, 0, none⟩ = some v) : (loadVar 23 ⟨g, 0, none⟩).run Tryd.prog w = .ok v w := by
  simp [loadVar, isAgg, run_underlying Tryd.underlying23, h, go_sem]
set_option maxHeartbeats 1000000 in
theorem parseW_ok (r : ByteArray) (l : List (Int × Int)) (w : World) (hr : r.size ≤ 100000) (hl : l.length ≤ 20) (hg : ∀ d ∈ l, Spn.wantB d = true) (hp : (sg 44 [] (sl r)).map Tok.trimL = l.map (fun d => wL d.1 d.2)) (he : Bd.HasErr w) :
    Calls Tryd.prog 10 #[.string ((⟨#[98, 121, 116, 101, 115, 61]⟩ : ByteArray) ++ r)] w fun e w' => (∃ v, e = .returned (.tuple #[v, .int .i64 0]) ∧ SlR w' e_ii v l) ∧ Below w.heap.size w w' := by
  have HE := Lib.hid (fun w' (hb : Below w.heap.size w w') => he.below hb)
  have HPr := Lib.hid (fun w' => pre_is r w')
  have hsl := congrArg List.length hp
  rw [List.length_map, List.length_map] at hsl
  have HP : Hid (∀ k (hk : k < l.length), ∃ p, (sg 44 [] (sl r)).drop k = p :: (sg 44 [] (sl r)).drop (k + 1) ∧ p.length ≤ 100000 ∧ Tok.trimL p = wL l[k].1 l[k].2) := by
    intro k hk
    have hk' : k < (sg 44 [] (sl r)).length := by omega
    refine ⟨(sg 44 [] (sl r))[k], List.drop_eq_getElem_cons hk', ?_, ?_⟩
    · have := sg_le 44 (sl r) [] _ (List.getElem_mem hk')
      rw [sl_len] at this; simp only [List.length_nil] at this; omega
    · have h2 : ((sg 44 [] (sl r)).map Tok.trimL)[k]? = (l.map (fun d => wL d.1 d.2))[k]? := by rw [hp]
      rw [List.getElem?_map, List.getElem?_map, List.getElem?_eq_getElem hk', List.getElem?_eq_getElem hk] at h2
      exact Option.some.inj h2
  have HG := Lib.hid hg
  have HL := Lib.hid hsl
  have HZr := Lib.hid hr
  clear hg hp he hsl hr
  generalize (⟨#[98, 121, 116, 101, 115, 61]⟩ : ByteArray) ++ r = rr at *
  have hmf : ∀ (fn : Fn) (first cap : Array Value) (w : World), (Instr.makeFunc fn first cap).run Tryd.prog w = .ok (.func fn first cap) w := fun _ _ _ _ => rfl
  refine (callsIn_wide (n := 4)).1 ?_
  refine callsIn_of_wp_marks Tryd.func10 rfl trivial ?_ rfl
  simp only [Tryd.ntmps10, List.size_toArray, List.length_cons, List.length_nil, Nat.reduceAdd, Nat.reduceSub, Array.replicate_succ, Array.replicate_zero, List.push_toArray, List.append_toArray, List.nil_append, List.cons_append]
  gi_wp2_with (refine ⟨trivial, ?_⟩; gi_at_call 20; refine (callsIn_wide.2 (HPr.out _)).mono ?_; rintro e w' ⟨rfl, rfl⟩)
  have hr2 : Blk (((w.alloc (.cells #[.slice none 0 0] 33)).alloc (.cells #[.int .i64 0] 23)).alloc (.cells #[.slice none 0 0] 33)) w.heap.size 33 #[.slice none 0 0] := ((Blk.new w _ _).alloc _).alloc _
  have hr3 : Blk (((w.alloc (.cells #[.slice none 0 0] 33)).alloc (.cells #[.int .i64 0] 23)).alloc (.cells #[.slice none 0 0] 33)) (w.heap.size + 1) 23 #[.int .i64 0] := by
    have := Blk.new (w.alloc (.cells #[.slice none 0 0] 33)) 23 #[.int .i64 0]
    rw [World.size_alloc] at this
    exact this.alloc _
  have hr4 : Blk (((w.alloc (.cells #[.slice none 0 0] 33)).alloc (.cells #[.int .i64 0] 23)).alloc (.cells #[.slice none 0 0] 33)) (w.heap.size + 2) 33 #[.slice none 0 0] := by
    have := Blk.new ((w.alloc (.cells #[.slice none 0 0] 33)).alloc (.cells #[.int .i64 0] 23)) 33 #[.slice none 0 0]
    rw [World.size_alloc, World.size_alloc] at this
    exact this
  have hb0 : Below w.heap.size w (((w.alloc (.cells #[.slice none 0 0] 33)).alloc (.cells #[.int .i64 0] 23)).alloc (.cells #[.slice none 0 0] 33)) := (((Below.refl _ w).alloc (Nat.le_refl _) _).alloc (by simp) _).alloc (by simp; omega) _
  have hz0 : (((w.alloc (.cells #[.slice none 0 0] 33)).alloc (.cells #[.int .i64 0] 23)).alloc (.cells #[.slice none 0 0] 33)).heap.size = w.heap.size + 3 := by simp
  generalize ((w.alloc (.cells #[.slice none 0 0] 33)).alloc (.cells #[.int .i64 0] 23)).alloc (.cells #[.slice none 0 0] 33) = Wa at *
  refine ⟨trivial, (callsIn_wide.2 (seq_any r 44 Wa)).mono ?_⟩
  rintro e W0 ⟨rfl, hsb, b0, hz1⟩
  have hr2 := hr2.below b0 hr2.lt
  have hr3 := hr3.below b0 hr3.lt
  have hr4 := hr4.below b0 hr4.lt
  have hb0 := belT hb0 b0
  rw [hz0] at hsb hz1 ⊢
  clear b0 hz0
  gi_wp2
  have hn1 : ∀ {a b : Nat}, a ≠ b → some a ≠ some b := fun h e => h (by injection e)
  obtain ⟨B, hB⟩ : ∃ B, B = w.heap.size + 1 + 1 := ⟨_, rfl⟩
  rw [← hB]
  have HB := Lib.hid hB
  clear hB
  refine wpIn_rangeFunc_out (n := 4) rfl (by decide) (gf := 59) (fs := #[]) (lb := #[ptrq (w.heap.size + 3 + 1), ptrq (w.heap.size + 3), ptrq (w.heap.size + 3 + 2)]) rfl trivial (enters_of Tryd.func59 (by kernel_rfl) rfl) ?_
  intro rec hF hst hpe htm hpa has hbo
  have hl1 : ((W0.alloc (.deferred (some []))).alloc (.loop rec)).heap[W0.heap.size + 1]? = some (.loop rec) := by
    have := World.alloc_heap_new (W0.alloc (.deferred (some []))) (.loop rec); rwa [World.size_alloc] at this
  have hd1 : ((W0.alloc (.deferred (some []))).alloc (.loop rec)).heap[W0.heap.size]? = some (.deferred (some [])) :=
    (Below.heap_alloc _ _ _ (by simp)).trans (World.alloc_heap_new W0 _)
  have hpw1 : PW w.heap.size W0.heap.size rec [] ((W0.alloc (.deferred (some []))).alloc (.loop rec)) :=
    ⟨⟨_, (hr4.alloc _).alloc _, Owns.nil ..⟩, (hr2.alloc _).alloc _, (hr3.alloc _).alloc _, hd1, hl1, by simp, by omega⟩
  have hb1 : Below w.heap.size w ((W0.alloc (.deferred (some []))).alloc (.loop rec)) := (hb0.alloc hb0.size _).alloc (Nat.le_trans hb0.size (le_alloc _ _)) _
  have hsb1 : SeqB ((W0.alloc (.deferred (some []))).alloc (.loop rec)) (w.heap.size + 3) (w.heap.size + 3 + 1) (w.heap.size + 3 + 2) 44 r :=
    ⟨(hsb.s.alloc _).alloc _, (hsb.p.alloc _).alloc _, (hsb.k.alloc _).alloc _⟩
  have HZ := Lib.hid hz1
  have hlen2 : (sg 44 [] (sl r)).drop l.length = [] := List.drop_eq_nil_of_le (by have := HL.out; omega)
  refine (seq_in 3 (w.heap.size + 3) (w.heap.size + 3 + 1) (w.heap.size + 3 + 2) (W0.heap.size + 1) 44 (fun rest W => ∃ k, k ≤ l.length ∧ rest = (sg 44 [] (sl r)).drop k ∧ PW w.heap.size W0.heap.size rec (l.take k) W ∧ Below w.heap.size w W)
    (fun W => PW w.heap.size W0.heap.size rec l W ∧ Below w.heap.size w W) (by decide) (by omega) (by omega) ?set ?drew ?round ?ends r _ (by have := HZr.out; omega) ⟨0, by omega, rfl, hpw1, hb1⟩ hsb1).mono ?_
  case set =>
    rintro rest W v ⟨k, hk, hrest, hpw, hb⟩
    refine ⟨k, hk, hrest, hpw.grown (gsetW W _ v) (fun j hj => ?_), hb.setCell (p := ⟨w.heap.size + 3, 0, none⟩) (by show w.heap.size ≤ w.heap.size + 3; omega) _⟩
    injection hj with hj
    omega
  case drew =>
    rintro rest W ⟨k, hk, hrest, hpw, hb⟩
    exact ⟨k, hk, hrest, hpw.drew, hb.drew⟩
  case ends =>
    rintro W ⟨k, hk, hrest, hpw, hb⟩
    have hkl : k = l.length := by
      have := congrArg List.length hrest
      have := HL.out
      simp only [List.length_nil, List.length_drop] at *
      omega
    rw [hkl, List.take_length] at hpw
    exact ⟨hpw, hb⟩
  case round =>
    rintro p rest S W ⟨k, hk, hrest, hpw, hb⟩ hsq
    have hlt : k < l.length := by
      rcases Nat.lt_or_ge k l.length with h | h
      · exact h
      · rw [show k = l.length by omega, hlen2] at hrest; cases hrest
    obtain ⟨p', hp1, hp2, hp3⟩ := HP.out k hlt
    rw [hp1] at hrest
    injection hrest with hpe' hre
    subst hpe'
    refine yieldB_of ?a1 hF hpw.lr hst hpe (by rw [hpa]; rfl) ?asg ?bod
    case asg =>
      intro K hK
      rw [has, htm, hpa]
      gi_wp2
      exact hK
    case bod =>
      have hg := gputW W (W0.heap.size + 1) (.loop { rec with state := .busy })
      have hpb : PW w.heap.size W0.heap.size { rec with state := .busy } (l.take k) (W.putObj (W0.heap.size + 1) (.loop { rec with state := .busy })) := hpw.put
      have hbb : Below w.heap.size w (W.putObj (W0.heap.size + 1) (.loop { rec with state := .busy })) := hb.grown hg (by have := hpw.sz; omega) (fun k hk => by cases hk; omega)
      have hsq2 := hsq.grown hg (hn1 (by omega)) (hn1 (by omega)) (hn1 (by omega))
      generalize W.putObj (W0.heap.size + 1) (.loop { rec with state := .busy }) = Wb at *
      have HRB : Hid (∀ W3, PW w.heap.size W0.heap.size { rec with state := .busy } (l.take (k + 1)) W3 → Below w.heap.size w W3 → SeqB W3 (w.heap.size + 3) (w.heap.size + 3 + 1) (w.heap.size + 3 + 2) 44 S →
          W3.heap[W0.heap.size + 1]? = some (.loop { rec with state := .busy }) ∧ ((∃ k', k' ≤ l.length ∧ rest = (sg 44 [] (sl r)).drop k' ∧ PW w.heap.size W0.heap.size rec (l.take k') (W3.putObj (W0.heap.size + 1) (.loop rec)) ∧ Below w.heap.size w (W3.putObj (W0.heap.size + 1) (.loop rec))) ∧ SeqB (W3.putObj (W0.heap.size + 1) (.loop rec)) (w.heap.size + 3) (w.heap.size + 3 + 1) (w.heap.size + 3 + 2) 44 S)) := by
        intro W3 h1 h2 h3
        have hg3 := gputW W3 (W0.heap.size + 1) (.loop rec)
        exact ⟨h1.lr, ⟨k + 1, hlt, hre, h1.put, h2.grown hg3 (by have := h1.sz; omega) (fun k hk => by cases hk; omega)⟩, h3.grown hg3 (hn1 (by omega)) (hn1 (by omega)) (hn1 (by omega))⟩
      generalize ({ rec with state := .busy } : Loop) = recB at *
      conv => arg 4; rw [hbo]
      clear hst hpe htm hpa has hbo hl1 hd1 hpw1 hb1 hsb1 hpw hb hsq hg hsb hr2 hr3 hr4 hb0 hp1 hre
      have hTk : Hid (l.take (k + 1) = l.take k ++ [l[k]]) := by show _ = _; rw [List.take_add_one, List.getElem?_eq_getElem hlt]; rfl
      have hw := HG.out l[k] (List.getElem_mem hlt)
      have hlk : (l.take k).length ≤ 20 := by simp; omega
      generalize l[k] = d at *
      obtain ⟨a, b⟩ := d
      have HW := Lib.hid (fun W' hb' => want_ok (mkS p) a b W' (by rw [mkS_size]; omega) (by rw [sl_mkS]; exact hp3) hw (HE.out W' hb'))
      clear hp2 hp3 hw hz1
      gi_wp2
      refine ⟨trivial, (CallsIn.inRound _ (callsIn_wide.2 (HW.out _ hbb))).mono ?_⟩
      rintro e W6 ⟨rfl, b6⟩
      have hp7 := (hpb.below b6).alloc (.cells #[.int .i64 a, .int .i64 b] 40)
      have hs7 := (hsq2.below b6 (Nat.le_refl _)).below ((Below.refl _ W6).alloc (Nat.le_refl _) (.cells #[.int .i64 a, .int .i64 b] 40)) (Nat.le_refl _)
      have hb6 := belT hbb b6
      have hb7 := hb6.alloc hb6.size (.cells #[.int .i64 a, .int .i64 b] 40)
      obtain ⟨o, ho1, ho2⟩ := hp7.out
      have b0 : (W6.alloc (.cells #[.int .i64 a, .int .i64 b] 40)).cell? ⟨B, 0, none⟩ = some o := by rw [HB.out]; exact ho1.cell 0
      obtain ⟨i0, hi, hi0, hi1, hi2⟩ := info_parts wantInfo
      have hrow : (W6.alloc (.cells #[.int .i64 a, .int .i64 b] 40)).ownsRow (W0.heap.size + 2) 40 2 o (l.take k).length ((l.take k).flatMap e_ii) := ho2
      have hz7 := hp7.sz
      generalize hpre : l.take k = pre at *
      have hnc := new_cells (W6.alloc (.cells #[.int .i64 a, .int .i64 b] 40)) [.int .i64 a, .int .i64 b] 40
      rw [World.size_alloc] at hnc
      gi_wp2_with (gi_at_builtin; refine wpListIn_append_own _ rfl _ _ 33 rfl (W0.heap.size + 2) 40 i0 (.agg #[.int .i64 0, .int .i64 0]) 2 16 Tryd.underlying33 hi hi0 hi1 hi2 rfl (by decide) _ _ _ rfl (hrow.alloc _) ⟨W6.heap.size + 1, 0, none⟩ 1 1 [.int .i64 a, .int .i64 b] rfl rfl hnc (by simp [Value.oneCell']) (by simp only [maxLen]; omega) (by omega) (by simp at hz7 ⊢; omega) ?_; intro v' w1 hown' hgrow _; obtain ⟨g', cap', rfl⟩ := ownsRow_succ hown'; have hv1 := (ho1.alloc (.cells #[.int .i64 a, .int .i64 b] 40)).grown hgrow (by intro e; have := (ho2.lt _ e.symm).1; have := HZ.out; omega); have hc1 : w1.cell? ⟨B, 0, none⟩ = some o := (by rw [HB.out]; exact hv1.cell 0); have hf1 : w1.frozen? ⟨B, 0, none⟩ = false := (by rw [HB.out]; exact hv1.frozen 0))
      have hp8 := (hp7.alloc (.cells #[.int .i64 a, .int .i64 b] 40)).grow (p := (a, b)) (ho1.alloc _) (ho2.alloc _) hgrow (v' := .slice (some ⟨g', 0, none⟩) (pre.length + 1) cap') (by
        have := hown'
        unfold Owns
        rw [List.length_append, List.flatMap_append]
        simp only [List.length_cons, List.length_nil, List.flatMap_cons, List.flatMap_nil, List.append_nil, e_ii, Nat.zero_add] at this ⊢
        exact this)
      have far : ∀ k, k < W0.heap.size + 2 → some k ≠ o.ownBlock := fun k hk e => by have := (ho2.lt k e.symm).1; omega
      have hs8 := (((hs7.below ((Below.refl _ _).alloc (Nat.le_refl _) (.cells #[.int .i64 a, .int .i64 b] 40)) (Nat.le_refl _)).grown hgrow (far _ (by have := HZ.out; omega)) (far _ (by have := HZ.out; omega)) (far _ (by have := HZ.out; omega))).grown (gsetW w1 B (.slice (some ⟨g', 0, none⟩) (pre.length + 1) cap')) (hn1 (by have := HB.out; omega)) (hn1 (by have := HB.out; omega)) (hn1 (by have := HB.out; omega)))
      have hb8 : Below w.heap.size w (w1.setCell ⟨B, 0, none⟩ (.slice (some ⟨g', 0, none⟩) (pre.length + 1) cap')) := ((hb7.alloc hb7.size _).grown hgrow (Nat.le_trans hb7.size (le_alloc _ _)) (fun k hk => by have := (ho2.lt k hk).1; have := HZ.out; omega)).setCell (p := ⟨B, 0, none⟩) (by show w.heap.size ≤ B; have := HB.out; omega) _
      refine HRB.out _ ?_ hb8 hs8
      rw [hTk.out, HB.out]
      exact hp8
  · rintro e W2 ⟨hv, hpw, hb⟩
    refine ⟨hv, _, _, hpw.lr, by rw [hst]; decide, ?_⟩
    rw [hpe]
    show Exit.inBlock _ _ _ _ _
    have hg := gputW W2 (W0.heap.size + 1) (.loop { rec with state := .exhausted, pending := none })
    have hpx : PW w.heap.size W0.heap.size { rec with state := .exhausted, pending := none } l (W2.putObj (W0.heap.size + 1) (.loop { rec with state := .exhausted, pending := none })) := hpw.put
    have hbx := hb.grown hg (by have := hpw.sz; omega) (fun k hk => by cases hk; have := HZ.out; omega)
    clear hl1 hd1 hpw1 hb1 hsb1 hpw hb hg hsb hr2 hr3 hr4 hb0 hz1 hlen2
    generalize W2.putObj (W0.heap.size + 1) (.loop { rec with state := .exhausted, pending := none }) = W3 at *
    generalize ({ rec with state := .exhausted, pending := none } : Loop) = recX at *
    obtain ⟨o, h1, h2⟩ := hpx.out
    obtain ⟨A2, c2, ho⟩ := h2.slice
    subst ho
    have b0 : W3.cell? ⟨B, 0, none⟩ = some (.slice A2 l.length c2) := by rw [HB.out]; exact h1.cell 0
    have q2 := hpx.r2.cell 0
    have q3 := hpx.r3.cell 0
    have f2 := hpx.r2.frozen 0
    have f3 := hpx.r3.frozen 0
    have d20 : decide (20 < (l.length : Int)) = false := by rw [decide_eq_false_iff_not]; omega
    gi_wp2
    have hzz := HZ.out
    have g1 := gsetW W3 w.heap.size (.slice A2 l.length c2)
    have g2 := gsetW (W3.setCell ⟨w.heap.size, 0, none⟩ (.slice A2 l.length c2)) (w.heap.size + 1) (.int .i64 0)
    have k2 : Blk ((W3.setCell ⟨w.heap.size, 0, none⟩ (.slice A2 l.length c2)).setCell ⟨w.heap.size + 1, 0, none⟩ (.int .i64 0)) w.heap.size 33 #[.slice A2 l.length c2] := (hpx.r2.set_ 0 (.slice A2 l.length c2)).grown g2 (hn1 (by omega))
    have k3 : Blk ((W3.setCell ⟨w.heap.size, 0, none⟩ (.slice A2 l.length c2)).setCell ⟨w.heap.size + 1, 0, none⟩ (.int .i64 0)) (w.heap.size + 1) 23 #[.int .i64 0] := (hpx.r3.grown g1 (hn1 (by omega))).set_ 0 (.int .i64 0)
    have d1 := (g1.block _ (ltW hpx.ld) (hn1 (by omega))).trans hpx.ld
    have hKd := (g2.block _ (ltW d1) (hn1 (by omega))).trans d1
    have own := fun (k : Nat) (hk : k < W0.heap.size + 2) => show (Value.slice A2 l.length c2).ownBlock = none ∨ (Value.slice A2 l.length c2).ownBlock ≠ some k by
      cases hv : (Value.slice A2 l.length c2).ownBlock with
      | none => exact .inl rfl
      | some j => exact .inr (hn1 (by have := (h2.lt j hv).1; omega))
    have h2b := (h2.grownOther g1 (own _ (by omega))).grownOther g2 (own _ (by omega))
    have hbz := (hbx.setCell (p := ⟨w.heap.size, 0, none⟩) (Nat.le_refl _) (.slice A2 l.length c2)).setCell (p := ⟨w.heap.size + 1, 0, none⟩) (Nat.le_succ _) (.int .i64 0)
    have hsz4 := (hpx.sz)
    have hsz5 := g1.size
    have hsz6 := g2.size
    generalize (W3.setCell ⟨w.heap.size, 0, none⟩ (.slice A2 l.length c2)).setCell ⟨w.heap.size + 1, 0, none⟩ (.int .i64 0) = W4 at *
    refine ⟨by simp, .inl ⟨_, _, rfl, run_takeDeferred hKd, ?_⟩⟩
    have hg5 := gputW W4 W0.heap.size (.deferred none)
    exact ⟨_, results_cc rfl _ _ _ ⟨w.heap.size, 0, none⟩ ⟨w.heap.size + 1, 0, none⟩ (.slice A2 l.length c2) (.int .i64 0) rfl rfl (load_wants ((k2.grown hg5 (hn1 (by omega))).cell 0)) (load_errno ((k3.grown hg5 (hn1 (by omega))).cell 0)), ⟨_, rfl, SlR.of_owns (h2b.grownOther hg5 (own _ (by omega)))⟩, hbz.grown hg5 (by omega) (fun k hk => by cases hk; omega)⟩
end Spw
end Go.Proofs.YthhhlaoiampinaaDoor
