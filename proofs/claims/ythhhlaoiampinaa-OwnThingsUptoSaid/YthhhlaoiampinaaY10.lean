/- A list that grows in the rounds of a range over a function; Row's Keys. -/
import Derived.Test.YthhhlaoiampinaaY9
import Derived.Test.YthhhlaoiampinaaY3
import Derived.Test.YthhhlaoiampinaaY1
import Derived.OrdersIn
namespace Go.Proofs.Ythhhlaoiampinaa
set_option maxRecDepth 20000
open Go.RowKit Go.Shelf
attribute [local go_sem] Oper.semAt_some
/-- What lies in the loop's frame: the list that grows, the loop's record. -/
structure OL (B D : Nat) (rec : Loop) (pre : List ByteArray) (W : World) : Prop where
  out : ∃ o, Blk W B 42 #[o] ∧ Owns W (D + 2) 9 1 es o pre
  ld : W.heap[D]? = some (.deferred (some []))
  lr : W.heap[D + 1]? = some (.loop rec)
  sz : D + 2 ≤ W.heap.size
  lt : B < D
def lenAt (W : World) (B : Nat) : Nat := match W.cell? ⟨B, 0, none⟩ with | some (.slice _ n _) => n | _ => 0
theorem gput (w : World) (l : Nat) (o : Obj) : w.grownBy (w.putObj l o) (some l) :=
  ⟨rfl, rfl, rfl, by simp [World.putObj], fun k hk hne => World.putObj_heap_other (by intro e; exact hne (by rw [e]))⟩
section
variable {B D : Nat} {rec rec' : Loop} {pre : List ByteArray} {W W' : World}
theorem OL.len (h : OL B D rec pre W) : lenAt W B = pre.length := by
  obtain ⟨o, h1, h2⟩ := h.out
  unfold lenAt
  rw [h1.cell 0]
  rcases h2.form with ⟨rfl, rfl⟩ | ⟨g, c, rfl⟩ <;> rfl
theorem OL.put (h : OL B D rec pre W) : OL B D rec' pre (W.putObj (D + 1) (.loop rec')) := by
  have hg := gput W (D + 1) (.loop rec')
  obtain ⟨o, h1, h2⟩ := h.out
  refine ⟨⟨o, Blk.keptR h1 hg (by intro e; injection e with e; have := h.lt; omega), h2.grownOther hg ?_⟩, (hg.block _ (heap_lt' h.ld) (by simp)).trans h.ld, World.putObj_heap_same (heap_lt' h.lr), Nat.le_trans h.sz hg.size, h.lt⟩
  cases hv : o.ownBlock with
  | none => exact .inl rfl
  | some k => exact .inr fun e => by injection e with e; have := (h2.lt k hv).1; omega
theorem OL.rf {ex : List TypeId} {n0 : Nat} (h : OL B D rec pre W) (hr : RF ex n0 W W') (h1 : ex.contains 42 = false) (h2 : ex.contains 9 = false) : OL B D rec pre W' := by
  obtain ⟨o, g1, g2⟩ := h.out
  exact ⟨⟨o, g1.rf hr h1, g2.rf hr h2⟩, hr.fr _ _ h.ld rfl, hr.fr _ _ h.lr rfl, Nat.le_trans h.sz hr.size, h.lt⟩
theorem OL.drew (h : OL B D rec pre W) : OL B D rec pre W.drew := ⟨h.out, h.ld, h.lr, h.sz, h.lt⟩
theorem OL.grow {o v' : Value} {w1 : World} {p : ByteArray} (h : OL B D rec pre W) (ho1 : Blk W B 42 #[o]) (ho2 : Owns W (D + 2) 9 1 es o pre)
    (hg : W.grownBy w1 o.ownBlock) (hv : Owns w1 (D + 2) 9 1 es v' (pre ++ [p])) : OL B D rec (pre ++ [p]) (w1.setCell ⟨B, 0, none⟩ v') := by
  have hl := h.lt
  have far : ∀ k, k < D + 2 → some k ≠ o.ownBlock := fun k hk e => by have := (ho2.lt k e.symm).1; omega
  have hb1 : Blk w1 B 42 #[o] := Blk.keptR ho1 hg (far _ (by omega))
  have hg2 : w1.grownBy (w1.setCell ⟨B, 0, none⟩ v') (some B) := ⟨rfl, rfl, rfl, by simp [World.setCell], fun k _ hne => Below.heap_setCell _ _ _ _ (fun e => hne (by rw [e]))⟩
  have s1 : ∀ {a b : Nat}, a ≠ b → some a ≠ some b := fun h e => h (by injection e)
  have d1 := (hg.block _ (heap_lt' h.ld) (far _ (by omega))).trans h.ld
  have l1 := (hg.block _ (heap_lt' h.lr) (far _ (by omega))).trans h.lr
  refine ⟨⟨v', hb1.set_ 0 v', hv.grownOther hg2 ?_⟩, (hg2.block _ (heap_lt' d1) (s1 (by omega))).trans d1, (hg2.block _ (heap_lt' l1) (s1 (by omega))).trans l1, Nat.le_trans (Nat.le_trans h.sz hg.size) hg2.size, hl⟩
  cases hv' : v'.ownBlock with
  | none => exact .inl rfl
  | some k => exact .inr (s1 (by have := (hv.lt k hv').1; omega))
theorem OL.alloc (h : OL B D rec pre W) (o : Obj) : OL B D rec pre (W.alloc o) := h.rf (ex := []) (n0 := 0) ((RF.refl _ _ _).alloc (Nat.zero_le _) o) rfl rfl
end
theorem RowS.keptO {w w' : World} {n0 p c mb : Nat} {room : Int} {ns : List Nd} {row : Option Nat} (h : RowS w n0 p room c mb ns) (hg : w.grownBy w' row) (hrow : ∀ k, row = some k → ∃ o, w.heap[k]? = some o ∧ okObj RY o = true) : RowS w' n0 p room c mb ns := by
  have ne : ∀ {k : Nat} {t : TypeId} {cs : Array Value}, Blk w k t cs → RY.contains t = true → some k ≠ row := fun {k t cs} hb ht e => by
    obtain ⟨o, ho, hk⟩ := hrow k e.symm
    unfold Blk at hb
    rw [hb] at ho
    cases ho
    simp only [okObj, ht] at hk
    cases hk
  refine ⟨Blk.keptR h.blk hg (ne h.blk (by decide)), h.p0, h.ch.kept hg ?_ ?_ ?_, h.rm, h.sz, h.us, h.ks⟩
  · obtain ⟨_, _, hb⟩ := h.ch.root
    exact ne hb (by decide)
  · intro e
    obtain ⟨o, ho, hk⟩ := hrow mb e.symm
    obtain ⟨es, ck, hm⟩ := h.ch.mp.isMapObj
    rw [hm] at ho
    cases ho
    cases hk
  · intro x hx
    obtain ⟨_, _, hb⟩ := h.ch.node x hx
    exact ne hb (by decide)
theorem ring_first {w : World} {n0 c mb : Nat} {ns : List Nd} (h : Chn w n0 c mb ns) : w.cell? ⟨c, 3, none⟩ = some (ptr (hdB ns c)) := by
  have := h.ring
  cases ns with
  | nil => exact this.1.1
  | cons x ns => exact this.1.1
/-- What follows one in the chain. -/
theorem ring_next {w : World} {n0 c mb : Nat} {l r : List Nd} {x : Nd} (h : Chn w n0 c mb (l ++ x :: r)) : w.cell? ⟨x.1, 3, none⟩ = some (ptr (hdB r c)) := by
  have hr := h.ring
  rw [show c :: ((l ++ x :: r).map (·.1) ++ [c]) = (c :: l.map (·.1)) ++ x.1 :: (r.map (·.1) ++ [c]) by rw [List.map_append, List.map_cons, List.append_assoc]; rfl] at hr
  cases r with
  | nil => exact (links_next (xs := c :: l.map (·.1)) (ys := []) hr).1
  | cons y r => exact (links_next (xs := c :: l.map (·.1)) (ys := r.map (·.1) ++ [c]) hr).1
set_option maxHeartbeats 2000000 in
theorem keys_any (n0 p c mb : Nat) (room : Int) (ns : List Nd) (w : World) (h : RowS w n0 p room c mb ns) :
    Calls Try.prog 27 #[ptr p] w fun e w' => ∃ v, e = .returned v ∧ Owns w' w.heap.size 9 1 es v (ns.map (·.2.1)) ∧ Below w.heap.size w w' := by
  have hlen := h.len
  have p2 : (w.alloc (.cells #[.slice none 0 0] 42)).cell? ⟨p, 2, none⟩ = some (ptr c) := (h.alloc _).blk.cell 2
  have H := Lib.hid h
  clear h
  refine (callsIn_wide (n := 4)).1 ?_
  refine callsIn_of_wp_marks Try.func27 rfl trivial ?_ rfl
  simp only [Try.ntmps27, List.size_toArray, List.length_cons, List.length_nil, Nat.reduceAdd, Nat.reduceSub, Array.replicate_succ, Array.replicate_zero, List.push_toArray, List.append_toArray, List.nil_append, List.cons_append]
  have hmf : ∀ (fn : Fn) (first cap : Array Value) (w : World), (Instr.makeFunc fn first cap).run Try.prog w = .ok (.func fn first cap) w := fun _ _ _ _ => rfl
  have hB0 : Blk (w.alloc (.cells #[.slice none 0 0] 42)) w.heap.size 42 #[.slice none 0 0] := Blk.new w _ _
  have hb0 : Below w.heap.size w (w.alloc (.cells #[.slice none 0 0] 42)) := (Below.refl _ w).alloc (Nat.le_refl _) _
  have hz0 : (w.alloc (.cells #[.slice none 0 0] 42)).heap.size = w.heap.size + 1 := by simp
  gi_wp2
  generalize w.alloc (.cells #[.slice none 0 0] 42) = W0 at *
  refine wpIn_rangeFunc_out (n := 4) rfl (by decide) (gf := 63) (fs := #[ptr c]) (lb := #[]) rfl trivial (enters_of Try.func63 (by kernel_rfl) rfl) ?_
  intro rec hF hst hpe htm hpa has hbo
  have hl1 : ((W0.alloc (.deferred (some []))).alloc (.loop rec)).heap[W0.heap.size + 1]? = some (.loop rec) := by
    have := World.alloc_heap_new (W0.alloc (.deferred (some []))) (.loop rec); rwa [World.size_alloc] at this
  have hd1 : ((W0.alloc (.deferred (some []))).alloc (.loop rec)).heap[W0.heap.size]? = some (.deferred (some [])) :=
    (Below.heap_alloc _ _ _ (by simp)).trans (World.alloc_heap_new W0 _)
  have hol1 : OL w.heap.size W0.heap.size rec [] ((W0.alloc (.deferred (some []))).alloc (.loop rec)) :=
    ⟨⟨_, (hB0.alloc _).alloc _, Owns.nil ..⟩, hd1, hl1, by simp, by omega⟩
  have hb1 : Below w.heap.size w ((W0.alloc (.deferred (some []))).alloc (.loop rec)) := (hb0.alloc hb0.size _).alloc (Nat.le_trans hb0.size (le_alloc _ _)) _
  have HZ := Lib.hid hz0
  refine (all_in 3 c (W0.heap.size + 1) (fun rest W => ∃ pre, ns = pre ++ rest ∧ OL w.heap.size W0.heap.size rec (pre.map (·.2.1)) W ∧ Below w.heap.size w W)
    (fun W => OL w.heap.size W0.heap.size rec (ns.map (·.2.1)) W ∧ Below w.heap.size w W) (fun W => ns.length - lenAt W w.heap.size) (by decide) ?mu ?drew ?key ?round ?ends ns _ ⟨[], rfl, hol1, hb1⟩ ?first).mono ?_
  case mu =>
    rintro rest W ⟨pre, he, ho, _⟩
    show ns.length - lenAt W w.heap.size = _
    rw [ho.len, he]
    simp
  case drew =>
    rintro rest W ⟨pre, he, ho, hb⟩
    exact ⟨pre, he, ho.drew, hb.drew⟩
  case key =>
    rintro x rest W ⟨pre, he, ho, hb⟩
    have hR := (H.out.below hb).ch
    exact ⟨hR.node x (by rw [he]; simp), hR.ne_root x (by rw [he]; simp), mb, hR.root⟩
  case ends =>
    rintro W ⟨pre, he, ho, hb⟩
    rw [List.append_nil] at he
    subst he
    exact ⟨ho, hb⟩
  case first => exact ring_first (H.out.below hb1).ch
  case round =>
    rintro x rest W ⟨pre, he, ho, hb⟩
    have hnx := ring_next (l := pre) (r := rest) (x := x) (by rw [← he]; exact H.out.ch)
    have hxl : x.1 < w.heap.size := (H.out.ch.node x (by rw [he]; simp)).lt
    refine yieldB_of { tmps := #[ptr p, undef, .slice none 0 0, ptr w.heap.size, .string x.2.1, ptr p, ptr p, .pointer (some ⟨p, 2, none⟩), ptr c, .func (.func 63) #[ptr c] #[], .string x.2.1, undef, undef, undef, undef, undef], defers := [] } hF ho.lr hst hpe (by rw [hpa]; rfl) ?_ ?_
    · intro K hK
      rw [has, htm, hpa]
      gi_wp2
      exact hK
    · have hob : OL w.heap.size W0.heap.size { rec with state := .busy } (pre.map (·.2.1)) (W.putObj (W0.heap.size + 1) (.loop { rec with state := .busy })) := ho.put
      have hbb : Below w.heap.size w (W.putObj (W0.heap.size + 1) (.loop { rec with state := .busy })) := hb.grown (gput _ _ _) (by have := ho.sz; omega) (fun k hk => by cases hk; omega)
      have hpl : pre.length + 1 ≤ 1000000 := by have := congrArg List.length he; simp only [List.length_append, List.length_cons] at this; omega
      generalize W.putObj (W0.heap.size + 1) (.loop { rec with state := .busy }) = Wb at *
      have HRB : Hid (∀ W3, OL w.heap.size W0.heap.size { rec with state := .busy } ((pre ++ [x]).map (·.2.1)) W3 → Below w.heap.size w W3 → W3.heap[W0.heap.size + 1]? = some (.loop { rec with state := .busy }) ∧ ((∃ pre', ns = pre' ++ rest ∧ OL w.heap.size W0.heap.size rec (pre'.map (·.2.1)) (W3.putObj (W0.heap.size + 1) (.loop rec)) ∧ Below w.heap.size w (W3.putObj (W0.heap.size + 1) (.loop rec))) ∧ (W3.putObj (W0.heap.size + 1) (.loop rec)).cell? ⟨x.1, 3, none⟩ = some (ptr (hdB rest c)))) := by
        intro W3 h1 h2
        have hb3 : Below w.heap.size w (W3.putObj (W0.heap.size + 1) (.loop rec)) := h2.grown (gput _ _ _) (by have := h1.sz; omega) (fun k hk => by cases hk; omega)
        exact ⟨h1.lr, ⟨pre ++ [x], by rw [he, List.append_assoc]; rfl, h1.put, hb3⟩, (hb3.cell (p := ⟨x.1, 3, none⟩) hxl).trans hnx⟩
      generalize ({ rec with state := .busy } : Loop) = recB at *
      rw [hbo]
      clear hst hpe htm hpa has hbo hl1 hd1 hol1 hb1 ho hb hz0 hB0 hb0 hnx hxl he
      obtain ⟨o, ho1, ho2⟩ := hob.out
      have b0 := ho1.cell 0
      obtain ⟨i0, hi, hi0, hi1, hi2⟩ := info_parts stringInfo
      have hrow : Wb.ownsRow (W0.heap.size + 2) 9 1 o (pre.map (·.2.1)).length ((pre.map (·.2.1)).flatMap es) := ho2
      have hml : (pre.map (·.2.1)).length = pre.length := List.length_map ..
      gi_wp2_with (gi_at_builtin; refine wpListIn_append_own _ rfl _ _ 42 rfl (W0.heap.size + 2) 9 i0 (.string ByteArray.empty) 1 16 Try.underlying42 hi hi0 hi1 hi2 rfl (by decide) _ _ _ rfl (hrow.alloc _) ⟨Wb.heap.size, 0, none⟩ 1 1 [.string x.2.1] rfl rfl (new_cells _ [.string x.2.1] _) (by simp [Value.oneCell']) (by rw [hml]; simp only [maxLen]; omega) (by rw [hml]; omega) (by have := hob.sz; simp; omega) ?_; intro v' w1 hown' hgrow _; obtain ⟨g', cap', rfl⟩ := ownsRow_succ hown'; have hv1 := Blk.keptR (ho1.alloc (.cells #[.string x.2.1] 9)) hgrow (by intro e; have := (ho2.lt _ e.symm).1; have := HZ.out; omega); have hc1 := hv1.cell 0; have hf1 := hv1.frozen 0)
      have hol3 := (OL.alloc hob (.cells #[.string x.2.1] 9)).grow (p := x.2.1) (ho1.alloc _) (ho2.alloc _) hgrow (v' := .slice (some ⟨g', 0, none⟩) (pre.length + 1) cap') (by
        have := hown'
        unfold Owns
        rw [List.length_append, List.flatMap_append]
        simp only [List.length_cons, List.length_nil, List.flatMap_cons, List.flatMap_nil, List.append_nil, es, Nat.zero_add, hml] at this ⊢
        exact this)
      have hbe3 : Below w.heap.size w (w1.setCell ⟨w.heap.size, 0, none⟩ (.slice (some ⟨g', 0, none⟩) (pre.length + 1) cap')) := ((hbb.alloc (by have := hob.sz; have := HZ.out; omega) _).grown hgrow (by have := hob.sz; have := HZ.out; simp; omega) (fun k hk => by have := (ho2.lt k hk).1; have := HZ.out; omega)).setCell (p := ⟨w.heap.size, 0, none⟩) (Nat.le_refl _) _
      rw [← List.map_singleton (f := fun x : Nd => x.2.1), ← List.map_append] at hol3
      exact HRB.out _ hol3 hbe3
  · rintro e W2 ⟨hv, ho2, hb2⟩
    refine ⟨hv, _, _, ho2.lr, by rw [hst]; decide, ?_⟩
    rw [hpe]
    show Exit.inBlock _ _ _ _ _
    have ho3 : OL w.heap.size W0.heap.size { rec with state := .exhausted, pending := none } (ns.map (·.2.1)) (W2.putObj (W0.heap.size + 1) (.loop { rec with state := .exhausted, pending := none })) := ho2.put
    have hb3 : Below w.heap.size w (W2.putObj (W0.heap.size + 1) (.loop { rec with state := .exhausted, pending := none })) := hb2.grown (gput _ _ _) (by have := ho2.sz; omega) (fun k hk => by cases hk; omega)
    clear hl1 hd1 hol1 hb1 hB0 hb0 hz0
    generalize W2.putObj (W0.heap.size + 1) (.loop { rec with state := .exhausted, pending := none }) = W3 at *
    generalize ({ rec with state := .exhausted, pending := none } : Loop) = recX at *
    obtain ⟨o, h1, h2⟩ := ho3.out
    have b1 := h1.cell 0
    have hK := ho3.ld
    gi_wp2
    refine ⟨by simp, .inl ⟨_, _, rfl, run_takeDeferred hK, ?_⟩⟩
    have hg4 := gput W3 W0.heap.size (.deferred none)
    refine ⟨_, results_tmp rfl _ _ _, o, rfl, ?_, hb3.grown hg4 (by have := ho3.sz; have := HZ.out; omega) (fun k hk => by cases hk; have := HZ.out; omega)⟩
    refine (h2.mono (by have := HZ.out; omega)).grownOther hg4 ?_
    cases hv : o.ownBlock with
    | none => exact .inl rfl
    | some k => exact .inr fun e => by injection e with e; have := (h2.lt k hv).1; omega
end Go.Proofs.Ythhhlaoiampinaa
namespace Go.Proofs.Ythhhlaoiampinaa
set_option maxRecDepth 20000
open Go.RowKit Go.Shelf
structure PileT (w : World) (n0 p : Nat) (room U : Int) (mb : Nat) (es : List Pe) : Prop where
  blk : Blk w p 107 #[.int .i64 room, .int .i64 U, .map (some mb)]
  node : ∀ x ∈ es, Blk w x.b 109 #[.string x.t, .int .i64 x.c]
  mp : MapS Try.prog w 9 mb (pF es) es.length
  nd : (es.map (·.b)).Nodup
  kd : (es.map (·.n)).Nodup
  b0 : n0 ≤ p ∧ n0 ≤ mb ∧ ∀ x ∈ es, n0 ≤ x.b
theorem nodup_inj {α β : Type} {f : α → β} : ∀ {l : List α}, (l.map f).Nodup → ∀ {a b : α}, a ∈ l → b ∈ l → f a = f b → a = b
  | [], _, _, _, h, _, _ => by cases h
  | y :: l, hn, a, b, ha, hb, he => by
    rw [List.map_cons, List.nodup_cons] at hn
    rcases List.mem_cons.1 ha with h1 | ha
    · rcases List.mem_cons.1 hb with h2 | hb
      · rw [h1, h2]
      · exact absurd (List.mem_map.2 ⟨b, hb, by rw [← he, h1]⟩) hn.1
    · rcases List.mem_cons.1 hb with h2 | hb
      · exact absurd (List.mem_map.2 ⟨a, ha, by rw [he, h2]⟩) hn.1
      · exact nodup_inj hn.2 ha hb he
abbrev RP : List TypeId := [107, 109]
section
variable {w w' : World} {n0 p mb : Nat} {room U : Int} {es : List Pe}
theorem PileS.toT (h : PileS w n0 p room mb es) : PileT w n0 p room (usedP es) mb es := ⟨h.blk, h.node, h.mp, h.nd, h.kd, h.b0⟩
theorem PileT.toS (h : PileT w n0 p room (usedP es) mb es) (rm : 1 ≤ room ∧ room ≤ 1000000) (sz : ∀ x ∈ es, 1 ≤ x.t.size) (us : usedP es ≤ room) : PileS w n0 p room mb es := ⟨h.blk, h.node, h.mp, h.nd, h.kd, h.b0, rm, sz, us⟩
theorem PileT.kept {row : Option Nat} (h : PileT w n0 p room U mb es) (hg : w.grownBy w' row) (hp : some p ≠ row) (hm : some mb ≠ row) (hn : ∀ x ∈ es, some x.b ≠ row) : PileT w' n0 p room U mb es :=
  ⟨Blk.keptR h.blk hg hp, fun x hx => Blk.keptR (h.node x hx) hg (hn x hx), h.mp.kept hg hm, h.nd, h.kd, h.b0⟩
theorem PileT.drew (h : PileT w n0 p room U mb es) : PileT w.drew n0 p room U mb es := ⟨h.blk.drew, fun x hx => (h.node x hx).drew, h.mp.drew, h.nd, h.kd, h.b0⟩
theorem PileT.alloc (h : PileT w n0 p room U mb es) (o : Obj) : PileT (w.alloc o) n0 p room U mb es := h.kept (World.grownBy_alloc w o none) (by simp) (by simp) (fun _ _ => by simp)
theorem PileT.below (h : PileT w n0 p room U mb es) (hb : Below w.heap.size w w') : PileT w' n0 p room U mb es :=
  h.kept (row := none) ⟨hb.os, hb.tape, hb.output, hb.size, fun k hk _ => hb.block k hk⟩ (by simp) (by simp) (fun _ _ => by simp)
/-- A block that lies behind all of the pile's. -/
theorem PileT.far {g : Nat} (h : PileT w n0 p room U mb es) (hg : w.grownBy w' (some g)) {S : World} (hS : PileT S n0 p room U mb es) (hge : S.heap.size ≤ g) : PileT w' n0 p room U mb es := by
  refine h.kept hg (fun e => ?_) (fun e => ?_) (fun x hx e => ?_)
  · injection e with e; have := hS.blk.lt; omega
  · injection e with e; have := hS.mp.lt; omega
  · injection e with e; have := (hS.node x hx).lt; omega
/-- A block of another kind. -/
theorem PileT.keptO {row : Option Nat} (h : PileT w n0 p room U mb es) (hg : w.grownBy w' row) (hrow : ∀ k, row = some k → ∃ o, w.heap[k]? = some o ∧ okObj RP o = true) : PileT w' n0 p room U mb es := by
  refine h.kept hg (fun e => ?_) (fun e => ?_) (fun x hx e => ?_)
  · obtain ⟨o, ho, hk⟩ := hrow _ e.symm
    have hb : w.heap[p]? = _ := h.blk
    rw [hb] at ho
    cases ho
    cases hk
  · obtain ⟨o, ho, hk⟩ := hrow _ e.symm
    obtain ⟨e1, c1, hm⟩ := h.mp.isMapObj
    rw [hm] at ho
    cases ho
    cases hk
  · obtain ⟨o, ho, hk⟩ := hrow _ e.symm
    have hb : w.heap[x.b]? = _ := h.node x hx
    rw [hb] at ho
    cases ho
    cases hk
theorem pF_add {es : List Pe} {x : Pe} (h : ∀ y ∈ es, y.n ≠ x.n) (k : ByteArray) : fput (pF es) x.n (ptr x.b) k = pF (es ++ [x]) k := by
  unfold fput
  by_cases hk : k = x.n
  · subst hk
    rw [if_pos rfl]
    unfold pF
    rw [List.find?_append, List.find?_eq_none.2 (fun y hy => by simpa using h y hy)]
    simp
  · rw [if_neg hk]
    unfold pF
    rw [List.find?_append]
    have : ¬ x.n = k := fun e => hk e.symm
    simp [this]
/-- A new piece: its block, then its name in the map. -/
theorem PileT.add {x : Pe} (h : PileT w n0 p room U mb es) (hx : x.b = w.heap.size) (hk : ∀ y ∈ es, y.n ≠ x.n) (hn : n0 ≤ w.heap.size)
    (hm : MapS Try.prog w' 9 mb (fput (pF es) x.n (ptr x.b)) (if ((pF es) x.n).isSome then es.length else es.length + 1)) (hg : (w.alloc (.cells #[.string x.t, .int .i64 x.c] 109)).grownBy w' (some mb)) : PileT w' n0 p room U mb (es ++ [x]) := by
  have hB : Blk (w.alloc (.cells #[.string x.t, .int .i64 x.c] 109)) x.b 109 #[.string x.t, .int .i64 x.c] := by rw [hx]; exact Blk.new w _ _
  have hA := h.alloc (.cells #[.string x.t, .int .i64 x.c] 109)
  have hne : ∀ {g : Nat} {t : TypeId} {cs : Array Value}, Blk (w.alloc (.cells #[.string x.t, .int .i64 x.c] 109)) g t cs → some g ≠ some mb := fun hb e => by
    injection e with e
    exact hA.mp.ne_blk hb e.symm
  refine ⟨Blk.keptR hA.blk hg (hne hA.blk), fun y hy => ?_, hm.congr (pF_add hk) (by rw [pF_none hk]; simp), ?_, ?_, h.b0.1, h.b0.2.1, fun y hy => ?_⟩
  · rcases List.mem_append.1 hy with hy | hy
    · exact Blk.keptR (hA.node y hy) hg (hne (hA.node y hy))
    · rw [List.mem_singleton.1 hy]
      exact Blk.keptR hB hg (hne hB)
  · rw [List.map_append, List.nodup_append]
    refine ⟨h.nd, by simp, fun a ha b hb => ?_⟩
    obtain ⟨y, hy, rfl⟩ := List.mem_map.1 ha
    simp only [List.map_cons, List.map_nil, List.mem_singleton] at hb
    rw [hb, hx]
    have := (h.node y hy).lt
    omega
  · rw [List.map_append, List.nodup_append]
    refine ⟨h.kd, by simp, fun a ha b hb => ?_⟩
    obtain ⟨y, hy, rfl⟩ := List.mem_map.1 ha
    simp only [List.map_cons, List.map_nil, List.mem_singleton] at hb
    rw [hb]
    exact hk y hy
  · rcases List.mem_append.1 hy with hy | hy
    · exact h.b0.2.2 y hy
    · rw [List.mem_singleton.1 hy, hx]; exact hn
/-- One count, one more. -/
theorem PileT.more {ds : List ByteArray} {t : ByteArray} {x : Pe} (h : PileT w n0 p room U mb (inc ds es)) (hx : x ∈ es) (ht : x.n = hxn t) :
    PileT (w.setCell ⟨x.b, 1, none⟩ (.int .i64 (x.c + (cntN ds x.n : Int) + 1))) n0 p room U mb (inc (ds ++ [t]) es) := by
  have hxi : ({ x with c := x.c + (cntN ds x.n : Int) } : Pe) ∈ inc ds es := List.mem_map.2 ⟨x, hx, rfl⟩
  have hbx : Blk w x.b 109 #[.string x.t, .int .i64 (x.c + (cntN ds x.n : Int))] := h.node _ hxi
  have hnd : (es.map (·.b)).Nodup := by have := h.nd; rwa [inc_b] at this
  have hkd : (es.map (·.n)).Nodup := by have := h.kd; rwa [inc_n] at this
  have hpb : p ≠ x.b := by
    intro e
    have hb := h.blk
    unfold Blk at hb hbx
    rw [e, hbx] at hb
    cases hb
  refine ⟨Blk.far h.blk hpb _, fun y hy => ?_, (h.mp.setCell hbx _).congr (fun k => by rw [pF_inc, pF_inc]) (by simp [inc]), by rw [inc_b]; exact hnd, by rw [inc_n]; exact hkd, h.b0.1, h.b0.2.1, fun y hy => ?_⟩
  · obtain ⟨z, hz, rfl⟩ := List.mem_map.1 hy
    by_cases hzx : z = x
    · subst hzx
      have := hbx.set_ 1 (.int .i64 (z.c + (cntN ds z.n : Int) + 1))
      have e : z.c + (cntN ds z.n : Int) + 1 = z.c + (cntN (ds ++ [t]) z.n : Int) := by rw [cntN_snoc, if_pos ht.symm]; omega
      rw [← e]
      exact this
    · have hzb : z.b ≠ x.b := fun e => hzx (nodup_inj hnd hz hx e)
      have hzn : ¬ hxn t = z.n := fun e => hzx (nodup_inj hkd hz hx (e.symm.trans ht.symm))
      have hbz : Blk w z.b 109 #[.string z.t, .int .i64 (z.c + (cntN ds z.n : Int))] := h.node _ (List.mem_map.2 ⟨z, hz, rfl⟩)
      have := Blk.far hbz hzb (p := ⟨x.b, 1, none⟩) (.int .i64 (x.c + (cntN ds x.n : Int) + 1))
      have e : cntN (ds ++ [t]) z.n = cntN ds z.n := by rw [cntN_snoc, if_neg hzn, Nat.add_zero]
      show Blk _ z.b _ #[_, .int .i64 (z.c + (cntN (ds ++ [t]) z.n : Int))]
      rw [e]
      exact this
  · obtain ⟨z, hz, rfl⟩ := List.mem_map.1 hy
    exact h.b0.2.2 { z with c := z.c + (cntN ds z.n : Int) } (List.mem_map.2 ⟨z, hz, rfl⟩)
end
/-! ### Frames by type, with one map named. -/
/-- Not one of these types' cells, and not this map. -/
def okG (ex : List TypeId) (mb k : Nat) : Obj → Bool
  | .cells _ t _ => !ex.contains t
  | .map _ _ => !decide (k = mb)
  | _ => true
/-- Below n0 nothing has turned, nor has anything that is of other types, nor any other map. -/
structure RG (ex : List TypeId) (mb n0 : Nat) (w w' : World) : Prop where
  bel : Below n0 w w'
  fr : ∀ (k : Nat) (o : Obj), w.heap[k]? = some o → okG ex mb k o = true → w'.heap[k]? = some o
section
variable {ex : List TypeId} {mb n0 : Nat} {w w' w'' : World}
theorem okG_of {k : Nat} {o : Obj} (h : okObj ex o = true) : okG ex mb k o = true := by
  cases o <;> first | exact h | cases h | rfl
theorem RG.toRF (h : RG ex mb n0 w w') : RF ex n0 w w' := ⟨h.bel, fun k o hk ho => h.fr k o hk (okG_of ho)⟩
theorem RG.refl (ex : List TypeId) (mb n0 : Nat) (w : World) : RG ex mb n0 w w := ⟨Below.refl _ _, fun _ _ h _ => h⟩
theorem RG.trans (h : RG ex mb n0 w w') (k : RG ex mb n0 w' w'') : RG ex mb n0 w w'' := ⟨h.bel.trans k.bel, fun i o hi ho => k.fr i o (h.fr i o hi ho) ho⟩
theorem RG.size (h : RG ex mb n0 w w') : w.heap.size ≤ w'.heap.size := h.bel.size
theorem RG.drew (h : RG ex mb n0 w w') : RG ex mb n0 w w'.drew := ⟨h.bel.drew, h.fr⟩
theorem RG.grownN {row : Option Nat} (h : RG ex mb n0 w w') (hg : w'.grownBy w'' row) (hn : n0 ≤ w'.heap.size) (hrow : ∀ k, row = some k → n0 ≤ k ∧ (w.heap.size ≤ k ∨ ∃ o, w'.heap[k]? = some o ∧ okG ex mb k o = false)) : RG ex mb n0 w w'' := by
  refine ⟨h.bel.grown hg hn (fun k hk => (hrow k hk).1), fun i o hi ho => ?_⟩
  have h1 := h.fr i o hi ho
  refine (hg.block i (heap_lt' h1) (fun e => ?_)).trans h1
  rcases (hrow i e.symm).2 with h2 | ⟨o', ho', hf⟩
  · have := heap_lt' hi
    omega
  · rw [h1] at ho'
    cases ho'
    rw [ho] at hf
    cases hf
theorem RG.grown {row : Option Nat} (h : RG ex mb n0 w w') (hg : w'.grownBy w'' row) (hn : n0 ≤ w'.heap.size) (hrow : ∀ k, row = some k → n0 ≤ k ∧ ∃ o, w'.heap[k]? = some o ∧ okG ex mb k o = false) : RG ex mb n0 w w'' :=
  h.grownN hg hn fun k hk => ⟨(hrow k hk).1, .inr (hrow k hk).2⟩
theorem RG.alloc (h : RG ex mb n0 w w') (hn : n0 ≤ w'.heap.size) (o : Obj) : RG ex mb n0 w (w'.alloc o) := h.grown (World.grownBy_alloc w' o none) hn (fun _ e => by cases e)
theorem RG.set_ (h : RG ex mb n0 w w') {g i : Nat} {t : TypeId} {cs : Array Value} (hb : Blk w' g t cs) (hn : n0 ≤ g) (ht : ex.contains t = true) (u : Value) : RG ex mb n0 w (w'.setCell ⟨g, i, none⟩ u) :=
  h.grown (row := some g) ⟨rfl, rfl, rfl, by simp [World.setCell], fun k _ hne => Below.heap_setCell _ _ _ _ (fun e => hne (by rw [e]))⟩ (Nat.le_trans hn (Nat.le_of_lt hb.lt)) (fun k hk => by cases hk; exact ⟨hn, _, hb, by simp only [okG, ht]; rfl⟩)
theorem RG.of_below (h : Below w.heap.size w w') (hn : n0 ≤ w.heap.size) : RG ex mb n0 w w' := ⟨h.mono hn, fun k o hk _ => (h.block k (heap_lt' hk)).trans hk⟩
end
end Go.Proofs.Ythhhlaoiampinaa
namespace Go.Proofs.Ythhhlaoiampinaa
set_option maxRecDepth 20000
open Go.RowKit Go.Shelf
theorem rows_in {n D : Nat} {P : Program} {row : String} {args : Array Value} {w : World} {R : Value → World → Prop} (h : Rows P row args w R) : RowsIn (Fence.wide.inRound D) n P row args w R := by
  intro c cs _
  obtain ⟨v, w', hr, hs⟩ := h c cs
  exact ⟨v, w', hr, stepsIn_wide.2 hs⟩
theorem oper_in {n D : Nat} {P : Program} {o : Oper} {a : Act} {w : World} {K : Act → World → Prop} {Q : Exit → Act → World → Prop} (hd : ∀ c, o.op ≠ .defer c) (h : o.wp P a w K Q) : o.wpIn (Fence.wide.inRound D) n P a w K Q := by
  refine ⟨fun _ _ => trivial, ?_⟩
  rw [Fence.inRound_round, Oper.semAt_some D a.eval o hd]
  unfold Oper.wp at h
  generalize (execOp a.eval o).run P w = r at h
  cases r with
  | ok x w' =>
    cases x with
    | value v => exact h
    | skip => exact h
    | defer d => exact h
    | enter f args => exact ⟨fun hh => by simp [Fence.wide] at hh, CallsIn.inRound D (callsIn_wide.2 h)⟩
    | row row args => exact ⟨fun hh => by simp [Fence.wide] at hh, rows_in h⟩
    | _ => exact h.elim
  | halt x w' =>
    cases x with
    | panic v => exact h
    | _ => exact h.elim
def noDefer (ops : Array Oper) : Bool := ops.all fun o => match o.op with | .defer _ => false | _ => true
theorem any_in {n D : Nat} {P : Program} {ops : Array Oper} {Q : Exit → Act → World → Prop} {md : Region.Mode} (hd : noDefer ops = true) (hQ : ¬ LetsOut Q) :
    ∀ (fuel : Nat) (listed : Array Bool) (a : Act) (w : World), wpAny P md ops Q fuel listed a w → wpAnyIn (Fence.wide.inRound D) n P md ops Q fuel listed a w
  | 0, _, _, _, h => h
  | fuel + 1, listed, a, w, h => by
    refine ⟨h.1, fun i hi => ?_⟩
    have h2 := h.2 i hi
    unfold wpOp at h2
    unfold wpOpIn
    cases ho : ops[i]? with
    | none => rw [ho] at h2; exact any_in hd hQ fuel _ _ _ h2
    | some o =>
      rw [ho] at h2
      have hod : ∀ c, o.op ≠ .defer c := by
        intro c e
        have := Array.all_eq_true'.1 hd o (Array.mem_of_getElem? ho)
        rw [e] at this
        cases this
      dsimp only at h2 ⊢
      split
      · rename_i hw
        rw [if_pos hw] at h2
        rcases h2 with h2 | h2
        · exact Oper.wpIn_mono (fun a w h => any_in hd hQ fuel _ _ _ h) (oper_in hod h2)
        · exact absurd h2.2 hQ
      · rename_i hw
        rw [if_neg hw] at h2
        exact ⟨fun _ _ => trivial, any_in hd hQ fuel _ _ _ h2⟩
theorem wp_region_round {n D : Nat} {P : Program} {ops : Array Oper} {Q : Exit → Act → World → Prop} {S : World → Prop} {id : Nat} {a : Act} {w : World} (l : List (Bool × Nat)) (hm : P.follows .mixedOrders = true) (hs : Region.noSelect ops = true)
    (hQ : ∀ (d : Tmp) (v : Value) c (a : Act) w, Q (.panic c) { a with tmps := a.tmps.setIfInBounds d v } w → Q (.panic c) a w) (hL : ¬ LetsOut Q) (hd : noDefer ops = true) (hlen : decide (l.length ≤ ops.size) = true)
    (hok : okSeq ops l (Array.replicate ops.size false) = true) (hS : S w.drew) (h : seqH P ops Q S l a w.drew) : (Code.region id ops true).wpIn (Fence.wide.inRound D) n P Q a w :=
  wpIn_region_any hm (any_in hd hL _ _ _ _ (wpAny_of_held _ _ _ _ (seqH_sound hs (fun d v c a w h => by cases d with | none => exact h | some d => exact hQ d v c a w h) l ops.size _ a w.drew (of_decide_eq_true hlen) hok hS h)))
/-- The same, and no panic: for drawn regions in a function that holds a range over a function. -/
def noPanic (Q : Exit → Act → World → Prop) : Exit → Act → World → Prop
  | .panic _, _, _ => False
  | e, a, w => Q e a w
theorem noPanic_imp {Q : Exit → Act → World → Prop} : ∀ e a w, noPanic Q e a w → Q e a w := by
  intro e a w h
  cases e <;> first | exact h | exact h.elim
end Go.Proofs.Ythhhlaoiampinaa
