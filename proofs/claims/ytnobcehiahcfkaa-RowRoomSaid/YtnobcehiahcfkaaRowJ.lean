/- A list that grows in the rounds of a range over a function; Row's Keys. -/
import Derived.Test.YtnobcehiahcfkaaRowI
import Derived.Test.YtnobcehiahcfkaaTwoOwn
namespace Go.Proofs.Ytnobcehiahcfkaa
set_option maxRecDepth 20000
open Go.RowKit Go.Shelf
attribute [local go_sem] Oper.semAt_some
/-- What lies in the loop's frame: the list that grows, the loop's record. -/
structure OL (B D : Nat) (rec : Loop) (pre : List ByteArray) (W : World) : Prop where
  out : ∃ o, Blk W B 24 #[o] ∧ Owns W (D + 2) 9 1 es o pre
  ld : W.heap[D]? = some (.deferred (some []))
  lr : W.heap[D + 1]? = some (.loop rec)
  sz : D + 2 ≤ W.heap.size
  lt : B < D
def lenAt (W : World) (B : Nat) : Nat := match W.cell? ⟨B, 0, none⟩ with | some (.slice _ n _) => n | _ => 0
theorem gput (w : World) (l : Nat) (o : Obj) : w.grownBy (w.putObj l o) (some l) :=
  ⟨rfl, rfl, rfl, by simp [World.putObj], fun k hk hne => World.putObj_heap_other (by intro e; exact hne (by rw [e]))⟩
section
variable {B D : Nat} {rec rec' : Loop} {pre : List ByteArray} {W W' : World}
theorem OL.len (h : OL B D rec pre W) : lenAt W B = pre.length := by
  obtain ⟨o, h1, h2⟩ := h.out
  unfold lenAt
  rw [h1.cell 0]
  rcases h2.form with ⟨rfl, rfl⟩ | ⟨g, c, rfl⟩ <;> rfl
theorem OL.put (h : OL B D rec pre W) : OL B D rec' pre (W.putObj (D + 1) (.loop rec')) := by
  have hg := gput W (D + 1) (.loop rec')
  obtain ⟨o, h1, h2⟩ := h.out
  refine ⟨⟨o, Blk.keptR h1 hg (by intro e; injection e with e; have := h.lt; omega), h2.grownOther hg ?_⟩, (hg.block _ (heap_lt' h.ld) (by simp)).trans h.ld, World.putObj_heap_same (heap_lt' h.lr), Nat.le_trans h.sz hg.size, h.lt⟩
  cases hv : o.ownBlock with
  | none => exact .inl rfl
  | some k => exact .inr fun e => by injection e with e; have := (h2.lt k hv).1; omega
theorem OL.rf {ex : List TypeId} {n0 : Nat} (h : OL B D rec pre W) (hr : RF ex n0 W W') (h1 : ex.contains 24 = false) (h2 : ex.contains 9 = false) : OL B D rec pre W' := by
  obtain ⟨o, g1, g2⟩ := h.out
  exact ⟨⟨o, g1.rf hr h1, g2.rf hr h2⟩, hr.fr _ _ h.ld rfl, hr.fr _ _ h.lr rfl, Nat.le_trans h.sz hr.size, h.lt⟩
theorem OL.drew (h : OL B D rec pre W) : OL B D rec pre W.drew := ⟨h.out, h.ld, h.lr, h.sz, h.lt⟩
theorem OL.grow {o v' : Value} {w1 : World} {p : ByteArray} (h : OL B D rec pre W) (ho1 : Blk W B 24 #[o]) (ho2 : Owns W (D + 2) 9 1 es o pre)
    (hg : W.grownBy w1 o.ownBlock) (hv : Owns w1 (D + 2) 9 1 es v' (pre ++ [p])) : OL B D rec (pre ++ [p]) (w1.setCell ⟨B, 0, none⟩ v') := by
  have hl := h.lt
  have far : ∀ k, k < D + 2 → some k ≠ o.ownBlock := fun k hk e => by have := (ho2.lt k e.symm).1; omega
  have hb1 : Blk w1 B 24 #[o] := Blk.keptR ho1 hg (far _ (by omega))
  have hg2 : w1.grownBy (w1.setCell ⟨B, 0, none⟩ v') (some B) := ⟨rfl, rfl, rfl, by simp [World.setCell], fun k _ hne => Below.heap_setCell _ _ _ _ (fun e => hne (by rw [e]))⟩
  have s1 : ∀ {a b : Nat}, a ≠ b → some a ≠ some b := fun h e => h (by injection e)
  have d1 := (hg.block _ (heap_lt' h.ld) (far _ (by omega))).trans h.ld
  have l1 := (hg.block _ (heap_lt' h.lr) (far _ (by omega))).trans h.lr
  refine ⟨⟨v', hb1.set_ 0 v', hv.grownOther hg2 ?_⟩, (hg2.block _ (heap_lt' d1) (s1 (by omega))).trans d1, (hg2.block _ (heap_lt' l1) (s1 (by omega))).trans l1, Nat.le_trans (Nat.le_trans h.sz hg.size) hg2.size, hl⟩
  cases hv' : v'.ownBlock with
  | none => exact .inl rfl
  | some k => exact .inr (s1 (by have := (hv.lt k hv').1; omega))
theorem OL.alloc (h : OL B D rec pre W) (o : Obj) : OL B D rec pre (W.alloc o) := h.rf (ex := []) (n0 := 0) ((RF.refl _ _ _).alloc (Nat.zero_le _) o) rfl rfl
end
theorem RowS.keptO {w w' : World} {n0 p c mb : Nat} {room : Int} {ns : List Nd} {row : Option Nat} (h : RowS w n0 p room c mb ns) (hg : w.grownBy w' row) (hrow : ∀ k, row = some k → ∃ o, w.heap[k]? = some o ∧ okObj RY o = true) : RowS w' n0 p room c mb ns := by
  have ne : ∀ {k : Nat} {t : TypeId} {cs : Array Value}, Blk w k t cs → RY.contains t = true → some k ≠ row := fun {k t cs} hb ht e => by
    obtain ⟨o, ho, hk⟩ := hrow k e.symm
    unfold Blk at hb
    rw [hb] at ho
    cases ho
    simp only [okObj, ht] at hk
    cases hk
  refine ⟨Blk.keptR h.blk hg (ne h.blk (by decide)), h.p0, h.ch.kept hg ?_ ?_ ?_, h.rm, h.sz, h.us, h.ks⟩
  · obtain ⟨_, _, hb⟩ := h.ch.root
    exact ne hb (by decide)
  · intro e
    obtain ⟨o, ho, hk⟩ := hrow mb e.symm
    obtain ⟨es, ck, hm⟩ := h.ch.mp.isMapObj
    rw [hm] at ho
    cases ho
    cases hk
  · intro x hx
    obtain ⟨_, _, hb⟩ := h.ch.node x hx
    exact ne hb (by decide)
theorem ring_first {w : World} {n0 c mb : Nat} {ns : List Nd} (h : Chn w n0 c mb ns) : w.cell? ⟨c, 3, none⟩ = some (ptr (hdB ns c)) := by
  have := h.ring
  cases ns with
  | nil => exact this.1.1
  | cons x ns => exact this.1.1
/-- What follows one in the chain. -/
theorem ring_next {w : World} {n0 c mb : Nat} {l r : List Nd} {x : Nd} (h : Chn w n0 c mb (l ++ x :: r)) : w.cell? ⟨x.1, 3, none⟩ = some (ptr (hdB r c)) := by
  have hr := h.ring
  rw [show c :: ((l ++ x :: r).map (·.1) ++ [c]) = (c :: l.map (·.1)) ++ x.1 :: (r.map (·.1) ++ [c]) by rw [List.map_append, List.map_cons, List.append_assoc]; rfl] at hr
  cases r with
  | nil => exact (links_next (xs := c :: l.map (·.1)) (ys := []) hr).1
  | cons y r => exact (links_next (xs := c :: l.map (·.1)) (ys := r.map (·.1) ++ [c]) hr).1
set_option maxHeartbeats 2000000 in
theorem keys_any (n0 p c mb : Nat) (room : Int) (ns : List Nd) (w : World) (h : RowS w n0 p room c mb ns) :
    Calls Try.prog 26 #[ptr p] w fun e w' => ∃ v, e = .returned v ∧ Owns w' w.heap.size 9 1 es v (ns.map (·.2.1)) ∧ Below w.heap.size w w' := by
  have hlen := h.len
  have p2 : (w.alloc (.cells #[.slice none 0 0] 24)).cell? ⟨p, 2, none⟩ = some (ptr c) := (h.alloc _).blk.cell 2
  have H := Lib.hid h
  clear h
  refine (callsIn_wide (n := 4)).1 ?_
  refine callsIn_of_wp_marks Try.func26 rfl trivial ?_ rfl
  simp only [Try.ntmps26, List.size_toArray, List.length_cons, List.length_nil, Nat.reduceAdd, Nat.reduceSub, Array.replicate_succ, Array.replicate_zero, List.push_toArray, List.append_toArray, List.nil_append, List.cons_append]
  have hmf : ∀ (fn : Fn) (first cap : Array Value) (w : World), (Instr.makeFunc fn first cap).run Try.prog w = .ok (.func fn first cap) w := fun _ _ _ _ => rfl
  have hB0 : Blk (w.alloc (.cells #[.slice none 0 0] 24)) w.heap.size 24 #[.slice none 0 0] := Blk.new w _ _
  have hb0 : Below w.heap.size w (w.alloc (.cells #[.slice none 0 0] 24)) := (Below.refl _ w).alloc (Nat.le_refl _) _
  have hz0 : (w.alloc (.cells #[.slice none 0 0] 24)).heap.size = w.heap.size + 1 := by simp
  gi_wp2
  generalize w.alloc (.cells #[.slice none 0 0] 24) = W0 at *
  refine wpIn_rangeFunc_out (n := 4) rfl (by decide) (gf := 49) (fs := #[ptr c]) (lb := #[]) rfl trivial (enters_of Try.func49 (by kernel_rfl) rfl) ?_
  intro rec hF hst hpe htm hpa has hbo
  have hl1 : ((W0.alloc (.deferred (some []))).alloc (.loop rec)).heap[W0.heap.size + 1]? = some (.loop rec) := by
    have := World.alloc_heap_new (W0.alloc (.deferred (some []))) (.loop rec); rwa [World.size_alloc] at this
  have hd1 : ((W0.alloc (.deferred (some []))).alloc (.loop rec)).heap[W0.heap.size]? = some (.deferred (some [])) :=
    (Below.heap_alloc _ _ _ (by simp)).trans (World.alloc_heap_new W0 _)
  have hol1 : OL w.heap.size W0.heap.size rec [] ((W0.alloc (.deferred (some []))).alloc (.loop rec)) :=
    ⟨⟨_, (hB0.alloc _).alloc _, Owns.nil ..⟩, hd1, hl1, by simp, by omega⟩
  have hb1 : Below w.heap.size w ((W0.alloc (.deferred (some []))).alloc (.loop rec)) := (hb0.alloc hb0.size _).alloc (Nat.le_trans hb0.size (le_alloc _ _)) _
  have HZ := Lib.hid hz0
  refine (all_in 3 c (W0.heap.size + 1) (fun rest W => ∃ pre, ns = pre ++ rest ∧ OL w.heap.size W0.heap.size rec (pre.map (·.2.1)) W ∧ Below w.heap.size w W)
    (fun W => OL w.heap.size W0.heap.size rec (ns.map (·.2.1)) W ∧ Below w.heap.size w W) (fun W => ns.length - lenAt W w.heap.size) (by decide) ?mu ?drew ?key ?round ?ends ns _ ⟨[], rfl, hol1, hb1⟩ ?first).mono ?_
  case mu =>
    rintro rest W ⟨pre, he, ho, _⟩
    show ns.length - lenAt W w.heap.size = _
    rw [ho.len, he]
    simp
  case drew =>
    rintro rest W ⟨pre, he, ho, hb⟩
    exact ⟨pre, he, ho.drew, hb.drew⟩
  case key =>
    rintro x rest W ⟨pre, he, ho, hb⟩
    have hR := (H.out.below hb).ch
    exact ⟨hR.node x (by rw [he]; simp), hR.ne_root x (by rw [he]; simp), mb, hR.root⟩
  case ends =>
    rintro W ⟨pre, he, ho, hb⟩
    rw [List.append_nil] at he
    subst he
    exact ⟨ho, hb⟩
  case first => exact ring_first (H.out.below hb1).ch
  case round =>
    rintro x rest W ⟨pre, he, ho, hb⟩
    have hnx := ring_next (l := pre) (r := rest) (x := x) (by rw [← he]; exact H.out.ch)
    have hxl : x.1 < w.heap.size := (H.out.ch.node x (by rw [he]; simp)).lt
    refine yieldB_of { tmps := #[ptr p, undef, .slice none 0 0, ptr w.heap.size, .string x.2.1, ptr p, ptr p, .pointer (some ⟨p, 2, none⟩), ptr c, .func (.func 49) #[ptr c] #[], .string x.2.1, undef, undef, undef, undef, undef], defers := [] } hF ho.lr hst hpe (by rw [hpa]; rfl) ?_ ?_
    · intro K hK
      rw [has, htm, hpa]
      gi_wp2
      exact hK
    · have hob : OL w.heap.size W0.heap.size { rec with state := .busy } (pre.map (·.2.1)) (W.putObj (W0.heap.size + 1) (.loop { rec with state := .busy })) := ho.put
      have hbb : Below w.heap.size w (W.putObj (W0.heap.size + 1) (.loop { rec with state := .busy })) := hb.grown (gput _ _ _) (by have := ho.sz; omega) (fun k hk => by cases hk; omega)
      have hpl : pre.length + 1 ≤ 1000000 := by have := congrArg List.length he; simp only [List.length_append, List.length_cons] at this; omega
      generalize W.putObj (W0.heap.size + 1) (.loop { rec with state := .busy }) = Wb at *
      have HRB : Hid (∀ W3, OL w.heap.size W0.heap.size { rec with state := .busy } ((pre ++ [x]).map (·.2.1)) W3 → Below w.heap.size w W3 → W3.heap[W0.heap.size + 1]? = some (.loop { rec with state := .busy }) ∧ ((∃ pre', ns = pre' ++ rest ∧ OL w.heap.size W0.heap.size rec (pre'.map (·.2.1)) (W3.putObj (W0.heap.size + 1) (.loop rec)) ∧ Below w.heap.size w (W3.putObj (W0.heap.size + 1) (.loop rec))) ∧ (W3.putObj (W0.heap.size + 1) (.loop rec)).cell? ⟨x.1, 3, none⟩ = some (ptr (hdB rest c)))) := by
        intro W3 h1 h2
        have hb3 : Below w.heap.size w (W3.putObj (W0.heap.size + 1) (.loop rec)) := h2.grown (gput _ _ _) (by have := h1.sz; omega) (fun k hk => by cases hk; omega)
        exact ⟨h1.lr, ⟨pre ++ [x], by rw [he, List.append_assoc]; rfl, h1.put, hb3⟩, (hb3.cell (p := ⟨x.1, 3, none⟩) hxl).trans hnx⟩
      generalize ({ rec with state := .busy } : Loop) = recB at *
      rw [hbo]
      clear hst hpe htm hpa has hbo hl1 hd1 hol1 hb1 ho hb hz0 hB0 hb0 hnx hxl he
      obtain ⟨o, ho1, ho2⟩ := hob.out
      have b0 := ho1.cell 0
      obtain ⟨i0, hi, hi0, hi1, hi2⟩ := info_parts stringInfo
      have hrow : Wb.ownsRow (W0.heap.size + 2) 9 1 o (pre.map (·.2.1)).length ((pre.map (·.2.1)).flatMap es) := ho2
      have hml : (pre.map (·.2.1)).length = pre.length := List.length_map ..
      gi_wp2_with (gi_at_builtin; refine wpListIn_append_own _ rfl _ _ 24 rfl (W0.heap.size + 2) 9 i0 (.string ByteArray.empty) 1 16 Try.underlying24 hi hi0 hi1 hi2 rfl (by decide) _ _ _ rfl (hrow.alloc _) ⟨Wb.heap.size, 0, none⟩ 1 1 [.string x.2.1] rfl rfl (new_cells _ [.string x.2.1] _) (by simp [Value.oneCell']) (by rw [hml]; simp only [maxLen]; omega) (by rw [hml]; omega) (by have := hob.sz; simp; omega) ?_; intro v' w1 hown' hgrow _; obtain ⟨g', cap', rfl⟩ := ownsRow_succ hown'; have hv1 := Blk.keptR (ho1.alloc (.cells #[.string x.2.1] 9)) hgrow (by intro e; have := (ho2.lt _ e.symm).1; have := HZ.out; omega); have hc1 := hv1.cell 0; have hf1 := hv1.frozen 0)
      have hol3 := (OL.alloc hob (.cells #[.string x.2.1] 9)).grow (p := x.2.1) (ho1.alloc _) (ho2.alloc _) hgrow (v' := .slice (some ⟨g', 0, none⟩) (pre.length + 1) cap') (by
        have := hown'
        unfold Owns
        rw [List.length_append, List.flatMap_append]
        simp only [List.length_cons, List.length_nil, List.flatMap_cons, List.flatMap_nil, List.append_nil, es, Nat.zero_add, hml] at this ⊢
        exact this)
      have hbe3 : Below w.heap.size w (w1.setCell ⟨w.heap.size, 0, none⟩ (.slice (some ⟨g', 0, none⟩) (pre.length + 1) cap')) := ((hbb.alloc (by have := hob.sz; have := HZ.out; omega) _).grown hgrow (by have := hob.sz; have := HZ.out; simp; omega) (fun k hk => by have := (ho2.lt k hk).1; have := HZ.out; omega)).setCell (p := ⟨w.heap.size, 0, none⟩) (Nat.le_refl _) _
      rw [← List.map_singleton (f := fun x : Nd => x.2.1), ← List.map_append] at hol3
      exact HRB.out _ hol3 hbe3
  · rintro e W2 ⟨hv, ho2, hb2⟩
    refine ⟨hv, _, _, ho2.lr, by rw [hst]; decide, ?_⟩
    rw [hpe]
    show Exit.inBlock _ _ _ _ _
    have ho3 : OL w.heap.size W0.heap.size { rec with state := .exhausted, pending := none } (ns.map (·.2.1)) (W2.putObj (W0.heap.size + 1) (.loop { rec with state := .exhausted, pending := none })) := ho2.put
    have hb3 : Below w.heap.size w (W2.putObj (W0.heap.size + 1) (.loop { rec with state := .exhausted, pending := none })) := hb2.grown (gput _ _ _) (by have := ho2.sz; omega) (fun k hk => by cases hk; omega)
    clear hl1 hd1 hol1 hb1 hB0 hb0 hz0
    generalize W2.putObj (W0.heap.size + 1) (.loop { rec with state := .exhausted, pending := none }) = W3 at *
    generalize ({ rec with state := .exhausted, pending := none } : Loop) = recX at *
    obtain ⟨o, h1, h2⟩ := ho3.out
    have b1 := h1.cell 0
    have hK := ho3.ld
    gi_wp2
    refine ⟨by simp, .inl ⟨_, _, rfl, run_takeDeferred hK, ?_⟩⟩
    have hg4 := gput W3 W0.heap.size (.deferred none)
    refine ⟨_, results_tmp rfl _ _ _, o, rfl, ?_, hb3.grown hg4 (by have := ho3.sz; have := HZ.out; omega) (fun k hk => by cases hk; have := HZ.out; omega)⟩
    refine (h2.mono (by have := HZ.out; omega)).grownOther hg4 ?_
    cases hv : o.ownBlock with
    | none => exact .inl rfl
    | some k => exact .inr fun e => by injection e with e; have := (h2.lt k hv).1; omega
end Go.Proofs.Ytnobcehiahcfkaa
