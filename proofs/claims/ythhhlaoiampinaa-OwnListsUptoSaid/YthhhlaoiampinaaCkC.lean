/- (*chunk.Cutter).Write: a range over a function by hand. -/
import Derived.Test.YthhhlaoiampinaaCkB
import Derived.Maps.AppendAt
import Derived.RangeFuncBox
namespace Go.Proofs.Ythhhlaoiampinaa
set_option maxRecDepth 20000
open Go.RowKit Go.Shelf
attribute [local go_sem] Oper.semAt_some

/-- 'for .. := range f': the record laid, the iterator called, the record at its end. -/
theorem wpIn_rangeFunc_raw {F : Fence} {n : Nat} {P : Program} {g : Operand} {ps : Array Tmp} {assign body : Code} {Q : Exit → Act → World → Prop} {a : Act} {w : World}
    (hro : F.round = none) (h1 : 1 ≤ n) {gf : Nat} {lb : Array Value} (hg : a.eval g = .func (.func gf) #[] lb) (hFg : F.fn gf) (eg : ∀ args w, (callFunc gf args).run P w = .ok (.enter gf args) w)
    (h : ∀ rec : Loop, F.fn rec.fn → rec.state = .ready → rec.pending = none → rec.tmps = a.tmps → rec.params = ps → rec.assign = assign → rec.body = body →
      CallsIn F (n - 1) P gf (#[.func (.yield (w.heap.size + 1)) #[] #[]] ++ lb) ((w.alloc (.deferred (some []))).alloc (.loop rec)) fun e W2 => (∃ v, e = .returned v) ∧ W2.heap[w.heap.size + 1]? = some (.loop rec) ∧
        Q .normal { a with defers := { target := .collected w.heap.size, args := #[] } :: a.defers } (W2.putObj (w.heap.size + 1) (.loop { rec with state := .exhausted }))) :
    (Code.rangeFunc g ps assign body).wpIn F n P Q a w := by
  refine wpIn_rangeFunc ?_
  intro fn hfn
  rw [hro]
  obtain ⟨rec, hrec⟩ : ∃ rec : Loop, rec = { state := .ready, pending := none, fn, tmps := a.tmps, params := ps, assign, body, defers := w.heap.size } := ⟨_, rfl⟩
  refine ⟨w.heap.size + 1, [{ target := .collected w.heap.size, args := #[] }], (w.alloc (.deferred (some []))).alloc (.loop rec), { target := .fn (.func gf) lb, args := #[.func (.yield (w.heap.size + 1)) #[] #[]] }, (w.alloc (.deferred (some []))).alloc (.loop rec), gf,
    #[.func (.yield (w.heap.size + 1)) #[] #[]] ++ lb, (w.alloc (.deferred (some []))).alloc (.loop rec), ?_, ?_, ?_, ?_, fun _ => h1, ?_⟩
  · rw [hrec]; exact run_enterLoop_outer _ _ _ _ _
  · simp only [resolve, hg]
    simp [go_sem]
  · intro f' hf'; simp [Target.leads] at hf'; subst hf'; exact hFg
  · simp [invoke, go_sem, eg]
  · refine (h rec (by rw [hrec]; exact hfn) (by rw [hrec]) (by rw [hrec]) (by rw [hrec]) (by rw [hrec]) (by rw [hrec]) (by rw [hrec])).mono ?_
    rintro e W2 ⟨⟨v, rfl⟩, hl, hq⟩
    refine ⟨none, _, ?_, hq⟩
    have := run_endLoop (P := P) hl (by rw [hrec]; simp)
    rw [this, hrec]

theorem yieldAt_go {F : Fence} {m D : Nat} {P : Program} {rec : Loop} {W : World} {args : Array Value} {R : Ending → World → Prop} (a₁ : Act) (hF : F.fn rec.fn) (hl : W.heap[D]? = some (.loop rec)) (hr : rec.state = .ready) (hp : rec.pending = none) (hs : args.size = rec.params.size)
    (hassign : ∀ K : Act → World → Prop, K a₁ W → rec.assign.wpIn (F.inRound D) m P (Exit.then K (fun _ _ _ => False)) { tmps := (rec.params.zip args).foldl (fun tmps (t, a) => tmps.setIfInBounds t a) rec.tmps, defers := [] } W)
    (hbody : rec.body.wpIn (F.inRound D) m P (fun e _ W3 => e = .normal ∧ W3.heap[D]? = some (.loop { rec with state := .busy }) ∧ R (.returned (.bool true)) (W3.putObj D (.loop rec))) a₁ (W.putObj D (.loop { rec with state := .busy }))) :
    YieldAt F m P D args W R := yieldAt_of hF hl hr hp hs (hassign _ ⟨hl, hbody⟩)

section
variable {w0 : World} {n0 c qs qc B D : Nat} {s : ByteArray} {rec rec' : Loop} {pre : List (List UInt8)} {W W' : World}
/-- The loop's record turns. -/
theorem CO.put (h : CO w0 n0 c qs qc B D s rec pre W) (hD : w0.heap.size ≤ D) : CO w0 n0 c qs qc B D s rec' pre (W.putObj (D + 1) (.loop rec')) := by
  have hg := grownBy_put W (D + 1) (.loop rec')
  have ne : ∀ {k : Nat} {t : TypeId} {cs : Array Value}, Blk W k t cs → some k ≠ some (D + 1) := fun {k t cs} hb e => by
    injection e with e
    subst e
    unfold Blk at hb
    rw [h.lr] at hb
    cases hb
  obtain ⟨o, h1, h2⟩ := h.out
  refine ⟨h.bs.kept hg (ne h.bs), h.bc.kept hg (ne h.bc), ⟨o, h1.kept hg (ne h1), h2.grownOther hg ?_⟩, (hg.block _ (heap_lt h.ld) (by simp)).trans h.ld, World.putObj_heap_same (heap_lt h.lr), h.kt.grown h.kt.size hg (fun k hk => .inl (by cases hk; omega)), Nat.le_trans h.sz hg.size⟩
  cases hv : o.ownBlock with
  | none => exact .inl rfl
  | some k => exact .inr fun e => by injection e with e; have := (h2.lt k hv).1; omega
/-- The list has grown. -/
theorem CO.grow {o v' : Value} {w1 : World} {p : List UInt8} (h : CO w0 n0 c qs qc B D s rec pre W) (hw : w0.heap.size ≤ B) (hq : qs < D) (hp : qc < D) (hB : B < D) (hqB : qs ≠ B) (hpB : qc ≠ B) (ho1 : Blk W B 42 #[o]) (ho2 : Owns W (D + 2) 9 1 es o (pre.map mkS))
    (hg : W.grownBy w1 o.ownBlock) (hv : Owns w1 (D + 2) 9 1 es v' ((pre ++ [p]).map mkS)) : CO w0 n0 c qs qc B D s rec (pre ++ [p]) (w1.setCell ⟨B, 0, none⟩ v') := by
  have far : ∀ k, k < D + 2 → some k ≠ o.ownBlock := fun k hk e => by have := (ho2.lt k e.symm).1; omega
  have hb1 : Blk w1 B 42 #[o] := ho1.kept hg (far _ (by omega))
  have hg2 := grownBy_set w1 B 0 v'
  have s1 : ∀ {a b : Nat}, a ≠ b → some a ≠ some b := fun h e => h (by injection e)
  have d1 := (hg.block _ (heap_lt h.ld) (far _ (by omega))).trans h.ld
  have l1 := (hg.block _ (heap_lt h.lr) (far _ (by omega))).trans h.lr
  have k1 := h.kt.grown h.kt.size hg (fun k hk => .inl (by have := (ho2.lt k hk).1; omega))
  refine ⟨(h.bs.kept hg (far _ (by omega))).kept hg2 (s1 hqB), (h.bc.kept hg (far _ (by omega))).kept hg2 (s1 hpB), ⟨v', hb1.set_ 0 v', hv.grownOther hg2 ?_⟩, (hg2.block _ (heap_lt d1) (s1 (by omega))).trans d1, (hg2.block _ (heap_lt l1) (s1 (by omega))).trans l1, k1.grown k1.size hg2 (fun k hk => .inl (by cases hk; exact hw)), Nat.le_trans (Nat.le_trans h.sz hg.size) hg2.size⟩
  cases hv' : v'.ownBlock with
  | none => exact .inl rfl
  | some k => exact .inr (s1 (by have := (hv.lt k hv').1; omega))
theorem Cutter.put {S : Nat} {r : List UInt8} (hc : Cutter W n0 c S r) (h : W.heap[D]? = some (.loop rec)) : Cutter (W.putObj D (.loop rec')) n0 c S r :=
  hc.kept (grownBy_put W D _) (fun k hk => by cases hk; exact obj_notT h (by intros; simp))
end
theorem pieces_make (w : World) (c : Nat) (s : ByteArray) :
    Calls Try.prog 79 #[.pointer (some ⟨c, 0, none⟩), .string s] w fun e w' => e = .returned (.func (.func 106) #[] #[.pointer (some ⟨w.heap.size + 1, 0, none⟩), .pointer (some ⟨w.heap.size, 0, none⟩)]) ∧ w' = (w.alloc (.cells #[.pointer (some ⟨c, 0, none⟩)] 88)).alloc (.cells #[.string s] 9) := by
  have hmf : ∀ (fn : Fn) (first cap : Array Value) (w : World), (Instr.makeFunc fn first cap).run Try.prog w = .ok (.func fn first cap) w := fun _ _ _ _ => rfl
  go_enter Try.func79, Try.ntmps79
  go_wp2_with fail
  go_ret
  exact ⟨rfl, rfl⟩
set_option maxHeartbeats 1600000 in
theorem write_any (n0 c S : Nat) (r : List UInt8) (s : ByteArray) (w : World) (hc : Cutter w n0 c S r) (hn0 : n0 ≤ c) (hS : S < 4294967296) (hr : r.length < 128) (hlen : r.length + s.size ≤ 140737488355328) :
    Calls Try.prog 47 #[.pointer (some ⟨c, 0, none⟩), .string s] w fun e w' => ∃ v, e = .returned v ∧ Owns w' w.heap.size 9 1 es v ((Pc.cuts gear S r (sl s)).1.map mkS) ∧ Cutter w' n0 c (Pc.cuts gear S r (sl s)).2.1 (Pc.cuts gear S r (sl s)).2.2 ∧ KT n0 w.heap.size w w' := by
  refine (callsIn_wide (n := 4)).1 ?_
  refine callsIn_of_wp_marks Try.func47 rfl trivial ?_ rfl
  simp only [Try.ntmps47, List.size_toArray, List.length_cons, List.length_nil, Nat.reduceAdd, Nat.reduceSub, Array.replicate_succ, Array.replicate_zero, List.push_toArray, List.append_toArray, List.nil_append, List.cons_append]
  gi_wp2_with (refine ⟨trivial, ?_⟩; gi_at_call 79; refine (callsIn_wide.2 (pieces_make _ _ _)).mono ?_; rintro e w' ⟨rfl, rfl⟩)
  have hB0 : Blk (((w.alloc (.cells #[.slice none 0 0] 42)).alloc (.cells #[.pointer (some ⟨c, 0, none⟩)] 88)).alloc (.cells #[.string s] 9)) w.heap.size 42 #[.slice none 0 0] := ((Blk.new w _ _).alloc _).alloc _
  have hP0 : Blk (((w.alloc (.cells #[.slice none 0 0] 42)).alloc (.cells #[.pointer (some ⟨c, 0, none⟩)] 88)).alloc (.cells #[.string s] 9)) (w.heap.size + 1) 88 #[.pointer (some ⟨c, 0, none⟩)] := by
    have := (Blk.new (w.alloc (.cells #[.slice none 0 0] 42)) 88 #[.pointer (some ⟨c, 0, none⟩)]).alloc (.cells #[.string s] 9)
    rwa [World.size_alloc] at this
  have hS0 : Blk (((w.alloc (.cells #[.slice none 0 0] 42)).alloc (.cells #[.pointer (some ⟨c, 0, none⟩)] 88)).alloc (.cells #[.string s] 9)) (w.heap.size + 1 + 1) 9 #[.string s] := by
    have := Blk.new ((w.alloc (.cells #[.slice none 0 0] 42)).alloc (.cells #[.pointer (some ⟨c, 0, none⟩)] 88)) 9 #[.string s]
    rwa [World.size_alloc, World.size_alloc] at this
  have hb0 : Below w.heap.size w (((w.alloc (.cells #[.slice none 0 0] 42)).alloc (.cells #[.pointer (some ⟨c, 0, none⟩)] 88)).alloc (.cells #[.string s] 9)) := (((Below.refl _ w).alloc (Nat.le_refl _) _).alloc (by simp) _).alloc (by simp; omega) _
  have kt0 : KT n0 w.heap.size w (((w.alloc (.cells #[.slice none 0 0] 42)).alloc (.cells #[.pointer (some ⟨c, 0, none⟩)] 88)).alloc (.cells #[.string s] 9)) := (((KT.refl n0 w.heap.size w).alloc (Nat.le_refl _) _).alloc (by simp) _).alloc (by simp; omega) _
  have hz0 : (((w.alloc (.cells #[.slice none 0 0] 42)).alloc (.cells #[.pointer (some ⟨c, 0, none⟩)] 88)).alloc (.cells #[.string s] 9)).heap.size = w.heap.size + 1 + 1 + 1 := by simp
  have hc0 := hc.kt (Nat.le_refl _) hb0
  generalize ((w.alloc (.cells #[.slice none 0 0] 42)).alloc (.cells #[.pointer (some ⟨c, 0, none⟩)] 88)).alloc (.cells #[.string s] 9) = W0 at *
  refine wpIn_rangeFunc_raw rfl (by decide) (gf := 106) (lb := #[.pointer (some ⟨w.heap.size + 1 + 1, 0, none⟩), .pointer (some ⟨w.heap.size + 1, 0, none⟩)]) rfl trivial (enters_of Try.func106 (by kernel_rfl) rfl) ?_
  intro rec hF hst hpe htm hpa has hbo
  have hl1 : ((W0.alloc (.deferred (some []))).alloc (.loop rec)).heap[W0.heap.size + 1]? = some (.loop rec) := by
    have := World.alloc_heap_new (W0.alloc (.deferred (some []))) (.loop rec); rwa [World.size_alloc] at this
  have hd1 : ((W0.alloc (.deferred (some []))).alloc (.loop rec)).heap[W0.heap.size]? = some (.deferred (some [])) :=
    (Below.heap_alloc _ _ _ (by simp)).trans (World.alloc_heap_new W0 _)
  have hco1 : CO w n0 c (w.heap.size + 1 + 1) (w.heap.size + 1) w.heap.size W0.heap.size s rec [] ((W0.alloc (.deferred (some []))).alloc (.loop rec)) :=
    ⟨(hS0.alloc _).alloc _, (hP0.alloc _).alloc _, ⟨_, (hB0.alloc _).alloc _, Owns.nil ..⟩, hd1, hl1, (kt0.alloc kt0.size _).alloc (Nat.le_trans kt0.size (le_alloc _ _)) _, by simp⟩
  have hcu1 : Cutter ((W0.alloc (.deferred (some []))).alloc (.loop rec)) n0 c S r :=
    (hc0.kept (World.grownBy_alloc W0 _ none) (fun _ e => by cases e)).kept (World.grownBy_alloc _ _ none) (fun _ e => by cases e)
  refine (pieces_in w n0 c (w.heap.size + 1 + 1) (w.heap.size + 1) w.heap.size W0.heap.size 3 s rec S r hS hr (by decide) hn0 hlen ?round _ hcu1 hco1).mono ?_
  case round =>
    intro p pre S' r' W hcu hco hpl
    refine yieldAt_go { tmps := #[.pointer (some ⟨c, 0, none⟩), .string s, undef, undef, .slice none 0 0, .pointer (some ⟨w.heap.size, 0, none⟩), .string (mkS p), .pointer (some ⟨c, 0, none⟩), .string s, .func (.func 106) #[] #[.pointer (some ⟨w.heap.size + 1 + 1, 0, none⟩), .pointer (some ⟨w.heap.size + 1, 0, none⟩)], .string (mkS p), undef, undef, undef, undef, undef], defers := [] } hF hco.lr hst hpe (by rw [hpa]; rfl) ?_ ?_
    · intro K hK
      rw [has, htm, hpa]
      gi_wp2
      exact hK
    · have hcb : CO w n0 c (w.heap.size + 1 + 1) (w.heap.size + 1) w.heap.size W0.heap.size s { rec with state := .busy } pre (W.putObj (W0.heap.size + 1) (.loop { rec with state := .busy })) := hco.put (by omega)
      have hub : Cutter (W.putObj (W0.heap.size + 1) (.loop { rec with state := .busy })) n0 c S' r' := hcu.put hco.lr
      generalize W.putObj (W0.heap.size + 1) (.loop { rec with state := .busy }) = Wb at *
      generalize ({ rec with state := .busy } : Loop) = recB at *
      rw [hbo]
      clear hst hpe htm hpa has hbo hcu1 hco1 hl1 hd1 hcu hco
      obtain ⟨o, ho1, ho2⟩ := hcb.out
      have b0 := ho1.cell 0
      obtain ⟨i0, hi, hi0, hi1, hi2⟩ := info_parts stringInfo
      have hrow : Wb.ownsRow (W0.heap.size + 2) 9 1 o (pre.map mkS).length ((pre.map mkS).flatMap es) := ho2
      have hml : (pre.map mkS).length = pre.length := List.length_map ..
      have HZ := Lib.hid hz0
      clear hz0
      gi_wp2_with (gi_at_builtin; refine wpListIn_append_own _ rfl _ _ 42 rfl (W0.heap.size + 2) 9 i0 (.string ByteArray.empty) 1 16 Try.underlying42 hi hi0 hi1 hi2 rfl (by decide) _ _ _ rfl (hrow.alloc _) ⟨Wb.heap.size, 0, none⟩ 1 1 [.string (mkS p)] rfl rfl (new_cells _ [.string (mkS p)] _) (by simp [Value.oneCell']) (by rw [hml]; simp only [maxLen]; omega) (by rw [hml]; omega) (by have := hcb.sz; simp; omega) ?_; intro v' w1 hown' hgrow _; obtain ⟨g', cap', rfl⟩ := ownsRow_succ hown'; have hv1 := (ho1.alloc (.cells #[.string (mkS p)] 9)).kept hgrow (by intro e; have := (ho2.lt _ e.symm).1; have := HZ.out; omega); have hc1 := hv1.cell 0; have hf1 := hv1.frozen 0)
      have hco3 := (CO.alloc hcb (.cells #[.string (mkS p)] 9)).grow (p := p) (Nat.le_refl _) (by have := HZ.out; omega) (by have := HZ.out; omega) (by have := HZ.out; omega) (by omega) (by omega) (ho1.alloc _) (ho2.alloc _) hgrow (v' := .slice (some ⟨g', 0, none⟩) (pre.length + 1) cap') (by
        have := hown'
        unfold Owns
        rw [List.map_append, List.length_append, List.flatMap_append]
        simp only [List.map_cons, List.map_nil, List.length_cons, List.length_nil, List.flatMap_cons, List.flatMap_nil, List.append_nil, es, Nat.zero_add, hml] at this ⊢
        exact this)
      have hcu3 : Cutter (w1.setCell ⟨w.heap.size, 0, none⟩ (.slice (some ⟨g', 0, none⟩) (pre.length + 1) cap')) n0 c S' r' :=
        ((hub.kept (World.grownBy_alloc Wb _ none) (fun _ e => by cases e)).kept hgrow (fun k hk => ((ho2.alloc _).notT k hk).2)).kept (grownBy_set _ _ _ _) (fun k hk => by cases hk; exact hv1.notT (by decide))
      exact ⟨hco3.lr, hcu3.put hco3.lr, hco3.put (by have := HZ.out; omega)⟩
  · rintro e W2 ⟨hv, hcu2, hco2⟩
    refine ⟨hv, hco2.lr, ?_⟩
    obtain ⟨o, ho1, ho2⟩ := hco2.out
    have hg := grownBy_put W2 (W0.heap.size + 1) (.loop { rec with state := .exhausted })
    have h1 := ho1.kept hg (by intro e; injection e with e; omega)
    have h2 := ho2.grownOther hg (by
      cases hv : o.ownBlock with
      | none => exact .inl rfl
      | some k => exact .inr fun e => by injection e with e; have := (ho2.lt k hv).1; omega)
    have hK : (W2.putObj (W0.heap.size + 1) (.loop { rec with state := .exhausted })).heap[W0.heap.size]? = some (.deferred (some [])) := (World.putObj_heap_other (by omega)).trans hco2.ld
    have k2 := hco2.kt.grown hco2.kt.size hg (fun k hk => .inl (by cases hk; omega))
    have c2 : Cutter (W2.putObj (W0.heap.size + 1) (.loop { rec with state := .exhausted })) n0 c _ _ := hcu2.put hco2.lr
    have HZ := Lib.hid hz0
    clear hz0
    generalize W2.putObj (W0.heap.size + 1) (.loop { rec with state := .exhausted }) = W3 at *
    have b1 := h1.cell 0
    gi_wp2
    refine ⟨by simp, .inl ⟨_, _, rfl, run_takeDeferred hK, ?_⟩⟩
    have hg4 := grownBy_put W3 W0.heap.size (.deferred none)
    refine ⟨_, results_tmp rfl _ _ _, o, rfl, ?_, c2.kept hg4 (fun k hk => by cases hk; exact obj_notT hK (by intros; simp)), k2.grown k2.size hg4 (fun k hk => .inl (by cases hk; have := HZ.out; omega))⟩
    refine (h2.mono (by have := HZ.out; omega)).grownOther hg4 ?_
    cases hv : o.ownBlock with
    | none => exact .inl rfl
    | some k => exact .inr fun e => by injection e with e; have := (h2.lt k hv).1; omega
end Go.Proofs.Ythhhlaoiampinaa
