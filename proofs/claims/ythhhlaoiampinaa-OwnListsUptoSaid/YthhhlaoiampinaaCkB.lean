/- A range over a cutter's pieces: the loop's record; the iterator, whose rounds may append to a list. -/
import Derived.RangeFuncNested
import Derived.RangeFuncBound
import Derived.RangeFuncCalls
import Derived.RangeFuncLeaves
import Derived.Shelf.Abstract
import Derived.Shelf.RegionOpen
import Derived.WalkKit
import Derived.OwnWalkIn
import Derived.TacticsInMore
import Derived.LoopNIn
import Derived.LoopIn
import Derived.Test.YthhhlaoiampinaaCkA
import Derived.Test.YthhhlaoiampinaaRegionL
import Derived.Test.YthhhlaoiampinaaRegionP
namespace Go.Proofs.Ythhhlaoiampinaa
set_option maxRecDepth 20000
open Go.RowKit Go.Shelf
attribute [local go_sem] Oper.semAt_some

/-- A round that goes on: the record, ready; its body, walked; the record, ready again. -/
theorem yieldAt_of {F : Fence} {m D : Nat} {P : Program} {rec : Loop} {W : World} {args : Array Value} {R : Ending → World → Prop} (hF : F.fn rec.fn) (hl : W.heap[D]? = some (.loop rec)) (hr : rec.state = .ready) (hp : rec.pending = none) (hs : args.size = rec.params.size)
    (h : rec.assign.wpIn (F.inRound D) m P (Exit.then (fun a₁ w₁ => w₁.heap[D]? = some (.loop rec) ∧ rec.body.wpIn (F.inRound D) m P (fun e _ W3 => e = .normal ∧ W3.heap[D]? = some (.loop { rec with state := .busy }) ∧ R (.returned (.bool true)) (W3.putObj D (.loop rec))) a₁ (w₁.putObj D (.loop { rec with state := .busy }))) (fun _ _ _ => False)) { tmps := (rec.params.zip args).foldl (fun tmps (t, a) => tmps.setIfInBounds t a) rec.tmps, defers := [] } W) :
    YieldAt F m P D args W R := by
  refine ⟨rec.fn, _, rec.assign, rec.body, run_yield hl hs, roundIn_of_wpIn hF (wpIn_mono h ?_)⟩
  rintro e a1 w1 hq
  cases e with
  | normal =>
    obtain ⟨h1, h2⟩ := hq
    refine ⟨_, run_beginRound h1 hr, wpIn_mono h2 ?_⟩
    rintro e2 a2 w2 ⟨rfl, h3, h4⟩
    refine ⟨_, _, run_endRound none h3, ?_⟩
    have e : ({ { rec with state := LoopState.busy } with state := if (none : Option Code).isNone then LoopState.ready else LoopState.done, pending := none } : Loop) = rec := by
      obtain ⟨s, p, f, t, ps, asg, b, d⟩ := rec
      simp only at hr hp
      subst hr hp
      rfl
    rw [e]
    exact h4
  | _ => exact hq.elim

/-- What lies beside the cutter between two rounds: what the iterator has captured, the list that grows, the loop's record. -/
structure CO (w0 : World) (n0 c qs qc B D : Nat) (s : ByteArray) (rec : Loop) (pre : List (List UInt8)) (W : World) : Prop where
  bs : Blk W qs 9 #[.string s]
  bc : Blk W qc 88 #[.pointer (some ⟨c, 0, none⟩)]
  out : ∃ o, Blk W B 42 #[o] ∧ Owns W (D + 2) 9 1 es o (pre.map mkS)
  ld : W.heap[D]? = some (.deferred (some []))
  lr : W.heap[D + 1]? = some (.loop rec)
  kt : KT n0 w0.heap.size w0 W
  sz : D + 2 ≤ W.heap.size
section
variable {w0 : World} {n0 c qs qc B D : Nat} {s : ByteArray} {rec : Loop} {pre : List (List UInt8)} {W W' : World}
theorem heap_lt {W : World} {k : Nat} {o : Obj} (h : W.heap[k]? = some o) : k < W.heap.size := (Array.getElem?_eq_some_iff.1 h).1
theorem CO.step {row : Option Nat} (h : CO w0 n0 c qs qc B D s rec pre W) (hg : W.grownBy W' row) (hrow : ∀ k, row = some k → n0 ≤ k ∧ IsT W k) : CO w0 n0 c qs qc B D s rec pre W' := by
  have ne : ∀ k, ¬ IsT W k → some k ≠ row := fun k hk e => hk (hrow k e.symm).2
  obtain ⟨o, h1, h2⟩ := h.out
  refine ⟨h.bs.kept hg (ne _ (h.bs.notT (by decide))), h.bc.kept hg (ne _ (h.bc.notT (by decide))), ⟨o, h1.kept hg (ne _ (h1.notT (by decide))), h2.grownOther hg ?_⟩, (hg.block _ (heap_lt h.ld) (ne _ (obj_notT h.ld (by intros; simp)))).trans h.ld, (hg.block _ (heap_lt h.lr) (ne _ (obj_notT h.lr (by intros; simp)))).trans h.lr, h.kt.grown h.kt.size hg (fun k hk => .inr (hrow k hk)), Nat.le_trans h.sz hg.size⟩
  cases hv : o.ownBlock with
  | none => exact .inl rfl
  | some k => exact .inr (ne k (h2.notT k hv).2)
theorem CO.alloc (h : CO w0 n0 c qs qc B D s rec pre W) (o : Obj) : CO w0 n0 c qs qc B D s rec pre (W.alloc o) := h.step (World.grownBy_alloc W o none) (fun _ e => by cases e)
theorem CO.drew (h : CO w0 n0 c qs qc B D s rec pre W) : CO w0 n0 c qs qc B D s rec pre W.drew := ⟨h.bs, h.bc, h.out, h.ld, h.lr, h.kt.drew, h.sz⟩
end
theorem Cutter.drew {w : World} {n0 c S : Nat} {r : List UInt8} (h : Cutter w n0 c S r) : Cutter w.drew n0 c S r := h
theorem xor_nx (S : Nat) (c : UInt8) : ((S : Int) * 2 % 4294967296 + (gear c : Int)) % 4294967296 = (Pc.nx gear S c : Nat) := by
  unfold Pc.nx
  generalize gear c = g
  omega

theorem conv_own {W : World} {b : Nat} {v : Value} {l : List UInt8} (h : Owns W b 5 1 eb v l) : (convert 110 9 v).run Try.prog W = .ok (.string (mkS l)) W := by
  have hs : Try.prog.underlying 110 = some (.slice 5) := Try.underlying110
  have he : Try.prog.underlying 5 = some (.int .u8) := Try.underlying5
  have hd : Try.prog.underlying 9 = some .string := Try.underlying9
  unfold Owns at h
  rw [eb_map] at h
  exact run_string_own hs he hd h
theorem flat_ge : ∀ (l : List (List UInt8)), (∀ p ∈ l, 16 ≤ p.length ∧ p.length ≤ 128) → 16 * l.length ≤ l.flatten.length
  | [], _ => by simp
  | p :: l, h => by
    have h1 := (h p (by simp)).1
    have h2 := flat_ge l (fun q hq => h q (by simp [hq]))
    simp only [List.length_cons, List.flatten_cons, List.length_append]
    omega

theorem meas_lt {k n : Nat} (h : k < n) : n - (intOf (.int .i64 ((k : Int) + 1))).toNat < n - (intOf (.int .i64 (k : Int))).toNat := by simp [intOf]; omega
theorem pl_nat {x y z l k n : Nat} (h1 : 16 * l ≤ x) (h2 : x + y = z + min k n) (h3 : 16 ≤ y + 1) (h5 : k < n) (h6 : z + n ≤ 140737488355328) : (l + 1) * 16 ≤ 140737488355328 := by omega
set_option maxHeartbeats 1600000 in
theorem pieces_in (w0 : World) (n0 c qs qc B D n : Nat) (s : ByteArray) (rec : Loop) (S0 : Nat) (r0 : List UInt8) (hS0 : S0 < 4294967296) (hr0 : r0.length < 128) (hn : 1 ≤ n)
    (hn0 : n0 ≤ c) (hlen : r0.length + s.size ≤ 140737488355328)
    (hround : ∀ (p : List UInt8) (pre : List (List UInt8)) (S : Nat) (r : List UInt8) (W : World), Cutter W n0 c S r → CO w0 n0 c qs qc B D s rec pre W → (pre.length + 1) * 16 ≤ 140737488355328 →
      YieldAt Fence.wide (n - 1) Try.prog (D + 1) #[.string (mkS p)] W fun e W' => e = .returned (.bool true) ∧ Cutter W' n0 c S r ∧ CO w0 n0 c qs qc B D s rec (pre ++ [p]) W')
    (w : World) (hc : Cutter w n0 c S0 r0) (ho : CO w0 n0 c qs qc B D s rec [] w) :
    CallsIn Fence.wide n Try.prog 106 #[.func (.yield (D + 1)) #[] #[], .pointer (some ⟨qs, 0, none⟩), .pointer (some ⟨qc, 0, none⟩)] w fun e W' => (∃ v, e = .returned v) ∧
      Cutter W' n0 c (Pc.cuts gear S0 r0 (sl s)).2.1 (Pc.cuts gear S0 r0 (sl s)).2.2 ∧ CO w0 n0 c qs qc B D s rec (Pc.cuts gear S0 r0 (sl s)).1 W' := by
  have b0 := ho.bs.cell 0
  refine callsIn_of_wp Try.func106 rfl trivial ?_ rfl
  simp only [Try.ntmps106, List.size_toArray, List.length_cons, List.length_nil, Nat.reduceAdd, Nat.reduceSub, Array.replicate_succ, Array.replicate_zero, List.push_toArray, List.append_toArray, List.nil_append, List.cons_append]
  gi_wp2
  clear b0
  gi_loopw [9] (fun i wr => ∃ k : Nat, i = .int .i64 k ∧ k ≤ s.size ∧ Cutter wr n0 c (Pc.cuts gear S0 r0 ((sl s).take k)).2.1 (Pc.cuts gear S0 r0 ((sl s).take k)).2.2 ∧ CO w0 n0 c qs qc B D s rec (Pc.cuts gear S0 r0 ((sl s).take k)).1 wr) (fun i wr => s.size - (intOf i).toNat)
  case atStart => exact ⟨0, rfl, Nat.zero_le _, hc, ho⟩
  case round =>
    obtain ⟨k, rfl, hk, hcu, hco⟩ := hrel
    by_cases hlt : k < s.size
    · have HSN := Lib.hid (Pc.cuts_snoc gear S0 r0 ((sl s).take k) s[k])
      have HTK : Hid ((sl s).take (k + 1) = (sl s).take k ++ [s[k]]) := take_succ_of (sl_getElem? s k hlt)
      have HSM := Lib.hid (Pc.cuts_sum gear S0 r0 ((sl s).take k) hS0)
      have HSZ := Lib.hid (Pc.cuts_sizes gear S0 r0 ((sl s).take k) hr0)
      have HFL := Lib.hid (congrArg List.length (Pc.cuts_flat gear S0 r0 ((sl s).take k)))
      generalize Pc.cuts gear S0 r0 ((sl s).take k) = q at *
      obtain ⟨pre, S, r⟩ := q
      dsimp only at hcu hco ⊢
      have hcc := hcu
      obtain ⟨v, hbk, hown⟩ := hcu
      have c0 := hbk.cell 0
      have f0 := hbk.frozen 0
      have q0 := hco.bs.cell 0
      have p0 := hco.bc.cell 0
      gi_wp2
      refine wpIn_wide.2 ?_
      refine wp_region_last [(true, 0), (true, 1), (true, 2), (true, 3), (true, 4), (true, 5), (true, 6), (true, 7), (true, 8), (false, 9), (true, 10), (true, 11), (true, 12), (false, 13)] 13 (fun w' => w' = wr.drew) (by kernel_rfl) (by kernel_rfl) (by kernel_rfl) (fun _ _ _ _ _ h => h) (by kernel_rfl) (by kernel_rfl) ?_ ?_
      · rfl
      iterate 9 (first | (apply seqL_skip; (focus (simp only [List.getElem?_toArray, List.getElem?_cons_succ, List.getElem?_cons_zero]; rfl)); (focus rfl); simp only [Act.put, List.setIfInBounds_toArray, List.set_cons_zero, List.set_cons_succ]) | (apply seqL_take; (focus (simp only [List.getElem?_toArray, List.getElem?_cons_succ, List.getElem?_cons_zero]; rfl)); (focus rfl); (focus (intro w' hS; subst hS; first | (go_simp; rfl) | (go_simp; done))); simp only [Act.put, List.setIfInBounds_toArray, List.set_cons_zero, List.set_cons_succ]))
      apply seqL_eff
      (focus (simp only [List.getElem?_toArray, List.getElem?_cons_succ, List.getElem?_cons_zero]; rfl))
      (focus rfl)
      intro K hK
      go_simp
      refine (gear_any s[k] _).mono ?_
      rintro e w1 ⟨rfl, rfl⟩
      refine hK _ _ ⟨fun _ => rfl, ?_⟩
      clear hK K
      iterate 3 (first | (apply seqL_skip; (focus (simp only [List.getElem?_toArray, List.getElem?_cons_succ, List.getElem?_cons_zero]; rfl)); (focus rfl); simp only [Act.put, List.setIfInBounds_toArray, List.set_cons_zero, List.set_cons_succ]) | (apply seqL_take; (focus (simp only [List.getElem?_toArray, List.getElem?_cons_succ, List.getElem?_cons_zero]; rfl)); (focus rfl); (focus (intro w' hS; subst hS; first | (go_simp; rfl) | (go_simp; done))); simp only [Act.put, List.setIfInBounds_toArray, List.set_cons_zero, List.set_cons_succ]))
      apply seqL_eff
      (focus (simp only [List.getElem?_toArray, List.getElem?_cons_succ, List.getElem?_cons_zero]; rfl))
      (focus rfl)
      intro K hK
      go_simp
      have hnx : IntKind.u32.wrap (IntKind.u32.wrap ((S : Int) * 2) + (gear s[k] : Int)) = ((Pc.nx gear S s[k] : Nat) : Int) := by
        rw [IntKind.wrap_u32, IntKind.wrap_u32]
        exact xor_nx S s[k]
      rw [hnx]
      clear hnx
      have hbS := hbk.set_ 0 (.int .u32 (Pc.nx gear S s[k] : Nat))
      have hgs := grownBy_set wr c 0 (.int .u32 (Pc.nx gear S s[k] : Nat))
      have hoS := hown.grownOther hgs (by
        rcases hown.form with ⟨rfl, _⟩ | ⟨g, cc, rfl⟩
        · exact .inl rfl
        · exact .inr (hown.ne_blk hbk (by decide)))
      have hcS := (hco.step hgs (fun j hj => by cases hj; exact ⟨hn0, hbk.isT⟩)).drew
      change Blk ((wr.setCell ⟨c, 0, none⟩ (.int .u32 (Pc.nx gear S s[k] : Nat))).drew) c _ _ at hbS
      change Owns ((wr.setCell ⟨c, 0, none⟩ (.int .u32 (Pc.nx gear S s[k] : Nat))).drew) n0 _ _ _ _ _ at hoS
      refine hK _ _ ⟨fun h => absurd rfl h, ?_⟩
      clear hK K
      refine seqL_nil ?_
      clear hcc hbk hown c0 f0 q0 p0 hgs hco
      generalize (wr.setCell ⟨c, 0, none⟩ (.int .u32 (Pc.nx gear S s[k] : Nat))).drew = W1 at *
      have q1 := hcS.bs.cell 0
      have p1 := hcS.bc.cell 0
      have c1 := hbS.cell 1
      gi_wp2
      refine wpIn_wide.2 ?_
      refine wp_region_last [(true, 0), (true, 1), (true, 2), (true, 3), (true, 4), (true, 5), (true, 6), (true, 7), (false, 8), (false, 9), (true, 10), (true, 11), (false, 12)] 12 (fun w' => w'.cell? ⟨qs, 0, none⟩ = some (.string s) ∧ w'.cell? ⟨qc, 0, none⟩ = some (.pointer (some ⟨c, 0, none⟩)) ∧ w'.cell? ⟨c, 1, none⟩ = some v) (by kernel_rfl) (by kernel_rfl) (by kernel_rfl) (fun _ _ _ _ _ h => h) (by kernel_rfl) (by kernel_rfl) ?_ ?_
      · exact ⟨q1, p1, c1⟩
      iterate 8 (first | (apply seqL_skip; (focus (simp only [List.getElem?_toArray, List.getElem?_cons_succ, List.getElem?_cons_zero]; rfl)); (focus rfl); simp only [Act.put, List.setIfInBounds_toArray, List.set_cons_zero, List.set_cons_succ]) | (apply seqL_take; (focus (simp only [List.getElem?_toArray, List.getElem?_cons_succ, List.getElem?_cons_zero]; rfl)); (focus rfl); (focus (intro w' hS; obtain ⟨h1, h2, h3⟩ := hS; first | (go_simp; rfl) | (go_simp; done))); simp only [Act.put, List.setIfInBounds_toArray, List.set_cons_zero, List.set_cons_succ]))
      apply seqL_eff
      (focus (simp only [List.getElem?_toArray, List.getElem?_cons_succ, List.getElem?_cons_zero]; rfl))
      (focus rfl)
      intro K hK
      go_simp
      have al : ∀ p : Addr, p.block < W1.heap.size → (W1.drew.alloc (.cells #[bv s[k]] 5)).cell? p = W1.cell? p := fun p hp => World.cell?_alloc_lt W1.drew _ p hp
      have hoA : Owns (W1.drew.alloc (.cells #[bv s[k]] 5)) n0 5 1 eb v r := Owns.alloc (Owns.drew hoS) _
      have hbA : Blk (W1.drew.alloc (.cells #[bv s[k]] 5)) c 138 #[.int .u32 (Pc.nx gear S s[k] : Nat), v] := Blk.alloc (Blk.drew hbS) _
      have hcA : CO w0 n0 c qs qc B D s rec pre (W1.drew.alloc (.cells #[bv s[k]] 5)) := CO.alloc (CO.drew hcS) _
      have hnA : SlR (W1.drew.alloc (.cells #[bv s[k]] 5)) eb (.slice (some ⟨W1.heap.size, 0, none⟩) 1 1) [s[k]] := SlR.lit (enc := eb) W1.drew [bv s[k]] 5 [s[k]] rfl
      refine hK _ _ ⟨fun _ => ⟨(al _ hcS.bs.lt).trans q1, (al _ hcS.bc.lt).trans p1, (al _ hbS.lt).trans c1⟩, ?_⟩
      clear hK K al
      change seqL _ _ _ _ _ _ _ (W1.drew.alloc (.cells #[bv s[k]] 5))
      have hszA : W1.heap.size = W1.heap.size := rfl
      generalize hWA : W1.drew.alloc (.cells #[bv s[k]] 5) = WA at *
      apply seqL_eff
      (focus (simp only [List.getElem?_toArray, List.getElem?_cons_succ, List.getElem?_cons_zero]; rfl))
      (focus rfl)
      intro K hK
      refine wp_append_owns (.tmp 29) (.tmp 33) _ rfl n0 5 (.int .u8 0) 1 1 eb Try.underlying110 byteInfo rfl (by decide) (fun _ => rfl) _ r rfl hoA _ [s[k]] rfl hnA (eb_one _) (by have := HFL.out; simp only [List.length_append, List.length_take, sl_len] at this; simp only [maxLen, List.length_cons, List.length_nil]; omega) (by have := HFL.out; simp only [List.length_append, List.length_take, sl_len] at this; simp only [List.length_cons, List.length_nil]; omega) (by have := hbA.lt; omega) ?_
      intro v2 W2 hoB hgB
      have hbB := hbA.kept hgB (by
        intro e
        exact (hbA.isT.elim fun cs h => h.elim fun t h => h.elim fun m h => (hoA.ne_blk hbA (by decide)) e.symm))
      have hcB := hcA.step hgB hoA.isT
      refine hK _ _ ⟨fun _ => ⟨hcB.bs.cell 0, hcB.bc.cell 0, hbB.cell 1⟩, ?_⟩
      clear hK K
      obtain ⟨g2, cap2, rfl⟩ : ∃ g cap, v2 = .slice (some ⟨g, 0, none⟩) (r ++ [s[k]]).length cap := by
        rcases hoB.form with ⟨_, h⟩ | h
        · simp at h
        · exact h
      have c2 := hbB.cell 1
      have f2 := hbB.frozen 1
      have hbC : Blk (W2.setCell ⟨c, 1, none⟩ (.slice (some ⟨g2, 0, none⟩) (r ++ [s[k]]).length cap2)) c 138 #[.int .u32 (Pc.nx gear S s[k] : Nat), .slice (some ⟨g2, 0, none⟩) (r ++ [s[k]]).length cap2] := hbB.set_ 1 (.slice (some ⟨g2, 0, none⟩) (r ++ [s[k]]).length cap2)
      have hgC := grownBy_set W2 c 1 (.slice (some ⟨g2, 0, none⟩) (r ++ [s[k]]).length cap2)
      have hoC := hoB.grownOther hgC (.inr (hoB.ne_blk hbB (by decide)))
      have hcC := hcB.step hgC (fun j hj => by cases hj; exact ⟨hn0, hbB.isT⟩)
      clear hgB hoA hbA hcA hnA hbS hoS hcS q1 p1 c1 hWA
      generalize hR1 : (r ++ [s[k]]) = r1 at *
      have hl1 : r1.length = r.length + 1 := by rw [← hR1]; simp
      rw [hl1] at hbC hoC hcC
      iterate 2 (first | (apply seqL_skip; (focus (simp only [List.getElem?_toArray, List.getElem?_cons_succ, List.getElem?_cons_zero]; rfl)); (focus rfl); simp only [Act.put, List.setIfInBounds_toArray, List.set_cons_zero, List.set_cons_succ]) | (apply seqL_take; (focus (simp only [List.getElem?_toArray, List.getElem?_cons_succ, List.getElem?_cons_zero]; rfl)); (focus rfl); (focus (intro w' hS; obtain ⟨h1, h2, h3⟩ := hS; first | (go_simp; rfl) | (go_simp; done))); simp only [Act.put, List.setIfInBounds_toArray, List.set_cons_zero, List.set_cons_succ]))
      apply seqL_eff
      (focus (simp only [List.getElem?_toArray, List.getElem?_cons_succ, List.getElem?_cons_zero]; rfl))
      (focus rfl)
      intro K hK
      go_simp
      refine hK _ _ ⟨fun h => absurd rfl h, ?_⟩
      clear hK K
      refine seqL_nil ?_
      clear hbB hgC hoB hcB c2 f2
      generalize W2.setCell ⟨c, 1, none⟩ (.slice (some ⟨g2, 0, none⟩) (r.length + 1) cap2) = W3 at *
      have hS1 : Pc.nx gear S s[k] < 4294967296 := Nat.mod_lt _ (by decide)
      generalize Pc.nx gear S s[k] = S1 at *
      have hcell := hoC.lt
      have d0 := hbC.cell 0
      have d1 := hbC.cell 1
      have e0 := hcC.bs.cell 0
      have e1 := hcC.bc.cell 0
      have HCU : Hid (Cutter W3 n0 c S1 r1) := ⟨_, hbC, hoC⟩
      have HCO := Lib.hid hcC
      clear hcell
      by_cases hE : Pc.ends S1 r1.length = true
      · have hE' := hE
        simp only [Pc.ends, Bool.and_eq_true, decide_eq_true_eq, Bool.or_eq_true, beq_iff_eq] at hE'
        have g16 : decide (((r.length : Int) + 1) < 16) = false := decide_eq_false (by omega)
        by_cases hz : S1 / 134217728 = 0
        · have gz : (((S1 : Int) / 134217728) == 0) = true := by rw [beq_iff_eq]; omega
          have gzp : (S1 : Int) / 134217728 = 0 := by omega
          have gzn : ((S1 : Int) / 134217728 != 0) = false := by rw [gzp]; rfl
          have hcv := conv_own hoC
          generalize (S1 : Int) = X at d0 gz gzp gzn ⊢
          have hpl : (pre.length + 1) * 16 ≤ 140737488355328 := by
            have h1 := flat_ge pre HSZ.out.1
            have h2 := HFL.out
            simp only [List.length_append, List.length_take, sl_len] at h2
            exact pl_nat h1 h2 (hl1 ▸ hE'.1) hlt hlen
          have d2 := hbC.frozen 1
          gi_wp2
          refine wpIn_wide.2 ?_
          refine wp_region_last [(true, 0), (true, 1), (true, 2), (true, 3), (true, 4), (true, 5), (true, 6), (true, 7), (false, 8)] 8 (fun w' => w' = W3.drew) (by kernel_rfl) (by kernel_rfl) (by kernel_rfl) (fun _ _ _ _ _ h => h) (by kernel_rfl) (by kernel_rfl) ?_ ?_
          · rfl
          iterate 8 (first | (apply seqL_skip; (focus (simp only [List.getElem?_toArray, List.getElem?_cons_succ, List.getElem?_cons_zero]; rfl)); (focus rfl); simp only [Act.put, List.setIfInBounds_toArray, List.set_cons_zero, List.set_cons_succ]) | (apply seqL_take; (focus (simp only [List.getElem?_toArray, List.getElem?_cons_succ, List.getElem?_cons_zero]; rfl)); (focus rfl); (focus (intro w' hS; subst hS; first | (go_simp; rfl) | (go_simp; done))); simp only [Act.put, List.setIfInBounds_toArray, List.set_cons_zero, List.set_cons_succ]))
          apply seqL_eff
          (focus (simp only [List.getElem?_toArray, List.getElem?_cons_succ, List.getElem?_cons_zero]; rfl))
          (focus rfl)
          intro K hK
          go_simp
          refine hK _ _ ⟨fun h => absurd rfl h, ?_⟩
          clear hK K
          refine seqL_nil ?_
          have hbD : Blk (W3.setCell ⟨c, 1, none⟩ (.slice (some ⟨g2, 0, none⟩) 0 cap2)) c 138 #[.int .u32 (S1 : Nat), .slice (some ⟨g2, 0, none⟩) 0 cap2] := hbC.set_ 1 (.slice (some ⟨g2, 0, none⟩) 0 cap2)
          have hgD := grownBy_set W3 c 1 (.slice (some ⟨g2, 0, none⟩) 0 cap2)
          have hoD : Owns (W3.setCell ⟨c, 1, none⟩ (.slice (some ⟨g2, 0, none⟩) 0 cap2)) n0 5 1 eb (.slice (some ⟨g2, 0, none⟩) 0 cap2) [] := (Owns.pre (en := eb) (fun _ => rfl) hoC 0 (Nat.zero_le _)).grownOther hgD (.inr (hoC.ne_blk hbC (by decide)))
          have hcD := (HCO.out.step hgD (fun j hj => by cases hj; exact ⟨hn0, hbC.isT⟩)).drew
          have hqD : Cutter (W3.setCell ⟨c, 1, none⟩ (.slice (some ⟨g2, 0, none⟩) 0 cap2)).drew n0 c S1 [] := ⟨_, hbD, hoD⟩
          clear hbD hgD hoD hcv
          generalize (W3.setCell ⟨c, 1, none⟩ (.slice (some ⟨g2, 0, none⟩) 0 cap2)).drew = W4 at *
          obtain ⟨fn, tmps, assign, body, hy, hR⟩ := hround r1 pre S1 [] W4 hqD hcD hpl
          gi_wp2
          refine hR.mono ?_
          rintro e W5 ⟨rfl, hc5, ho5⟩
          gi_wp2
          go_roundw
          case rel => exact ⟨k + 1, by go_num, Nat.succ_le_of_lt hlt, by rw [HTK.out, HSN.out, if_pos hE]; exact hc5, by rw [HTK.out, HSN.out, if_pos hE]; exact ho5⟩
          case measure => exact meas_lt hlt
        · have gz : (((S1 : Int) / 134217728) == 0) = false := by rw [beq_eq_false_iff_ne]; omega
          have gzp : ¬ ((S1 : Int) / 134217728 = 0) := by omega
          have gzn : ((S1 : Int) / 134217728 != 0) = true := by rw [bne_iff_ne]; exact gzp
          have g128 : decide (((r.length : Int) + 1) < 128) = false := decide_eq_false (by omega)
          have hcv := conv_own hoC
          generalize (S1 : Int) = X at d0 gz gzp gzn ⊢
          have hpl : (pre.length + 1) * 16 ≤ 140737488355328 := by
            have h1 := flat_ge pre HSZ.out.1
            have h2 := HFL.out
            simp only [List.length_append, List.length_take, sl_len] at h2
            exact pl_nat h1 h2 (hl1 ▸ hE'.1) hlt hlen
          have d2 := hbC.frozen 1
          gi_wp2
          refine wpIn_wide.2 ?_
          refine wp_region_last [(true, 0), (true, 1), (true, 2), (true, 3), (true, 4), (true, 5), (true, 6), (true, 7), (false, 8)] 8 (fun w' => w' = W3.drew) (by kernel_rfl) (by kernel_rfl) (by kernel_rfl) (fun _ _ _ _ _ h => h) (by kernel_rfl) (by kernel_rfl) ?_ ?_
          · rfl
          iterate 8 (first | (apply seqL_skip; (focus (simp only [List.getElem?_toArray, List.getElem?_cons_succ, List.getElem?_cons_zero]; rfl)); (focus rfl); simp only [Act.put, List.setIfInBounds_toArray, List.set_cons_zero, List.set_cons_succ]) | (apply seqL_take; (focus (simp only [List.getElem?_toArray, List.getElem?_cons_succ, List.getElem?_cons_zero]; rfl)); (focus rfl); (focus (intro w' hS; subst hS; first | (go_simp; rfl) | (go_simp; done))); simp only [Act.put, List.setIfInBounds_toArray, List.set_cons_zero, List.set_cons_succ]))
          apply seqL_eff
          (focus (simp only [List.getElem?_toArray, List.getElem?_cons_succ, List.getElem?_cons_zero]; rfl))
          (focus rfl)
          intro K hK
          go_simp
          refine hK _ _ ⟨fun h => absurd rfl h, ?_⟩
          clear hK K
          refine seqL_nil ?_
          have hbD : Blk (W3.setCell ⟨c, 1, none⟩ (.slice (some ⟨g2, 0, none⟩) 0 cap2)) c 138 #[.int .u32 (S1 : Nat), .slice (some ⟨g2, 0, none⟩) 0 cap2] := hbC.set_ 1 (.slice (some ⟨g2, 0, none⟩) 0 cap2)
          have hgD := grownBy_set W3 c 1 (.slice (some ⟨g2, 0, none⟩) 0 cap2)
          have hoD : Owns (W3.setCell ⟨c, 1, none⟩ (.slice (some ⟨g2, 0, none⟩) 0 cap2)) n0 5 1 eb (.slice (some ⟨g2, 0, none⟩) 0 cap2) [] := (Owns.pre (en := eb) (fun _ => rfl) hoC 0 (Nat.zero_le _)).grownOther hgD (.inr (hoC.ne_blk hbC (by decide)))
          have hcD := (HCO.out.step hgD (fun j hj => by cases hj; exact ⟨hn0, hbC.isT⟩)).drew
          have hqD : Cutter (W3.setCell ⟨c, 1, none⟩ (.slice (some ⟨g2, 0, none⟩) 0 cap2)).drew n0 c S1 [] := ⟨_, hbD, hoD⟩
          clear hbD hgD hoD hcv
          generalize (W3.setCell ⟨c, 1, none⟩ (.slice (some ⟨g2, 0, none⟩) 0 cap2)).drew = W4 at *
          obtain ⟨fn, tmps, assign, body, hy, hR⟩ := hround r1 pre S1 [] W4 hqD hcD hpl
          gi_wp2
          refine hR.mono ?_
          rintro e W5 ⟨rfl, hc5, ho5⟩
          gi_wp2
          go_roundw
          case rel => exact ⟨k + 1, by go_num, Nat.succ_le_of_lt hlt, by rw [HTK.out, HSN.out, if_pos hE]; exact hc5, by rw [HTK.out, HSN.out, if_pos hE]; exact ho5⟩
          case measure => exact meas_lt hlt
      · have hE' := hE
        simp only [Pc.ends, Bool.and_eq_true, decide_eq_true_eq, Bool.or_eq_true, beq_iff_eq, not_and, not_or] at hE'
        by_cases h16 : r.length + 1 < 16
        · have g16 : decide (((r.length : Int) + 1) < 16) = true := decide_eq_true (by omega)
          gi_wp2
          go_roundw
          case rel => exact ⟨k + 1, by go_num, Nat.succ_le_of_lt hlt, by rw [HTK.out, HSN.out, if_neg hE]; exact HCU.out, by rw [HTK.out, HSN.out, if_neg hE]; exact HCO.out⟩
          case measure => exact meas_lt hlt
        · have g16 : decide (((r.length : Int) + 1) < 16) = false := decide_eq_false (by omega)
          have gz : (((S1 : Int) / 134217728) == 0) = false := by rw [beq_eq_false_iff_ne]; omega
          have gzp : ¬ ((S1 : Int) / 134217728 = 0) := by omega
          have gzn : ((S1 : Int) / 134217728 != 0) = true := by rw [bne_iff_ne]; exact gzp
          have g128 : decide (((r.length : Int) + 1) < 128) = true := decide_eq_true (by omega)
          generalize (S1 : Int) = X at d0 gz gzp gzn ⊢
          gi_wp2
          go_roundw
          case rel => exact ⟨k + 1, by go_num, Nat.succ_le_of_lt hlt, by rw [HTK.out, HSN.out, if_neg hE]; exact HCU.out, by rw [HTK.out, HSN.out, if_neg hE]; exact HCO.out⟩
          case measure => exact meas_lt hlt
    · have hE : (sl s).take k = sl s := List.take_of_length_le (by rw [sl_len]; omega)
      rw [hE] at hcu hco
      gi_wp2
      go_end0
      exact ⟨⟨_, rfl⟩, hcu, hco⟩
end Go.Proofs.Ythhhlaoiampinaa
