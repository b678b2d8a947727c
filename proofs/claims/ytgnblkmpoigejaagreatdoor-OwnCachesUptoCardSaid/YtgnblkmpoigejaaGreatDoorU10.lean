import Derived.Test.YtgnblkmpoigejaaGreatDoorU9
import Derived.Test.YtgnblkmpoigejaaGreatDoorU1
import Derived.OrdersIn
import Derived.Test.YtgnblkmpoigejaaGreatDoorChecked
import Derived.Test.YtgnblkmpoigejaaGreatDoorU0
import Derived.ProofKit
import Derived.OpenShut
import Derived.SliceStrings
import Derived.Deep.Slices
import Derived.Deep.Fields
import Derived.ChangeSame
import Derived.SizedLaws
import Derived.Lib.SmallJoins
import Derived.Test.YtgnblkmpoigejaaGreatDoorU3
import Derived.Deep.MidRow
import Derived.Deep.WholeRow
set_option linter.unusedVariables false
set_option linter.unusedSimpArgs false
namespace Go.Proofs.YtgnblkmpoigejaaGreatDoor
set_option maxRecDepth 20000
open Go.RowKit Go.Shelf
theorem rows_in {n D : Nat} {P : Program} {row : String} {args : Array Value} {w : World} {R : Value → World → Prop} (h : Rows P row args w R) : RowsIn (Fence.wide.inRound D) n P row args w R := by
 intro c cs _
 obtain ⟨v, w', hr, hs⟩ := h c cs
 exact ⟨v, w', hr, stepsIn_wide.2 hs⟩
theorem oper_in {n D : Nat} {P : Program} {o : Oper} {a : Act} {w : World} {K : Act → World → Prop} {Q : Exit → Act → World → Prop} (hd : ∀ c, o.op ≠ .defer c) (h : o.wp P a w K Q) : o.wpIn (Fence.wide.inRound D) n P a w K Q := by
 refine ⟨fun _ _ => trivial, ?_⟩
 rw [Fence.inRound_round, Oper.semAt_some D a.eval o hd]
 unfold Oper.wp at h
 generalize (execOp a.eval o).run P w = r at h
 cases r with
 | ok x w' =>
  cases x with
  | value v => exact h
  | skip => exact h
  | defer d => exact h
  | enter f args => exact ⟨fun hh => by simp [Fence.wide] at hh, CallsIn.inRound D (callsIn_wide.2 h)⟩
  | row row args => exact ⟨fun hh => by simp [Fence.wide] at hh, rows_in h⟩
  | _ => exact h.elim
 | halt x w' =>
  cases x with
  | panic v => exact h
  | _ => exact h.elim
def noDefer (ops : Array Oper) : Bool := ops.all fun o => match o.op with | .defer _ => false | _ => true
theorem any_in {n D : Nat} {P : Program} {ops : Array Oper} {Q : Exit → Act → World → Prop} {md : Region.Mode} (hd : noDefer ops = true) (hQ : ¬ LetsOut Q) :
  ∀ (fuel : Nat) (listed : Array Bool) (a : Act) (w : World), wpAny P md ops Q fuel listed a w → wpAnyIn (Fence.wide.inRound D) n P md ops Q fuel listed a w
 | 0, _, _, _, h => h
 | fuel + 1, listed, a, w, h => by
  refine ⟨h.1, fun i hi => ?_⟩
  have h2 := h.2 i hi
  unfold wpOp at h2
  unfold wpOpIn
  cases ho : ops[i]? with
  | none => rw [ho] at h2; exact any_in hd hQ fuel _ _ _ h2
  | some o =>
   rw [ho] at h2
   have hod : ∀ c, o.op ≠ .defer c := by
    intro c e
    have := Array.all_eq_true'.1 hd o (Array.mem_of_getElem? ho)
    rw [e] at this
    cases this
   dsimp only at h2 ⊢
   split
   ·rename_i hw
    rw [if_pos hw] at h2
    rcases h2 with h2 | h2
    ·exact Oper.wpIn_mono (fun a w h => any_in hd hQ fuel _ _ _ h) (oper_in hod h2)
    ·exact absurd h2.2 hQ
   ·rename_i hw
    rw [if_neg hw] at h2
    exact ⟨fun _ _ => trivial, any_in hd hQ fuel _ _ _ h2⟩
theorem wp_region_round {n D : Nat} {P : Program} {ops : Array Oper} {Q : Exit → Act → World → Prop} {S : World → Prop} {id : Nat} {a : Act} {w : World} (l : List (Bool × Nat)) (hm : P.follows .mixedOrders = true) (hs : Region.noSelect ops = true)
  (hQ : ∀ (d : Tmp) (v : Value) c (a : Act) w, Q (.panic c) { a with tmps := a.tmps.setIfInBounds d v } w → Q (.panic c) a w) (hL : ¬ LetsOut Q) (hd : noDefer ops = true) (hlen : decide (l.length ≤ ops.size) = true)
  (hok : okSeq ops l (Array.replicate ops.size false) = true) (hS : S w.drew) (h : seqH P ops Q S l a w.drew) : (Code.region id ops true).wpIn (Fence.wide.inRound D) n P Q a w :=
 wpIn_region_any hm (any_in hd hL _ _ _ _ (wpAny_of_held _ _ _ _ (seqH_sound hs (fun d v c a w h => by cases d with | none => exact h | some d => exact hQ d v c a w h) l ops.size _ a w.drew (of_decide_eq_true hlen) hok hS h)))
def noPanic (Q : Exit → Act → World → Prop) : Exit → Act → World → Prop
 | .panic _, _, _ => False
 | e, a, w => Q e a w
theorem noPanic_imp {Q : Exit → Act → World → Prop} : ∀ e a w, noPanic Q e a w → Q e a w := by
 intro e a w h
 cases e <;> first | exact h | exact h.elim
set_option maxRecDepth 20000
attribute [local go_sem] Oper.semAt_some
def without (ns : List Nd) (k : ByteArray) : List Nd := ns.filter fun x => !decide (x.2.1 = k)
theorem without_none {ns : List Nd} {k : ByteArray} (h : ∀ x ∈ ns, x.2.1 ≠ k) : without ns k = ns := List.filter_eq_self.2 (fun x hx => by simp [h x hx])
theorem without_some {l r : List Nd} {b : Nat} {k : ByteArray} {s : Int} (h : ((l ++ (b, k, s) :: r).map (·.2.1)).Nodup) : without (l ++ (b, k, s) :: r) k = l ++ r := by
 have hn := not_key h
 unfold without
 rw [List.filter_append, List.filter_cons_of_neg (by simp), ← List.filter_append]
 exact List.filter_eq_self.2 (fun x hx => by simp [hn x hx])
theorem without_not (ns : List Nd) (k : ByteArray) : ∀ x ∈ without ns k, x.2.1 ≠ k := by
 intro x hx
 have := (List.mem_filter.1 hx).2
 simpa using this
theorem dropRow_any (n0 : Lim) (p c mb : Nat) (room : Int) (ns : List Nd) (k : ByteArray) (w : World) (h : RowS w n0 p room c mb ns) (hks : k.size ≤ maxLen) :
  Calls Tryz.prog 72 #[ptr p, .string k] w fun e w' => (∃ q, e = .returned (.int .i64 q)) ∧ RowS w' n0 p room c mb (without ns k) ∧ RG RY mb n0 w w' := by
 rcases find_split ns k with hk | ⟨l, b, s, r, rfl⟩
 ·refine (drop_none n0 p c mb room ns k w h hks hk).mono ?_
  rintro e w' ⟨rfl, rfl⟩
  rw [without_none hk]
  exact ⟨⟨_, rfl⟩, h, RG.refl _ _ _ _⟩
 ·rw [without_some h.ch.kd]
  refine (drop_some n0 p c mb b room l r k s w h).mono ?_
  rintro e w' ⟨rfl, h1, h2, _⟩
  exact ⟨⟨_, rfl⟩, h1, h2⟩
theorem putR_full (n0 : Lim) (p c mb : Nat) (room : Int) (ns : List Nd) (k : ByteArray) (s : Int) (w : World) (h : RowS w n0 p room c mb ns) (hs0 : 1 ≤ s) (hs : room < s) :
  Calls Tryz.prog 37 #[ptr p, .string k, .int .i64 s] w fun e w' => e = .returned (.tuple #[.slice none 0 0, .int .i64 6]) ∧ Below w.heap.size w w' := by
 have hA : Below w.heap.size w ((w.alloc (.cells #[ptr p] 72)).alloc (.cells #[.int .i64 s] 3)) := ((Below.refl _ w).alloc (Nat.le_refl _) _).alloc (by simp) _
 have p0 := (h.below hA).blk.cell 0
 have hB0 : Blk ((w.alloc (.cells #[ptr p] 72)).alloc (.cells #[.int .i64 s] 3)) w.heap.size 72 #[ptr p] := (Blk.new w _ _).alloc _
 have hB1 : Blk ((w.alloc (.cells #[ptr p] 72)).alloc (.cells #[.int .i64 s] 3)) (w.heap.size + 1) 3 #[.int .i64 s] := by
  have := Blk.new (w.alloc (.cells #[ptr p] 72)) 3 #[.int .i64 s]
  rwa [World.size_alloc] at this
 go_enter Tryz.func37, Tryz.ntmps37
 go_wp2_with fail
 have b0 := hB0.cell 0
 have b1 := hB1.cell 0
 generalize (w.alloc (.cells #[ptr p] 72)).alloc (.cells #[.int .i64 s] 3) = W1 at *
 refine wp_region_seq [(true, 0), (true, 1), (true, 2), (true, 3), (true, 4), (true, 5), (true, 6)] (fun w' => w' = W1.drew) (by kernel_rfl) (by kernel_rfl) (fun _ _ _ _ _ h => h) (by kernel_rfl) (by kernel_rfl) ?_ ?_
 ·rfl
 iterate 7 (first | (apply seqH_skip; (focus (simp only [List.getElem?_toArray, List.getElem?_cons_succ, List.getElem?_cons_zero]; rfl)); (focus rfl); simp only [Act.put, List.setIfInBounds_toArray, List.set_cons_zero, List.set_cons_succ]) | (apply seqH_take; (focus (simp only [List.getElem?_toArray, List.getElem?_cons_succ, List.getElem?_cons_zero]; rfl)); (focus rfl); (focus (intro w' hS; subst hS; first | (go_simp; rfl) | (go_simp; done))); simp only [Act.put, List.setIfInBounds_toArray, List.set_cons_zero, List.set_cons_succ]) | (apply seqH_pass; (focus (simp only [List.getElem?_toArray, List.getElem?_cons_succ, List.getElem?_cons_zero]; rfl)); (focus rfl); (focus assumption); simp only [Act.put, List.setIfInBounds_toArray, List.set_cons_zero, List.set_cons_succ]))
 refine seqH_nil ?_
 go_wp2_with fail
 go_ret2
 exact ⟨rfl, hA.drew⟩
def leftR (room s : Int) : List Nd → List Nd
 | [] => []
 | x :: r => if usedOf (x :: r) + s ≤ room then x :: r else leftR room s r
theorem leftR_go {room s : Int} {x : Nd} {r : List Nd} (h : ¬ usedOf (x :: r) + s ≤ room) : leftR room s (x :: r) = leftR room s r := if_neg h
theorem leftR_stay {room s : Int} {x : Nd} {r : List Nd} (h : usedOf (x :: r) + s ≤ room) : leftR room s (x :: r) = x :: r := if_pos h
def PutI (w : World) (B2 D : Nat) (rec : Loop) (ns1 : List Nd) (n0 : Lim) (p : Nat) (room : Int) (c mb : Nat) (s : Int) (rest : List Nd) (W : World) : Prop :=
 ∃ pre, (ns1 = pre ++ rest ∧ leftR room s ns1 = leftR room s rest) ∧ OL B2 D rec (pre.map (·.2.1)) W ∧ Blk W w.heap.size 72 #[ptr p] ∧ Blk W (w.heap.size + 1) 3 #[.int .i64 s] ∧ RowS W n0 p room c mb rest ∧ RG RY mb n0 w W
def PutJ (w : World) (B2 D : Nat) (rec : Loop) (ns1 : List Nd) (n0 : Lim) (p : Nat) (room : Int) (c mb : Nat) (s : Int) (W : World) : Prop :=
 ∃ gone left st pd, st ≠ LoopState.busy ∧ (pd = none ∨ pd = some (.exit 1)) ∧ (ns1 = gone ++ left ∧ left = leftR room s ns1) ∧ usedOf left + s ≤ room ∧ OL B2 D { rec with state := st, pending := pd } (gone.map (·.2.1)) W ∧ Blk W w.heap.size 72 #[ptr p] ∧ Blk W (w.heap.size + 1) 3 #[.int .i64 s] ∧ RowS W n0 p room c mb left ∧ RG RY mb n0 w W
set_option maxHeartbeats 4000000 in
theorem noPanic_ret {Q : Exit → Act → World → Prop} {a : Act} {w : World} : noPanic Q .ret a w ↔ Q .ret a w := Iff.rfl
theorem putR_okD (n0 : Lim) (p c mb : Nat) (room : Int) (ns : List Nd) (k : ByteArray) (s : Int) (w : World) (h : RowS w n0 p room c mb ns) (hs0 : 1 ≤ s) (hs : s ≤ room) (hks : k.size ≤ maxLen) :
  Calls Tryz.prog 37 #[ptr p, .string k, .int .i64 s] w fun e w' => ∃ v b gone left, e = .returned (.tuple #[v, .int .i64 0]) ∧ (without ns k = gone ++ left ∧ left = leftR room s (without ns k)) ∧ Owns w' w.heap.size 9 1 es v (gone.map (·.2.1)) ∧ RowS w' n0 p room c mb (left ++ [(b, k, s)]) ∧ RG RY mb n0 w w' := by
 have hn0 := h.n0w
 have hA : Below w.heap.size w ((w.alloc (.cells #[ptr p] 72)).alloc (.cells #[.int .i64 s] 3)) := ((Below.refl _ w).alloc (Nat.le_refl _) _).alloc (by simp) _
 have H := Lib.hid h
 have p0 := (h.below hA).blk.cell 0
 have hB0 : Blk ((w.alloc (.cells #[ptr p] 72)).alloc (.cells #[.int .i64 s] 3)) w.heap.size 72 #[ptr p] := (Blk.new w _ _).alloc _
 have hB1 : Blk ((w.alloc (.cells #[ptr p] 72)).alloc (.cells #[.int .i64 s] 3)) (w.heap.size + 1) 3 #[.int .i64 s] := by
  have := Blk.new (w.alloc (.cells #[ptr p] 72)) 3 #[.int .i64 s]
  rwa [World.size_alloc] at this
 have hd1 : decide (s < 1) = false := by rw [decide_eq_false_iff_not]; omega
 have hd2 : decide (room < s) = false := by rw [decide_eq_false_iff_not]; omega
 clear h
 have hmf : ∀ (fn : Fn) (first cap : Array Value) (w : World), (Instr.makeFunc fn first cap).run Tryz.prog w = .ok (.func fn first cap) w := fun _ _ _ _ => rfl
 refine (callsIn_wide (n := 4)).1 ?_
 refine callsIn_of_wp_marks Tryz.func37 rfl trivial (wpIn_mono (Q := noPanic _) ?_ noPanic_imp) rfl
 simp only [Tryz.ntmps37, List.size_toArray, List.length_cons, List.length_nil, Nat.reduceAdd, Nat.reduceSub, Array.replicate_succ, Array.replicate_zero, List.push_toArray, List.append_toArray, List.nil_append, List.cons_append]
 gi_wp2
 have b0 := hB0.cell 0
 have b1 := hB1.cell 0
 generalize hW1 : (w.alloc (.cells #[ptr p] 72)).alloc (.cells #[.int .i64 s] 3) = W1 at *
 have hz1 : W1.heap.size = w.heap.size + 2 := by rw [← hW1]; simp
 clear hW1
 refine wpIn_wide.2 ?_
 refine wp_region_seq [(true, 0), (true, 1), (true, 2), (true, 3), (true, 4), (true, 5), (true, 6)] (fun w' => w' = W1.drew) (by kernel_rfl) (by kernel_rfl) (fun _ _ _ _ _ h => h) (by kernel_rfl) (by kernel_rfl) ?_ ?_
 ·rfl
 iterate 7 (first | (apply seqH_skip; (focus (simp only [List.getElem?_toArray, List.getElem?_cons_succ, List.getElem?_cons_zero]; rfl)); (focus rfl); simp only [Act.put, List.setIfInBounds_toArray, List.set_cons_zero, List.set_cons_succ]) | (apply seqH_take; (focus (simp only [List.getElem?_toArray, List.getElem?_cons_succ, List.getElem?_cons_zero]; rfl)); (focus rfl); (focus (intro w' hS; subst hS; first | (go_simp; rfl) | (go_simp; done))); simp only [Act.put, List.setIfInBounds_toArray, List.set_cons_zero, List.set_cons_succ]) | (apply seqH_pass; (focus (simp only [List.getElem?_toArray, List.getElem?_cons_succ, List.getElem?_cons_zero]; rfl)); (focus rfl); (focus assumption); simp only [Act.put, List.setIfInBounds_toArray, List.set_cons_zero, List.set_cons_succ]))
 refine seqH_nil ?_
 have hR1 := (H.out.below hA).drew
 have hB0' := hB0.drew
 have hB1' := hB1.drew
 have hA' := hA.drew
 have hz1' : W1.drew.heap.size = w.heap.size + 2 := hz1
 have b0 := hB0.drew.cell 0
 clear b1 p0 hB0 hB1 hA hz1
 generalize W1.drew = W2 at *
 gi_wp2_with (refine ⟨trivial, ?_⟩; gi_at_call 72; refine (callsIn_wide.2 (dropRow_any n0 p c mb room ns k _ hR1 hks)).mono ?_; rintro e W3 ⟨⟨q, rfl⟩, hR3, rf3⟩; have g0 := ((hB0'.rf rf3.toRF (by decide)).alloc (.cells #[.slice none 0 0] 59)).cell 0; have g2 := (hR3.alloc (.cells #[.slice none 0 0] 59)).blk.cell 2)
 have hB2 := Blk.new W3 59 #[.slice none 0 0]
 have hB0'' := (hB0'.rf rf3.toRF (by decide)).alloc (.cells #[.slice none 0 0] 59)
 have hB1'' := (hB1'.rf rf3.toRF (by decide)).alloc (.cells #[.slice none 0 0] 59)
 have hR4 := hR3.alloc (.cells #[.slice none 0 0] 59)
 have rf2 : RG RY mb n0 w W2 := RG.of_below hA' hn0
 have hn3 : n0.lo ≤ W3.heap.size := hR3.n0w
 have rf4 : RG RY mb n0 w (W3.alloc (.cells #[.slice none 0 0] 59)) := (rf2.trans rf3).alloc hn3 _
 have hz4 : (W3.alloc (.cells #[.slice none 0 0] 59)).heap.size = W3.heap.size + 1 := World.size_alloc ..
 have hz3 : w.heap.size + 2 ≤ W3.heap.size := by have := rf3.size; omega
 clear g0 g2 hB0' hB1' hR1 hR3 rf2 rf3 hA' hz1'
 obtain ⟨B2, hBB⟩ : ∃ B2, B2 = W3.heap.size := ⟨_, rfl⟩
 generalize W3.alloc (.cells #[.slice none 0 0] 59) = W4 at *
 rw [← hBB] at hB2 hz4 hz3 hn3 ⊢
 clear hBB
 have HNL := Lib.hid (H.out.len)
 have HW1 : Hid ((without ns k).length ≤ ns.length) := List.length_filter_le _ _
 have HNK := Lib.hid (without_not ns k)
 generalize hns1 : without ns k = ns1 at *
 have HNE := Lib.hid hns1
 clear hns1
 refine wpIn_rangeFunc_out (n := 4) rfl (by decide) (gf := 77) (fs := #[ptr c]) (lb := #[]) rfl trivial (enters_of Tryz.func77 (by kernel_rfl) rfl) ?_
 intro rec hF hst hpe htm hpa has hbo
 have hl1 : ((W4.alloc (.deferred (some []))).alloc (.loop rec)).heap[W4.heap.size + 1]? = some (.loop rec) := by
  have := World.alloc_heap_new (W4.alloc (.deferred (some []))) (.loop rec); rwa [World.size_alloc] at this
 have hd1 : ((W4.alloc (.deferred (some []))).alloc (.loop rec)).heap[W4.heap.size]? = some (.deferred (some [])) :=
  (Below.heap_alloc _ _ _ (by simp)).trans (World.alloc_heap_new W4 _)
 have hol1 : OL B2 W4.heap.size rec [] ((W4.alloc (.deferred (some []))).alloc (.loop rec)) :=
  ⟨⟨_, (hB2.alloc _).alloc _, Owns.nil ..⟩, hd1, hl1, by simp, by omega⟩
 have HZ := Lib.hid hz4
 have HZ3 := Lib.hid hz3
 have HN3 := Lib.hid hn3
 refine (all_in 3 c (W4.heap.size + 1) (fun rest W => PutI w B2 W4.heap.size rec ns1 n0 p room c mb s rest W)
  (fun W => PutJ w B2 W4.heap.size rec ns1 n0 p room c mb s W)
  (fun W => ns1.length - lenAt W B2) (by decide) ?mu ?drew ?key ?round ?ends ns1 _ ⟨[], ⟨rfl, rfl⟩, hol1, (hB0''.alloc _).alloc _, (hB1''.alloc _).alloc _, (hR4.alloc _).alloc _, (rf4.alloc (Nat.le_trans hn3 (by omega)) _).alloc (Nat.le_trans hn3 (by simp; omega)) _⟩ ?first).mono ?_
 case mu =>
  rintro rest W ⟨pre, he, ho, _⟩
  show ns1.length - lenAt W B2 = _
  rw [ho.len, he.1]
  simp
 case drew =>
  rintro rest W ⟨pre, he, ho, h0, h1, hr, hf⟩
  exact ⟨pre, he, ho.drew, h0.drew, h1.drew, hr.drew, hf.drew⟩
 case key =>
  rintro x rest W ⟨pre, he, ho, h0, h1, hr, hf⟩
  exact ⟨hr.ch.node x (by simp), hr.ch.ne_root x (by simp), mb, hr.ch.root⟩
 case ends =>
  rintro W ⟨pre, he, ho, h0, h1, hr, hf⟩
  refine ⟨pre, [], rec.state, rec.pending, by rw [hst]; decide, .inl hpe, ⟨he.1, he.2.symm⟩, by simp [usedOf]; exact hs, ho, h0, h1, hr, hf⟩
 case first => exact ring_first (((hR4.alloc _).alloc _).ch)
 case round =>
  rintro x rest W ⟨pre, he, ho, h0, h1, hr, hf⟩
  have hnx := ring_next (l := []) (r := rest) (x := x) hr.ch
  refine yieldB_of ?a1 hF ho.lr hst hpe (by rw [hpa]; rfl) ?asg ?bod
  case asg =>
   intro K hK
   rw [has, htm, hpa]
   gi_wp2
   exact hK
  case bod =>
   have hDn : w.heap.size + 2 ≤ W4.heap.size := by have := HZ.out; have := HZ3.out; omega
   have hnD : n0.lo ≤ W4.heap.size := by omega
   have hob : OL B2 W4.heap.size { rec with state := .busy } (pre.map (·.2.1)) (W.putObj (W4.heap.size + 1) (.loop { rec with state := .busy })) := ho.put
   have hg := gput W (W4.heap.size + 1) (.loop { rec with state := .busy })
   have h0b := Blk.keptR h0 hg (by intro e; injection e with e; omega)
   have h1b := Blk.keptR h1 hg (by intro e; injection e with e; omega)
   have hrb := hr.keptO hg (fun k hk => by cases hk; exact ⟨_, ho.lr, rfl⟩)
   have hfb := hf.grownN hg (by have := ho.sz; omega) (fun k hk => by cases hk; exact ⟨.inl (by omega), .inl (by omega)⟩)
   have hpl : pre.length + 1 ≤ 1000000 := by have := congrArg List.length he.1; have := HW1.out; have := HNL.out; simp only [List.length_append, List.length_cons] at *; omega
   generalize W.putObj (W4.heap.size + 1) (.loop { rec with state := .busy }) = Wb at *
   have HRB : Hid (∀ W3, ¬ usedOf (x :: rest) + s ≤ room → OL B2 W4.heap.size { rec with state := .busy } ((pre ++ [x]).map (·.2.1)) W3 → Blk W3 w.heap.size 72 #[ptr p] → Blk W3 (w.heap.size + 1) 3 #[.int .i64 s] → RowS W3 n0 p room c mb rest → RG RY mb n0 w W3 → W3.cell? ⟨x.1, 3, none⟩ = some (ptr (hdB rest c)) →
     W3.heap[W4.heap.size + 1]? = some (.loop { rec with state := .busy }) ∧ PutI w B2 W4.heap.size rec ns1 n0 p room c mb s rest (W3.putObj (W4.heap.size + 1) (.loop rec)) ∧ (W3.putObj (W4.heap.size + 1) (.loop rec)).cell? ⟨x.1, 3, none⟩ = some (ptr (hdB rest c))) := by
    intro W3 g0 g1 g2 g3 g4 g5 g6
    have hg3 := gput W3 (W4.heap.size + 1) (.loop rec)
    refine ⟨g1.lr, ⟨pre ++ [x], ⟨by rw [he.1, List.append_assoc]; rfl, by rw [he.2, leftR_go g0]⟩, g1.put, Blk.keptR g2 hg3 (by intro e; injection e with e; omega), Blk.keptR g3 hg3 (by intro e; injection e with e; omega), g4.keptO hg3 (fun k hk => by cases hk; exact ⟨_, g1.lr, rfl⟩), g5.grownN hg3 (by have := g1.sz; omega) (fun k hk => by cases hk; exact ⟨.inl (by omega), .inl (by omega)⟩)⟩, hg3.cell g6 ?_⟩
    intro e
    injection e with e
    change x.1 = _ at e
    have hc : W3.cell? ⟨x.1, 3, none⟩ = none := by rw [e]; simp [World.cell?, g1.lr]
    rw [hc] at g6
    cases g6
   have HRX : Hid (∀ W3, OL B2 W4.heap.size { rec with state := .busy } (pre.map (·.2.1)) W3 → Blk W3 w.heap.size 72 #[ptr p] → Blk W3 (w.heap.size + 1) 3 #[.int .i64 s] → RowS W3 n0 p room c mb (x :: rest) → RG RY mb n0 w W3 → usedOf (x :: rest) + s ≤ room →
     W3.heap[W4.heap.size + 1]? = some (.loop { rec with state := .busy }) ∧ PutJ w B2 W4.heap.size rec ns1 n0 p room c mb s (W3.putObj (W4.heap.size + 1) (.loop { rec with state := .done, pending := some (.exit 1) }))) := by
    intro W3 g1 g2 g3 g4 g5 g6
    have hg3 := gput W3 (W4.heap.size + 1) (.loop { rec with state := .done, pending := some (.exit 1) })
    exact ⟨g1.lr, pre, x :: rest, .done, some (.exit 1), by decide, .inr rfl, ⟨he.1, by rw [he.2, leftR_stay g6]⟩, g6, g1.put, Blk.keptR g2 hg3 (by intro e; injection e with e; omega), Blk.keptR g3 hg3 (by intro e; injection e with e; omega), g4.keptO hg3 (fun k hk => by cases hk; exact ⟨_, g1.lr, rfl⟩), g5.grownN hg3 (by have := g1.sz; omega) (fun k hk => by cases hk; exact ⟨.inl (by omega), .inl (by omega)⟩)⟩
   generalize ({ rec with state := .busy } : Loop) = recB at *
   clear he
   conv => arg 4; rw [hbo]
   clear hst hpe htm hpa has hbo hl1 hd1 hol1 hB2 hB0'' hB1'' hR4 rf4 hz4 hz3 hn3 ho h0 h1 hr hf hg
   have c0 := h0b.cell 0
   have c1 := h1b.cell 0
   have r0 := hrb.blk.cell 0
   have r1 := hrb.blk.cell 1
   have r2 := hrb.blk.cell 2
   have hus1 := usedOf_len hrb.sz
   have hus2 := hrb.us
   have hrm := hrb.rm.2
   have hws : IntKind.i64.wrap (usedOf (x :: rest) + s) = usedOf (x :: rest) + s := by rw [IntKind.wrap_i64]; omega
   gi_wp2
   refine wp_region_round (S := fun w' => w' = Wb.drew) [(true, 0), (true, 1), (true, 2), (true, 3), (true, 4), (true, 5), (true, 6), (true, 7), (true, 8), (true, 9), (true, 10)] (by kernel_rfl) (by kernel_rfl) (fun _ _ _ _ _ h => h) ?_ (by kernel_rfl) (by kernel_rfl) (by kernel_rfl) ?_ ?_
   ·rintro ⟨a, w, hl⟩
    rcases hl with ⟨_, ⟨hh, _⟩ | ⟨_, hh, _⟩⟩ <;> cases hh
   ·rfl
   iterate 11 (first | (apply seqH_skip; (focus (simp only [List.getElem?_toArray, List.getElem?_cons_succ, List.getElem?_cons_zero]; rfl)); (focus rfl); simp only [Act.put, List.setIfInBounds_toArray, List.set_cons_zero, List.set_cons_succ]) | (apply seqH_take; (focus (simp only [List.getElem?_toArray, List.getElem?_cons_succ, List.getElem?_cons_zero]; rfl)); (focus rfl); (focus (intro w' hS; subst hS; first | (go_simp; rfl) | (go_simp; done))); simp only [Act.put, List.setIfInBounds_toArray, List.set_cons_zero, List.set_cons_succ]) | (apply seqH_pass; (focus (simp only [List.getElem?_toArray, List.getElem?_cons_succ, List.getElem?_cons_zero]; rfl)); (focus rfl); (focus assumption); simp only [Act.put, List.setIfInBounds_toArray, List.set_cons_zero, List.set_cons_succ]))
   refine seqH_nil ?_
   clear c0 c1 r0 r1 r2 hws
   replace hob := hob.drew
   replace h0b := h0b.drew
   replace h1b := h1b.drew
   replace hrb := hrb.drew
   replace hfb := hfb.drew
   generalize Wb.drew = Wc at *
   by_cases hfit : usedOf (x :: rest) + s ≤ room
   ·have hX := HRX.out Wc hob h0b h1b hrb hfb hfit
    have HX := Lib.hid hX
    clear hX hob h0b h1b hrb hfb
    generalize usedOf (x :: rest) + s = U at *
    gi_wp2
    exact HX.out
   ·have hdf : decide (usedOf (x :: rest) + s ≤ room) = false := by rw [decide_eq_false_iff_not]; exact hfit
    have HFIT := Lib.hid hfit
    clear hfit
    generalize usedOf (x :: rest) + s = U at *
    obtain ⟨o, ho1, ho2⟩ := hob.out
    have b0 := ho1.cell 0
    obtain ⟨i0, hi, hi0, hi1, hi2⟩ := info_parts stringInfo
    have hrow : Wc.ownsRow (W4.heap.size + 2) 9 1 o (pre.map (·.2.1)).length ((pre.map (·.2.1)).flatMap es) := ho2
    have hml : (pre.map (·.2.1)).length = pre.length := List.length_map ..
    gi_wp2_with (gi_at_builtin; refine wpListIn_append_own _ rfl _ _ 59 rfl (W4.heap.size + 2) 9 i0 (.string ByteArray.empty) 1 16 Tryz.underlying59 hi hi0 hi1 hi2 rfl (by decide) _ _ _ rfl (hrow.alloc _) ⟨Wc.heap.size, 0, none⟩ 1 1 [.string x.2.1] rfl rfl (new_cells _ [.string x.2.1] _) (by simp [Value.oneCell']) (by rw [hml]; simp only [maxLen]; omega) (by rw [hml]; omega) (by have := hob.sz; simp; omega) ?_; intro v' w1 hown' hgrow _; obtain ⟨g', cap', rfl⟩ := ownsRow_succ hown'; have hv1 := Blk.keptR (ho1.alloc (.cells #[.string x.2.1] 9)) hgrow (by intro e; have := (ho2.lt _ e.symm).1; have := hob.lt; omega); have hc1 := hv1.cell 0; have hf1 := hv1.frozen 0; have h0c := (Blk.keptR (h0b.alloc (.cells #[.string x.2.1] 9)) hgrow (by intro e; have := (ho2.lt _ e.symm).1; omega)).far (p := ⟨B2, 0, none⟩) (show w.heap.size ≠ B2 by have := HZ3.out; omega) (.slice (some ⟨g', 0, none⟩) (pre.length + 1) cap'); have hc2 := h0c.cell 0)
    have h1c := (Blk.keptR (h1b.alloc (.cells #[.string x.2.1] 9)) hgrow (by intro e; have := (ho2.lt _ e.symm).1; omega)).far (p := ⟨B2, 0, none⟩) (show w.heap.size + 1 ≠ B2 by have := HZ3.out; omega) (.slice (some ⟨g', 0, none⟩) (pre.length + 1) cap')
    have hg7 : w1.grownBy (w1.setCell ⟨B2, 0, none⟩ (.slice (some ⟨g', 0, none⟩) (pre.length + 1) cap')) (some B2) := ⟨rfl, rfl, rfl, by simp [World.setCell], fun k _ hne => Below.heap_setCell _ _ _ _ (fun e => hne (by rw [e]))⟩
    have hoA := ho2.alloc (.cells #[.string x.2.1] 9)
    have hRd := ((hrb.alloc (.cells #[.string x.2.1] 9)).keptO hgrow (fun j hj => by
     obtain ⟨g, cap, cur, hv, _, hh, _⟩ := hoA.2.resolve_left (fun h => by rw [h.1] at hj; cases hj)
     have hj' : o.ownBlock = some j := hj
     rw [hv] at hj'
     have hgj : g = j := by simpa [Value.ownBlock] using hj'
     rw [← hgj]
     exact ⟨_, hh, rfl⟩)).keptO hg7 (fun j hj => by cases hj; exact ⟨_, hv1, rfl⟩)
    have hFd := ((hfb.alloc (by have := hob.sz; omega) (.cells #[.string x.2.1] 9)).grownN hgrow (by have := hob.sz; simp; omega) (fun j hj => by have := (ho2.lt j hj).1; exact ⟨.inl (by omega), .inl (by omega)⟩)).grownN hg7 (by have := hgrow.size; have := hob.sz; simp at *; omega) (fun j hj => by cases hj; exact ⟨.inl HN3.out, .inl (by have := HZ3.out; omega)⟩)
    have hol3 := (OL.alloc hob (.cells #[.string x.2.1] 9)).grow (p := x.2.1) (ho1.alloc _) hoA hgrow (v' := .slice (some ⟨g', 0, none⟩) (pre.length + 1) cap') (by
     have := hown'
     unfold Owns
     rw [List.length_append, List.flatMap_append]
     simp only [List.length_cons, List.length_nil, List.flatMap_cons, List.flatMap_nil, List.append_nil, es, Nat.zero_add, hml] at this ⊢
     exact this)
    rw [← List.map_singleton (f := fun x : Nd => x.2.1), ← List.map_append] at hol3
    have HOL := Lib.hid hol3
    have HRD := Lib.hid hRd
    have HFD := Lib.hid hFd
    have H0C := Lib.hid h0c
    have H1C := Lib.hid h1c
    clear hol3 hRd hFd h1c hoA hg7 hown' hgrow hv1 hrow b0 hc1 hf1 hob hrb h0b h1b hfb ho1 ho2
    generalize w1.setCell ⟨B2, 0, none⟩ (.slice (some ⟨g', 0, none⟩) (pre.length + 1) cap') = Wd at *
    have hrd := HRD.out
    gi_wp2_with (refine ⟨trivial, ?_⟩; gi_at_call 72; refine (CallsIn.inRound _ (callsIn_wide.2 (drop_some n0 p c mb x.1 room [] rest x.2.1 x.2.2 _ hrd))).mono ?_; rintro e W6 ⟨rfl, hr6, rf6, h36⟩)
    exact HRB.out W6 HFIT.out (HOL.out.rf rf6.toRF (by decide) (by decide)) (H0C.out.rf rf6.toRF (by decide)) (H1C.out.rf rf6.toRF (by decide)) hr6 (HFD.out.trans rf6) (h36.trans (ring_next (l := []) (r := rest) (x := x) HRD.out.ch))
 ·rintro e W5 ⟨hv, gone, left, st, pd, hsb, hpd, he, hus, ho, h0, h1, hr, hf⟩
  refine ⟨hv, st, pd, ho.lr, hsb, ?_⟩
  rcases hpd with rfl | rfl
  ·show Exit.inBlock _ _ _ _ _
   have hDn : w.heap.size + 2 ≤ W4.heap.size := by have := HZ.out; have := HZ3.out; omega
   have ho6 : OL B2 W4.heap.size { rec with state := .exhausted, pending := none } (gone.map (·.2.1)) (W5.putObj (W4.heap.size + 1) (.loop { rec with state := .exhausted, pending := none })) := ho.put
   have hg := gput W5 (W4.heap.size + 1) (.loop { rec with state := .exhausted, pending := none })
   have h0b := Blk.keptR h0 hg (by intro e; injection e with e; omega)
   have h1b := Blk.keptR h1 hg (by intro e; injection e with e; omega)
   have hr6 := hr.keptO hg (fun k hk => by cases hk; exact ⟨_, ho.lr, rfl⟩)
   have hf6 := hf.grownN hg (by have := ho.sz; omega) (fun k hk => by cases hk; exact ⟨.inl (by omega), .inl (by omega)⟩)
   clear ho h0 h1 hr hf hg hl1 hd1 hol1 hB2 hB0'' hB1'' hR4 rf4 hz4 hz3 hn3
   generalize W5.putObj (W4.heap.size + 1) (.loop { rec with state := .exhausted, pending := none }) = W6 at *
   generalize ({ rec with state := .exhausted, pending := none } : Loop) = recX at *
   have hnk : ∀ x ∈ left, x.2.1 ≠ k := fun x hx => HNK.out x (by rw [he.1]; exact List.mem_append_right _ hx)
   have hll : left.length < maxLen := by have := hr6.len; simp only [maxLen]; omega
   have b0 := h0b.drew.cell 0
   have b1 := h1b.drew.cell 0
   have r2 := hr6.blk.drew.cell 2
   have HE := Lib.hid he
   clear he
   gi_wp2
   refine wpIn_wide.2 ?_
   refine wp_region_last [(true, 0), (true, 1), (true, 2), (true, 3), (true, 4), (true, 5), (false, 6)] 6 (fun w' => w' = W6.drew) (by kernel_rfl) (by kernel_rfl) (by kernel_rfl) (fun _ _ _ _ _ h => h) (by kernel_rfl) (by kernel_rfl) ?_ ?_
   ·rfl
   iterate 6 (first | (apply seqL_skip; (focus (simp only [List.getElem?_toArray, List.getElem?_cons_succ, List.getElem?_cons_zero]; rfl)); (focus rfl); simp only [Act.put, List.setIfInBounds_toArray, List.set_cons_zero, List.set_cons_succ]) | (apply seqL_take; (focus (simp only [List.getElem?_toArray, List.getElem?_cons_succ, List.getElem?_cons_zero]; rfl)); (focus rfl); (focus (intro w' hS; subst hS; first | (go_simp; rfl) | (go_simp; done))); simp only [Act.put, List.setIfInBounds_toArray, List.set_cons_zero, List.set_cons_succ]))
   apply seqL_eff
   (focus (simp only [List.getElem?_toArray, List.getElem?_cons_succ, List.getElem?_cons_zero]; rfl))
   (focus rfl)
   intro K hK
   go_simp
   refine (push_any n0 c mb left k s _ hr6.drew.ch hks hnk hll).mono ?_
   rintro e W7 ⟨rfl, hc7, rf7⟩
   refine hK _ _ ⟨fun h => absurd rfl h, ?_⟩
   clear hK K
   refine seqL_nil ?_
   have h0c := h0b.drew.rf rf7.toRF (by decide)
   have h1c := h1b.drew.rf rf7.toRF (by decide)
   have hpc := hr6.blk.drew.rf rf7.toRF (by decide)
   have ho7 := ho6.drew.rf rf7.toRF (by decide) (by decide)
   have hf7 := hf6.drew.trans rf7.toY
   have hul := usedOf_len hr6.sz
   have hrm := hr6.rm.2
   have hws : IntKind.i64.wrap (usedOf left + s) = usedOf left + s := by rw [IntKind.wrap_i64]; omega
   have d0 := h0c.drew.cell 0
   have d1 := h1c.drew.cell 0
   have p1 := hpc.drew.cell 1
   have q1 := hpc.drew.frozen 1
   obtain ⟨bb, hbb⟩ : ∃ bb, bb = W6.drew.heap.size := ⟨_, rfl⟩
   rw [← hbb] at hc7
   clear b0 b1 r2 h0b h1b hbb
   gi_wp2
   refine wpIn_wide.2 ?_
   refine wp_region_last [(true, 0), (true, 1), (true, 2), (true, 3), (true, 4), (true, 5), (true, 6), (true, 7), (false, 8)] 8 (fun w' => w' = W7.drew) (by kernel_rfl) (by kernel_rfl) (by kernel_rfl) (fun _ _ _ _ _ h => h) (by kernel_rfl) (by kernel_rfl) ?_ ?_
   ·rfl
   iterate 8 (first | (apply seqL_skip; (focus (simp only [List.getElem?_toArray, List.getElem?_cons_succ, List.getElem?_cons_zero]; rfl)); (focus rfl); simp only [Act.put, List.setIfInBounds_toArray, List.set_cons_zero, List.set_cons_succ]) | (apply seqL_take; (focus (simp only [List.getElem?_toArray, List.getElem?_cons_succ, List.getElem?_cons_zero]; rfl)); (focus rfl); (focus (intro w' hS; subst hS; first | (go_simp; rfl) | (go_simp; done))); simp only [Act.put, List.setIfInBounds_toArray, List.set_cons_zero, List.set_cons_succ]))
   apply seqL_eff
   (focus (simp only [List.getElem?_toArray, List.getElem?_cons_succ, List.getElem?_cons_zero]; rfl))
   (focus rfl)
   intro K hK
   go_simp
   refine hK _ _ ⟨fun h => absurd rfl h, ?_⟩
   clear hK K
   refine seqL_nil ?_
   have hg8 : W7.grownBy (W7.setCell ⟨p, 1, none⟩ (.int .i64 (usedOf left + s))).drew (some p) := ⟨rfl, rfl, rfl, by simp [World.setCell], fun k _ hne => Below.heap_setCell _ _ _ _ (fun e => hne (by rw [e]))⟩
   have hp8 : Blk (W7.setCell ⟨p, 1, none⟩ (.int .i64 (usedOf left + s))).drew p 135 #[.int .i64 room, .int .i64 (usedOf left + s), ptr c] := hpc.set_ 1 (.int .i64 (usedOf left + s))
   have hc8 := hc7.keptT hg8 (fun j hj => by cases hj; exact ⟨_, _, _, hpc, by decide, by decide⟩)
   have hf8 := hf7.grown hg8 (by have := hf7.size; omega) (fun j hj => by cases hj; exact ⟨hr6.p0, _, hpc, rfl⟩)
   have hr78 : RG RY mb n0 W7 (W7.setCell ⟨p, 1, none⟩ (.int .i64 (usedOf left + s))).drew := (RG.refl RY mb n0 W7).grown hg8 (by have := hf7.size; omega) (fun j hj => by cases hj; exact ⟨hr6.p0, _, hpc, rfl⟩)
   have ho8 := ho7.rf hr78.toRF (by decide) (by decide)
   have hRW : RowS (W7.setCell ⟨p, 1, none⟩ (.int .i64 (usedOf left + s))).drew n0 p room c mb (left ++ [(bb, k, s)]) := by
    have hue : usedOf (left ++ [(bb, k, s)]) = usedOf left + s := by rw [usedOf_app, usedOf_cons]; simp [usedOf]
    refine ⟨by rw [hue]; exact hp8, hr6.p0, hc8, hr6.rm, fun x hx => ?_, by rw [hue]; exact hus, fun x hx => ?_⟩
    ·rcases List.mem_append.1 hx with hx | hx
     ·exact hr6.sz x hx
     ·simp only [List.mem_cons, List.not_mem_nil, or_false] at hx
      subst hx
      exact hs0
    ·rcases List.mem_append.1 hx with hx | hx
     ·exact hr6.ks x hx
     ·simp only [List.mem_cons, List.not_mem_nil, or_false] at hx
      subst hx
      exact hks
   have HRW := Lib.hid hRW
   clear hRW hr78 hc8 hp8 hg8 hf7 ho7 h0c h1c hpc d0 d1 p1 q1 hws hc7 rf7
   generalize (W7.setCell ⟨p, 1, none⟩ (.int .i64 (usedOf left + s))).drew = W8 at *
   obtain ⟨o, g1, g2⟩ := ho8.out
   have o1 := g1.cell 0
   have hKd := ho8.ld
   gi_wp2
   refine noPanic_ret.2 ?_
   refine ⟨by simp, .inl ⟨_, _, rfl, run_takeDeferred hKd, ?_⟩⟩
   have hg4 := gput W8 W4.heap.size (.deferred none)
   refine ⟨_, results_tmp2 rfl _ _ _, o, bb, gone, left, rfl, ⟨HNE.out.trans HE.out.1, by rw [HNE.out]; exact HE.out.2⟩, ?_, HRW.out.keptO hg4 (fun j hj => by cases hj; exact ⟨_, hKd, rfl⟩), hf8.grownN hg4 (by have := ho8.sz; omega) (fun j hj => by cases hj; exact ⟨.inl (by omega), .inl (by omega)⟩)⟩
   refine (g2.mono (by have := HZ3.out; omega)).grownOther hg4 ?_
   cases hv : o.ownBlock with
   | none => exact .inl rfl
   | some j => exact .inr fun e => by injection e with e; have := (g2.lt j hv).1; omega
  ·show Code.wpIn _ _ _ _ _ _ _
   have hDn : w.heap.size + 2 ≤ W4.heap.size := by have := HZ.out; have := HZ3.out; omega
   have ho6 : OL B2 W4.heap.size { rec with state := .exhausted, pending := some (.exit 1) } (gone.map (·.2.1)) (W5.putObj (W4.heap.size + 1) (.loop { rec with state := .exhausted, pending := some (.exit 1) })) := ho.put
   have hg := gput W5 (W4.heap.size + 1) (.loop { rec with state := .exhausted, pending := some (.exit 1) })
   have h0b := Blk.keptR h0 hg (by intro e; injection e with e; omega)
   have h1b := Blk.keptR h1 hg (by intro e; injection e with e; omega)
   have hr6 := hr.keptO hg (fun k hk => by cases hk; exact ⟨_, ho.lr, rfl⟩)
   have hf6 := hf.grownN hg (by have := ho.sz; omega) (fun k hk => by cases hk; exact ⟨.inl (by omega), .inl (by omega)⟩)
   clear ho h0 h1 hr hf hg hl1 hd1 hol1 hB2 hB0'' hB1'' hR4 rf4 hz4 hz3 hn3
   generalize W5.putObj (W4.heap.size + 1) (.loop { rec with state := .exhausted, pending := some (.exit 1) }) = W6 at *
   generalize ({ rec with state := .exhausted, pending := some (.exit 1) } : Loop) = recX at *
   have hnk : ∀ x ∈ left, x.2.1 ≠ k := fun x hx => HNK.out x (by rw [he.1]; exact List.mem_append_right _ hx)
   have hll : left.length < maxLen := by have := hr6.len; simp only [maxLen]; omega
   have b0 := h0b.drew.cell 0
   have b1 := h1b.drew.cell 0
   have r2 := hr6.blk.drew.cell 2
   have HE := Lib.hid he
   clear he
   gi_wp2
   refine wpIn_wide.2 ?_
   refine wp_region_last [(true, 0), (true, 1), (true, 2), (true, 3), (true, 4), (true, 5), (false, 6)] 6 (fun w' => w' = W6.drew) (by kernel_rfl) (by kernel_rfl) (by kernel_rfl) (fun _ _ _ _ _ h => h) (by kernel_rfl) (by kernel_rfl) ?_ ?_
   ·rfl
   iterate 6 (first | (apply seqL_skip; (focus (simp only [List.getElem?_toArray, List.getElem?_cons_succ, List.getElem?_cons_zero]; rfl)); (focus rfl); simp only [Act.put, List.setIfInBounds_toArray, List.set_cons_zero, List.set_cons_succ]) | (apply seqL_take; (focus (simp only [List.getElem?_toArray, List.getElem?_cons_succ, List.getElem?_cons_zero]; rfl)); (focus rfl); (focus (intro w' hS; subst hS; first | (go_simp; rfl) | (go_simp; done))); simp only [Act.put, List.setIfInBounds_toArray, List.set_cons_zero, List.set_cons_succ]))
   apply seqL_eff
   (focus (simp only [List.getElem?_toArray, List.getElem?_cons_succ, List.getElem?_cons_zero]; rfl))
   (focus rfl)
   intro K hK
   go_simp
   refine (push_any n0 c mb left k s _ hr6.drew.ch hks hnk hll).mono ?_
   rintro e W7 ⟨rfl, hc7, rf7⟩
   refine hK _ _ ⟨fun h => absurd rfl h, ?_⟩
   clear hK K
   refine seqL_nil ?_
   have h0c := h0b.drew.rf rf7.toRF (by decide)
   have h1c := h1b.drew.rf rf7.toRF (by decide)
   have hpc := hr6.blk.drew.rf rf7.toRF (by decide)
   have ho7 := ho6.drew.rf rf7.toRF (by decide) (by decide)
   have hf7 := hf6.drew.trans rf7.toY
   have hul := usedOf_len hr6.sz
   have hrm := hr6.rm.2
   have hws : IntKind.i64.wrap (usedOf left + s) = usedOf left + s := by rw [IntKind.wrap_i64]; omega
   have d0 := h0c.drew.cell 0
   have d1 := h1c.drew.cell 0
   have p1 := hpc.drew.cell 1
   have q1 := hpc.drew.frozen 1
   obtain ⟨bb, hbb⟩ : ∃ bb, bb = W6.drew.heap.size := ⟨_, rfl⟩
   rw [← hbb] at hc7
   clear b0 b1 r2 h0b h1b hbb
   gi_wp2
   refine wpIn_wide.2 ?_
   refine wp_region_last [(true, 0), (true, 1), (true, 2), (true, 3), (true, 4), (true, 5), (true, 6), (true, 7), (false, 8)] 8 (fun w' => w' = W7.drew) (by kernel_rfl) (by kernel_rfl) (by kernel_rfl) (fun _ _ _ _ _ h => h) (by kernel_rfl) (by kernel_rfl) ?_ ?_
   ·rfl
   iterate 8 (first | (apply seqL_skip; (focus (simp only [List.getElem?_toArray, List.getElem?_cons_succ, List.getElem?_cons_zero]; rfl)); (focus rfl); simp only [Act.put, List.setIfInBounds_toArray, List.set_cons_zero, List.set_cons_succ]) | (apply seqL_take; (focus (simp only [List.getElem?_toArray, List.getElem?_cons_succ, List.getElem?_cons_zero]; rfl)); (focus rfl); (focus (intro w' hS; subst hS; first | (go_simp; rfl) | (go_simp; done))); simp only [Act.put, List.setIfInBounds_toArray, List.set_cons_zero, List.set_cons_succ]))
   apply seqL_eff
   (focus (simp only [List.getElem?_toArray, List.getElem?_cons_succ, List.getElem?_cons_zero]; rfl))
   (focus rfl)
   intro K hK
   go_simp
   refine hK _ _ ⟨fun h => absurd rfl h, ?_⟩
   clear hK K
   refine seqL_nil ?_
   have hg8 : W7.grownBy (W7.setCell ⟨p, 1, none⟩ (.int .i64 (usedOf left + s))).drew (some p) := ⟨rfl, rfl, rfl, by simp [World.setCell], fun k _ hne => Below.heap_setCell _ _ _ _ (fun e => hne (by rw [e]))⟩
   have hp8 : Blk (W7.setCell ⟨p, 1, none⟩ (.int .i64 (usedOf left + s))).drew p 135 #[.int .i64 room, .int .i64 (usedOf left + s), ptr c] := hpc.set_ 1 (.int .i64 (usedOf left + s))
   have hc8 := hc7.keptT hg8 (fun j hj => by cases hj; exact ⟨_, _, _, hpc, by decide, by decide⟩)
   have hf8 := hf7.grown hg8 (by have := hf7.size; omega) (fun j hj => by cases hj; exact ⟨hr6.p0, _, hpc, rfl⟩)
   have hr78 : RG RY mb n0 W7 (W7.setCell ⟨p, 1, none⟩ (.int .i64 (usedOf left + s))).drew := (RG.refl RY mb n0 W7).grown hg8 (by have := hf7.size; omega) (fun j hj => by cases hj; exact ⟨hr6.p0, _, hpc, rfl⟩)
   have ho8 := ho7.rf hr78.toRF (by decide) (by decide)
   have hRW : RowS (W7.setCell ⟨p, 1, none⟩ (.int .i64 (usedOf left + s))).drew n0 p room c mb (left ++ [(bb, k, s)]) := by
    have hue : usedOf (left ++ [(bb, k, s)]) = usedOf left + s := by rw [usedOf_app, usedOf_cons]; simp [usedOf]
    refine ⟨by rw [hue]; exact hp8, hr6.p0, hc8, hr6.rm, fun x hx => ?_, by rw [hue]; exact hus, fun x hx => ?_⟩
    ·rcases List.mem_append.1 hx with hx | hx
     ·exact hr6.sz x hx
     ·simp only [List.mem_cons, List.not_mem_nil, or_false] at hx
      subst hx
      exact hs0
    ·rcases List.mem_append.1 hx with hx | hx
     ·exact hr6.ks x hx
     ·simp only [List.mem_cons, List.not_mem_nil, or_false] at hx
      subst hx
      exact hks
   have HRW := Lib.hid hRW
   clear hRW hr78 hc8 hp8 hg8 hf7 ho7 h0c h1c hpc d0 d1 p1 q1 hws hc7 rf7
   generalize (W7.setCell ⟨p, 1, none⟩ (.int .i64 (usedOf left + s))).drew = W8 at *
   obtain ⟨o, g1, g2⟩ := ho8.out
   have o1 := g1.cell 0
   have hKd := ho8.ld
   gi_wp2
   refine noPanic_ret.2 ?_
   refine ⟨by simp, .inl ⟨_, _, rfl, run_takeDeferred hKd, ?_⟩⟩
   have hg4 := gput W8 W4.heap.size (.deferred none)
   refine ⟨_, results_tmp2 rfl _ _ _, o, bb, gone, left, rfl, ⟨HNE.out.trans HE.out.1, by rw [HNE.out]; exact HE.out.2⟩, ?_, HRW.out.keptO hg4 (fun j hj => by cases hj; exact ⟨_, hKd, rfl⟩), hf8.grownN hg4 (by have := ho8.sz; omega) (fun j hj => by cases hj; exact ⟨.inl (by omega), .inl (by omega)⟩)⟩
   refine (g2.mono (by have := HZ3.out; omega)).grownOther hg4 ?_
   cases hv : o.ownBlock with
   | none => exact .inl rfl
   | some j => exact .inr fun e => by injection e with e; have := (g2.lt j hv).1; omega
end Go.Proofs.YtgnblkmpoigejaaGreatDoor
namespace Go.Proofs.YtgnblkmpoigejaaGreatDoor
open Go.RowKit
def Wide (n : Int) : Prop := -9223372036854775808 ≤ n ∧ n ≤ 9223372036854775807
theorem wide_of {n : Int} (h : (Lit.int .i64 n).wf = true) : Wide n := by
 simp only [Lit.wf, Bool.and_eq_true, decide_eq_true_eq] at h
 exact ⟨h.1, h.2⟩
theorem tmod_way (n m : Int) (hm : 0 < m) : (0 ≤ n.tmod m → n.tmod m = n % m) ∧ (n.tmod m < 0 → n.tmod m + m = n % m) := by
 have h := Int.tmod_eq_emod (a := n) (b := m)
 have h0 := Int.emod_nonneg n (b := m) (by omega)
 have h1 := Int.emod_lt_of_pos n hm
 split at h
 ·omega
 ·rw [show (m.natAbs : Int) = m from by omega] at h; omega
set_option maxHeartbeats 400000 in
theorem rest_any (n m : Int) (w : World) (h0 : Wide n) (hm : 0 < m ∧ m ≤ 4611686018427387904) :
  Calls Tryz.prog 21 #[.int .i64 n, .int .i64 m] w fun e w' => e = .returned (.int .i64 (n % m)) ∧ w = w' := by
 have h := h0
 unfold Wide at h
 have ht := tmod_way n m hm.1
 have h2 := Int.emod_nonneg n (b := m) (by omega)
 have h1 := Int.emod_lt_of_pos n hm.1
 have hz : (m == 0) = false := by rw [beq_eq_false_iff_ne]; omega
 generalize hr : n % m = r at *
 have HT := Lib.hid ht
 clear ht hr
 go_enter Tryz.func21, Tryz.ntmps21
 go_wp2
 all_goals
  go_ret
  refine ⟨ret_int ?_, rfl⟩
 ·rw [← HT.out.2 (by assumption)]
  have := HT.out.2 (by assumption)
  unfold wrap64; omega
 ·exact HT.out.1 (by assumption)
open Go.ChangeShapes Go.WideShapes Go.Deep Go.RowKit Go.Joins
section
variable {H : Type} {enc : TypeId × Value → H} {P : Program} {w : World} {base : Nat} {spare : Nat → Bool} {held : Bool}
theorem open_slice_fields {t e : TypeId} {fs : Array Field} {fuel : Nat} {cs : List Value} {x : DataW H × List MemPlace} (ht : P.underlying t = some (.slice e)) (he : P.underlying e = some (.struct fs))
  (hone : oneCellFields P fs = true) (hC : P.cellsOf e = fs.size) (h : DataW.trod enc P w base spare held fuel t cs = some x) :
  (cs = [.slice none 0 0] ∧ x = (.nil, [])) ∨
  ∃ (a : Addr) (len cap m : Nat) (D : Nat → DataW H) (Pl : Nat → List MemPlace), cs = [.slice (some a) len cap] ∧ base ≤ a.block ∧ len ≤ cap ∧ cap ≤ maxLen ∧ m = (if spare a.block then cap else len) ∧
   x = (.slice ((List.range len).map D) ((List.range (m - len)).map fun j => D (len + j)), MemPlace.row a (m * fs.size) ++ (List.range m).flatMap Pl) ∧
   ∀ i, i < m → ∃ (ys : List (DataW H × List MemPlace)) (n : Nat), D i = .agg (ys.map (·.1)) ∧ Pl i = ys.flatMap (·.2) ∧ ys.length = fs.size ∧
    ∀ (j : Nat) (f : Field), fs[j]? = some f → ∃ (v : Value) (y : DataW H × List MemPlace), w.cell? (a.add (i * fs.size + j)) = some v ∧ ys[j]? = some y ∧ DataW.trod enc P w base spare held n f.type [v] = some y := by
 rcases open_slice ht h with h0 | ⟨a, len, cap, m, n, D, Pl, hcs, hb, hl, hm, hmm, hx, hi⟩
 ·exact .inl h0
 ·refine .inr ⟨a, len, cap, m, D, Pl, hcs, hb, hl, hm, hmm, by rw [hC] at hx; exact hx, fun i him => ?_⟩
  obtain ⟨cs', hc, ht'⟩ := hi i him
  rw [hC] at hc
  obtain ⟨ys, n', hn', hy, hlen, hyl, hf⟩ := DataW.trod_struct he ht'
  obtain ⟨_, hcl, hat⟩ := World.cells?_some hc
  simp only [Prod.mk.injEq] at hy
  refine ⟨ys, n', hy.1, hy.2, hyl, fun j f hj => ?_⟩
  obtain ⟨ho, hk⟩ := hone_of hone j f hj
  have hjl : j < fs.size := (Array.getElem?_eq_some_iff.1 hj).1
  have hcell := hat j hjl
  have hv : cs'[j]? = some (cs'[j]'(by omega)) := List.getElem?_eq_getElem (by omega)
  have h1 := hf j f hj
  rw [ho, hk] at h1
  have hone' : (cs'.drop j).take 1 = [cs'[j]'(by omega)] := by
   rw [List.drop_eq_getElem_cons (by omega)]
   rfl
  rw [hone'] at h1
  have hys : ys[j]? = some (ys[j]'(by omega)) := List.getElem?_eq_getElem (by omega)
  refine ⟨_, _, ?_, hys, h1.trans hys⟩
  rw [← Go.Deep.add_add, hcell, hv]
theorem slr_of {α : Type} {en : α → List Value} {size : Nat} (R : Nat → α → Prop) (hen : ∀ x, (en x).length = size) {a : Addr} {len cap : Nat} (hlen : len ≤ cap) (hsz : 0 < size)
  (h : ∀ i, i < len → ∃ x : α, (∀ j u, (en x)[j]? = some u → w.cell? (a.add (i * size + j)) = some u) ∧ R i x) : ∃ xs : List α, xs.length = len ∧ SlR w en (.slice (some a) len cap) xs ∧ (∀ i (hi : i < xs.length), R i xs[i]) := by
 have : ∃ xs : List α, xs.length = len ∧ (∀ i (hi : i < xs.length), (∀ j u, (en xs[i])[j]? = some u → w.cell? (a.add (i * size + j)) = some u) ∧ R i xs[i]) := by
  clear hlen
  induction len with
  | zero => exact ⟨[], rfl, fun i hi => by simp at hi⟩
  | succ n ih =>
   obtain ⟨xs, hl, hx⟩ := ih (fun i hi => h i (by omega))
   obtain ⟨x, hx'⟩ := h n (by omega)
   refine ⟨xs ++ [x], by simp [hl], fun i hi => ?_⟩
   by_cases hi' : i < xs.length
   ·rw [List.getElem_append_left hi']; exact hx i hi'
   ·have : i = n := by simp at hi; omega
    subst this
    rw [List.getElem_append_right (by omega)]
    simpa [hl] using hx'
 obtain ⟨xs, hl, hx⟩ := this
 refine ⟨xs, hl, ?_, fun i hi => (hx i hi).2⟩
 subst hl
 refine ⟨_, cap, rfl, hlen, fun hn => ?_⟩
 have flat : ∀ (ys : List α) j, (ys.flatMap en)[j]? = (ys[j / size]?).bind fun y => (en y)[j % size]? := by
  intro ys
  induction ys with
  | nil => intro j; simp
  | cons y ys ih =>
   intro j
   rw [List.flatMap_cons, List.getElem?_append, hen y]
   by_cases hj : j < size
   ·rw [if_pos hj, Nat.div_eq_of_lt hj, Nat.mod_eq_of_lt hj]; rfl
   ·rw [if_neg hj, ih, show j = (j - size) + size from by omega, Nat.add_div_right _ hsz, Nat.add_mod_right]
    simp
 have hall : ∀ j u, (xs.flatMap en)[j]? = some u → w.cell? (a.add j) = some u := by
  intro j u hu
  rw [flat] at hu
  obtain ⟨y, hy, hu'⟩ := Option.bind_eq_some_iff.1 hu
  obtain ⟨hlt, rfl⟩ := List.getElem?_eq_some_iff.1 hy
  have := (hx (j / size) hlt).1 (j % size) u hu'
  rwa [Nat.div_add_mod' j size] at this
 obtain ⟨u0, hu0⟩ : ∃ u, (xs.flatMap en)[0]? = some u := by
  have : 0 < (xs.flatMap en).length := by
   cases xs with
   | nil => simp at hn
   | cons x xs => rw [List.flatMap_cons, List.length_append, hen x]; omega
  exact ⟨_, List.getElem?_eq_getElem this⟩
 have hc0 := hall 0 u0 hu0
 obtain ⟨b, off, spot⟩ := a
 have e0 : (⟨b, off, spot⟩ : Addr).add 0 = ⟨b, off, spot⟩ := by simp [Addr.add]
 rw [e0] at hc0
 have hspot : spot = none := by simpa using World.cell?_spot hc0
 subst hspot
 refine ⟨b, off, rfl, World.block_lt_of_cell? _ _ hc0, fun j u hu => ?_⟩
 have := hall j u hu
 have e : ((⟨b, off, none⟩ : Addr).add j) = ⟨b, off + j, none⟩ := by unfold Addr.add; split <;> simp_all
 rwa [e] at this
end
set_option maxRecDepth 20000
structure Stp where
 k : Int
 a : Int
 b : Int
 s : ByteArray
 t : ByteArray
 g : Nat → Option Addr × Nat × Nat
 u : Nat → ByteArray
 i : Nat → Int
def e_st (x : Stp) : List Value := [.int .i64 x.k, .int .i64 x.a, .int .i64 x.b, .string x.s, .string x.t, .slice (x.g 0).1 (x.g 0).2.1 (x.g 0).2.2, .string (x.u 0), .string (x.u 1), .slice (x.g 1).1 (x.g 1).2.1 (x.g 1).2.2, .string (x.u 2), .string (x.u 3), .string (x.u 4), .slice (x.g 2).1 (x.g 2).2.1 (x.g 2).2.2, .string (x.u 5), .int .i64 (x.i 0), .string (x.u 6), .slice (x.g 3).1 (x.g 3).2.1 (x.g 3).2.2, .string (x.u 7), .int .i64 (x.i 1), .int .i64 (x.i 2), .int .i64 (x.i 3), .slice (x.g 4).1 (x.g 4).2.1 (x.g 4).2.2]
theorem list22 {α : Type} {cs : List α} (h : cs.length = 22) : ∃ c0 c1 c2 c3 c4 : α, ∃ o : Nat → α, cs = [c0, c1, c2, c3, c4, o 0, o 1, o 2, o 3, o 4, o 5, o 6, o 7, o 8, o 9, o 10, o 11, o 12, o 13, o 14, o 15, o 16] := by
 refine ⟨cs[0], cs[1], cs[2], cs[3], cs[4], fun j => (cs[j + 5]?).getD cs[0], ?_⟩
 refine List.ext_getElem (h.trans rfl) fun j hj hj' => ?_
 rw [h] at hj
 have hx : ∀ i, i < 22 → cs[i]? = cs[i]? := fun _ _ => rfl
 match j, hj with
 | 0, _ => rfl
 | 1, _ => rfl
 | 2, _ => rfl
 | 3, _ => rfl
 | 4, _ => rfl
 | 5, _ => simp [h]
 | 6, _ => simp [h]
 | 7, _ => simp [h]
 | 8, _ => simp [h]
 | 9, _ => simp [h]
 | 10, _ => simp [h]
 | 11, _ => simp [h]
 | 12, _ => simp [h]
 | 13, _ => simp [h]
 | 14, _ => simp [h]
 | 15, _ => simp [h]
 | 16, _ => simp [h]
 | 17, _ => simp [h]
 | 18, _ => simp [h]
 | 19, _ => simp [h]
 | 20, _ => simp [h]
 | 21, _ => simp [h]
 | j + 22, hj => omega
section
variable {H : Type} {P : Program} {enc : TypeId × Value → H} {w : World} {base : Nat} {spare : Nat → Bool} {held : Bool}
theorem one_slice {t e : TypeId} {n : Nat} {cs : List Value} {x : DataW H × List MemPlace} (ht : P.underlying t = some (.slice e)) (h : DataW.trod enc P w base spare held n t cs = some x) : ∀ c ∈ cs, ∃ y : Option Addr × Nat × Nat, c = .slice y.1 y.2.1 y.2.2 := by
 cases n with
 | zero => simp [DataW.trod] at h
 | succ n =>
  unfold DataW.trod at h
  rw [ht] at h
  split at h
  all_goals first
   | (intro c hc; rw [List.mem_singleton.1 hc]; exact ⟨(_, _, _), rfl⟩)
   | simp_all
theorem one_int {t : TypeId} {k : IntKind} {n : Nat} {cs : List Value} {x : DataW H × List MemPlace} (ht : P.underlying t = some (.int k)) (h : DataW.trod enc P w base spare held n t cs = some x) : ∀ c ∈ cs, ∃ s, c = .int k s := by
 obtain ⟨s, rfl, _⟩ := DataW.trod_int ht h
 exact fun c hc => ⟨s, List.mem_singleton.1 hc⟩
end
section
variable {H : Type} {enc : TypeId × Value → H} {w : World} {base : Nat} {spare : Nat → Bool} {held : Bool}
end
end Go.Proofs.YtgnblkmpoigejaaGreatDoor
namespace Go.Proofs.YtgnblkmpoigejaaGreatDoor
open Go.RowKit
set_option maxRecDepth 20000
open Go.RowKit Go.Shelf
theorem flat_get {α : Type} {en : α → List Value} {size : Nat} (hen : ∀ x, (en x).length = size) : ∀ (xs : List α) (k j : Nat) (hk : k < xs.length), j < size → (xs.flatMap en)[k * size + j]? = (en xs[k])[j]?
 | [], k, j, hk, _ => by simp at hk
 | x :: xs, 0, j, _, hj => by
  rw [List.flatMap_cons, Nat.zero_mul, Nat.zero_add, List.getElem?_append_left (by rw [hen]; exact hj)]; rfl
 | x :: xs, k + 1, j, hk, hj => by
  rw [List.flatMap_cons, List.getElem?_append_right (by rw [hen, Nat.succ_mul]; omega), hen, Nat.succ_mul]
  have := flat_get hen xs k j (by simpa using hk) hj
  rw [show k * size + size + j - size = k * size + j by omega, this]
  rfl
theorem SlR.rowN {α : Type} {w : World} {en : α → List Value} {size : Nat} {v : Value} {xs : List α} (hen : ∀ x, (en x).length = size) (h : SlR w en v xs) (hn : 0 < xs.length) :
  ∃ b off c, v = .slice (some ⟨b, off, none⟩) xs.length c ∧ xs.length ≤ c ∧ b < w.heap.size ∧ ∀ k (hk : k < xs.length) j u, (en xs[k])[j]? = some u → w.cell? ⟨b, off + (k * size + j), none⟩ = some u := by
 obtain ⟨A, c, hv, hc, hx⟩ := h
 obtain ⟨b, off, rfl, hb, hcell⟩ := hx hn
 refine ⟨b, off, c, hv, hc, hb, fun k hk j u hu => hcell _ _ ?_⟩
 rw [flat_get hen xs k j hk]
 ·exact hu
 ·have := (List.getElem?_eq_some_iff.1 hu).1
  rwa [hen] at this
def stZ : Array Value := #[.int .i64 0, .int .i64 0, .int .i64 0, .string { data := #[] }, .string { data := #[] }, .slice none 0 0, .string { data := #[] }, .string { data := #[] }, .slice none 0 0, .string { data := #[] }, .string { data := #[] }, .string { data := #[] }, .slice none 0 0, .string { data := #[] }, .int .i64 0, .string { data := #[] }, .slice none 0 0, .string { data := #[] }, .int .i64 0, .int .i64 0, .int .i64 0, .slice none 0 0]
theorem of_any (x : Stp) (n : Int) (w : World) (hx : Wide x.k) (hn : 0 < n ∧ n ≤ 4611686018427387904) :
  Calls Tryz.prog 26 #[.agg (e_st x).toArray, .int .i64 n] w fun e w' => e = .returned (.int .i64 (x.k % n)) ∧ Below w.heap.size w w' := by
 obtain ⟨xk, xa, xb, xs, xt, og, ou, oi⟩ := x
 have hxk : Wide xk := hx
 dsimp only [e_st]
 go_enter Tryz.func26, Tryz.ntmps26
 go_wp2_with fail
 refine (rest_any xk n _ hxk hn).mono ?_
 rintro e w1 ⟨rfl, rfl⟩
 go_wp2_with fail
 go_ret
 exact ⟨rfl, (Below.refl _ _).alloc (Nat.le_refl _) _⟩
theorem beqL_true {x y : ByteArray} (h : x = y) : (x.toList == y.toList) = true := by rw [h]; simp
theorem beqL_false {x y : ByteArray} (h : x ≠ y) : (x.toList == y.toList) = false := by
 rw [beq_eq_false_iff_ne]; intro e; apply h; apply sl_inj; rw [← ba_toList, ← ba_toList, e]
set_option maxRecDepth 20000
abbrev Kv := ByteArray × Int
def kv (ns : List Nd) : List Kv := ns.map (·.2)
def usedK (l : List Kv) : Int := (l.map (·.2)).sum
def leftK (room s : Int) : List Kv → List Kv
 | [] => []
 | x :: r => if usedK (x :: r) + s ≤ room then x :: r else leftK room s r
def withoutK (l : List Kv) (k : ByteArray) : List Kv := l.filter fun x => !decide (x.1 = k)
theorem kv_app (a b : List Nd) : kv (a ++ b) = kv a ++ kv b := by simp [kv]
theorem usedK_kv (ns : List Nd) : usedK (kv ns) = usedOf ns := by unfold usedK kv usedOf; rw [List.map_map]; rfl
theorem leftK_kv (room s : Int) : ∀ ns : List Nd, leftK room s (kv ns) = kv (leftR room s ns)
 | [] => rfl
 | x :: r => by
  have h1 : kv (x :: r) = x.2 :: kv r := rfl
  have h2 := usedK_kv (x :: r)
  rw [h1] at h2 ⊢
  by_cases h : usedOf (x :: r) + s ≤ room
  ·rw [leftR_stay h]
   unfold leftK
   rw [if_pos (by rw [h2]; exact h)]
   rfl
  ·rw [leftR_go h, ← leftK_kv room s r]
   show (if _ then _ else _) = _
   rw [if_neg (by rw [h2]; exact h)]
theorem withoutK_kv (ns : List Nd) (k : ByteArray) : withoutK (kv ns) k = kv (without ns k) := by
 unfold withoutK kv without
 rw [List.filter_map]
 rfl
set_option maxRecDepth 20000
def keysOf (ns : List Nd) : List ByteArray := ns.map (·.2.1)
end Go.Proofs.YtgnblkmpoigejaaGreatDoor
