import Derived.Test.YtgjfhgcjiglfkaaGreatDoorD11
import Derived.Test.YtgjfhgcjiglfkaaGreatDoorD2
import Derived.Test.YtgjfhgcjiglfkaaGreatDoorD0
import Derived.IntWalk
import Derived.Test.YtgjfhgcjiglfkaaGreatDoorD15
import Derived.Test.YtgjfhgcjiglfkaaGreatDoorD5
set_option linter.unusedVariables false
set_option linter.unusedSimpArgs false
namespace Go.Proofs.YtgjfhgcjiglfkaaGreatDoor
set_option maxRecDepth 20000
open Go.RowKit Go.Shelf
attribute [local go_sem] Oper.semAt_some
def ptrq (k : Nat) : Value := .pointer (some ⟨k, 0, none⟩)
def textAt (W : World) (b : Nat) : Nat := match W.cell? ⟨b, 0, none⟩ with | some (.string s) => s.size | _ => 0
structure SeqB (W : World) (bs bp bk : Nat) (c : UInt8) (S : ByteArray) : Prop where
  s : Blk W bs 9 #[.string S]
  p : Blk W bp 9 #[.string ⟨#[c]⟩]
  k : Blk W bk 3 #[.int .i64 0]
section
variable {W W' : World} {bs bp bk : Nat} {c : UInt8} {S S' : ByteArray}
theorem SeqB.below (h : SeqB W bs bp bk c S) {B : Nat} (hb : Below B W W') (hB : W.heap.size ≤ B) : SeqB W' bs bp bk c S :=
  ⟨h.s.below hb (Nat.lt_of_lt_of_le h.s.lt hB), h.p.below hb (Nat.lt_of_lt_of_le h.p.lt hB), h.k.below hb (Nat.lt_of_lt_of_le h.k.lt hB)⟩
theorem SeqB.set (h : SeqB W bs bp bk c S) (h1 : bs ≠ bp) (h2 : bs ≠ bk) : SeqB (W.setCell ⟨bs, 0, none⟩ (.string S')) bs bp bk c S' :=
  ⟨h.s.set_ 0 _, h.p.far (p := ⟨bs, 0, none⟩) (Ne.symm h1) _, h.k.far (p := ⟨bs, 0, none⟩) (Ne.symm h2) _⟩
theorem SeqB.len (h : SeqB W bs bp bk c S) : textAt W bs = S.size := by unfold textAt; rw [h.s.cell 0]; rfl
end
theorem seq_make (s : ByteArray) (c : UInt8) (w : World) :
    Calls Tryz.prog 289 #[.string s, .string ⟨#[c]⟩, .int .i64 0] w fun e w' => e = .returned (.func (.func 309) #[] #[ptrq (w.heap.size + 1), ptrq w.heap.size, ptrq (w.heap.size + 2)]) ∧ w' = ((w.alloc (.cells #[.string s] 9)).alloc (.cells #[.string ⟨#[c]⟩] 9)).alloc (.cells #[.int .i64 0] 3) := by
  go_enter Tryz.func289, Tryz.ntmps289
  have hmf : ∀ (fn : Fn) (first cap : Array Value) (w : World), (Instr.makeFunc fn first cap).run Tryz.prog w = .ok (.func fn first cap) w := fun _ _ _ _ => rfl
  go_wp2_with fail
  go_ret
  exact ⟨rfl, rfl⟩
theorem seq_any (s : ByteArray) (c : UInt8) (w : World) :
    Calls Tryz.prog 257 #[.string s, .string ⟨#[c]⟩] w fun e w' => e = .returned (.func (.func 309) #[] #[ptrq (w.heap.size + 1), ptrq w.heap.size, ptrq (w.heap.size + 2)]) ∧ SeqB w' w.heap.size (w.heap.size + 1) (w.heap.size + 2) c s ∧ Below w.heap.size w w' ∧ w'.heap.size = w.heap.size + 3 := by
  go_enter Tryz.func257, Tryz.ntmps257
  go_wp2_with fail
  refine (seq_make s c _).mono ?_
  rintro e w1 ⟨rfl, rfl⟩
  go_wp2_with fail
  go_ret
  have h0 := Blk.new w 9 #[.string s]
  have h1 := Blk.new (w.alloc (.cells #[.string s] 9)) 9 #[.string ⟨#[c]⟩]
  have h2 := Blk.new ((w.alloc (.cells #[.string s] 9)).alloc (.cells #[.string ⟨#[c]⟩] 9)) 3 #[.int .i64 0]
  simp only [World.size_alloc] at h1 h2
  exact ⟨rfl, ⟨(h0.alloc _).alloc _, h1.alloc _, h2⟩, ((Below.refl _ w).alloc (Nat.le_refl _) _ |>.alloc (by simp) _).alloc (by simp; omega) _, by simp⟩
set_option maxHeartbeats 2000000 in
theorem seq_out (n bs bp bk D : Nat) (c : UInt8) (I : List (List UInt8) → World → Prop) (J : World → Prop) (hn : 2 ≤ n) (hne1 : bs ≠ bp) (hne2 : bs ≠ bk)
    (hset : ∀ rest W v, I rest W → I rest (W.setCell ⟨bs, 0, none⟩ v)) (hdrew : ∀ rest W, I rest W → I rest W.drew)
    (hround : ∀ p rest S W, I (p :: rest) W → SeqB W bs bp bk c S → YieldAt Fence.wide (n - 1) Tryz.prog D #[.string (mkS p)] W fun e W' => (e = .returned (.bool true) ∧ I rest W' ∧ SeqB W' bs bp bk c S) ∨ (e = .returned (.bool false) ∧ J W'))
    (hend : ∀ W, I [] W → J W) (s : ByteArray) (w : World) (hs : s.size ≤ 140737488351232) (h : I (sg c [] (sl s)) w) (hb : SeqB w bs bp bk c s) :
    CallsIn Fence.wide n Tryz.prog 309 #[.func (.yield D) #[] #[], ptrq bp, ptrq bs, ptrq bk] w fun e w' => (∃ v, e = .returned v) ∧ J w' := by
  have HSt := Lib.hid hset
  have HD := Lib.hid hdrew
  have HR := Lib.hid hround
  have HE := Lib.hid hend
  clear hset hdrew hround hend
  have k0 := hb.p.cell 0
  unfold ptrq
  refine callsIn_of_wp Tryz.func309 rfl trivial ?_ rfl
  simp only [Tryz.ntmps309, List.size_toArray, List.length_cons, List.length_nil, Nat.reduceAdd, Nat.reduceSub, Array.replicate_succ, Array.replicate_zero, List.push_toArray, List.append_toArray, List.nil_append, List.cons_append]
  gi_wp2
  gi_loopw [] (fun wr => ∃ S : ByteArray, S.size ≤ 140737488351232 ∧ I (sg c [] (sl S)) wr ∧ SeqB wr bs bp bk c S) (fun wr => textAt wr bs)
  case atStart => exact ⟨s, hs, h, hb⟩
  case round =>
    obtain ⟨S, hS, hI, hB⟩ := hrel
    clear h hb k0
    have k0 := hB.p.cell 0
    have k1 := hB.s.cell 0
    have k2 := hB.k.cell 0
    have HX := Lib.hid (fun w' => Tryz.strings_Index_one S c w')
    have HI := Lib.hid hI
    have HB := Lib.hid hB
    clear hI
    rcases indexByte_case (sl S) c with ⟨k, hk, h1, h2, h3⟩ | ⟨h1, h2⟩
    · rw [show Lib.indexByte S.data.toList c = (k : Int) from h1] at HX
      rw [sl_len] at hk
      have HS : Hid (sl S = (sl S).take k ++ c :: (sl S).drop (k + 1) ∧ c ∉ (sl S).take k) := by
        refine ⟨?_, h3⟩
        conv => lhs; rw [← List.take_append_drop k (sl S), List.drop_eq_getElem_cons (by rw [sl_len]; exact hk), h2]
      have e1 : S.extract 0 k = mkS ((sl S).take k) := sl_inj (by rw [sl_extract, sl_mkS, Nat.sub_zero, List.drop_zero])
      have e2 : S.extract (k + 1) S.size = mkS ((sl S).drop (k + 1)) := sl_inj (by rw [sl_extract_end, sl_mkS])
      have hdl : ((sl S).drop (k + 1)).length = S.size - (k + 1) := by rw [List.length_drop, sl_len]
      have i1 : (k : Int) + 1 ≤ (S.size : Int) := by omega
      have i2 : (k : Int) ≤ (S.size : Int) := by omega
      have htn : ((k : Int) + 1).toNat = k + 1 := by omega
      have hnn : 0 ≤ (k : Int) + 1 := by omega
      have hn0 : decide ((k : Int) < 0) = false := by rw [decide_eq_false_iff_not]; omega
      have hwr : IntKind.i64.wrap ((k : Int) + 1) = (k : Int) + 1 := IntWalk.i64_in _ (by omega)
      have hwr0 : IntKind.i64.wrap (k : Int) = (k : Int) := IntWalk.i64_in _ (by omega)
      clear h1 h2 h3
      generalize (sl S).take k = a at *
      generalize (sl S).drop (k + 1) = b at *
      have hsg : Hid (sg c [] (sl S) = a :: sg c [] b) := by show _ = _; rw [HS.out.1]; exact sg_hit a b HS.out.2
      obtain ⟨fn, tmps, assign, body, hy, hR⟩ := HR.out a (sg c [] b) S wr (by rw [← hsg.out]; exact HI.out) HB.out
      have HZ := Lib.hid hdl
      clear hdl
      gi_wp2_with (refine ⟨trivial, fun _ => (by omega), ?_⟩; gi_at_call 116; refine (callsIn_wide.2 (HX.out _)).mono ?_; rintro e w' ⟨rfl, rfl⟩)
      refine ⟨fun _ => (by omega), ?_⟩
      refine hR.mono ?_
      rintro e W5 (⟨rfl, hI5, hB5⟩ | ⟨rfl, hJ⟩)
      rotate_left
      · have HJ := Lib.hid hJ
        clear hJ hy hR
        gi_wp2
        exact bodyPost_ret (v := .tuple #[]) (by simp [results, Tryz.results309, go_sem]) rfl ⟨⟨_, rfl⟩, HJ.out⟩
      have k0 := hB5.p.cell 0
      have k1 := hB5.s.cell 0
      have k2 := hB5.k.cell 0
      have f1 := hB5.s.frozen 0
      have hbl := hB5.s.lt
      have HI5 := Lib.hid hI5
      have HB5 := Lib.hid hB5
      clear hI5 hB5 hy hR
      gi_wp2
      have hB6 := HB5.out.set (S' := mkS b) hne1 hne2
      exact ⟨⟨mkS b, by rw [mkS_size]; have := HZ.out; omega, by rw [sl_mkS]; exact HSt.out _ _ _ HI5.out, hB6⟩, by rw [hB6.len, HB.out.len, mkS_size]; have := HZ.out; omega⟩
    · rw [show Lib.indexByte S.data.toList c = -1 from h1] at HX
      have hsg : Hid (sg c [] (sl S) = [sl S]) := sg_one h2
      clear h1 h2
      obtain ⟨fn, tmps, assign, body, hy, hR⟩ := HR.out (sl S) [] S wr (by rw [← hsg.out]; exact HI.out) HB.out
      rw [mkS_sl] at hy
      gi_wp2_with (refine ⟨trivial, fun _ => (by omega), ?_⟩; gi_at_call 116; refine (callsIn_wide.2 (HX.out _)).mono ?_; rintro e w' ⟨rfl, rfl⟩)
      refine ⟨fun _ => (by omega), ?_⟩
      refine hR.mono ?_
      rintro e W5 h5
      have HJ : Hid (J W5) := by
        rcases h5 with ⟨rfl, hI5, hB5⟩ | ⟨rfl, hJ⟩
        · exact HE.out _ hI5
        · exact hJ
      have h6 : ∃ b, e = .returned (.bool b) := by
        rcases h5 with ⟨rfl, _⟩ | ⟨rfl, _⟩ <;> exact ⟨_, rfl⟩
      obtain ⟨b, rfl⟩ := h6
      clear h5 hy hR
      gi_wp2
      go_end0
      exact ⟨⟨_, rfl⟩, HJ.out⟩
set_option maxRecDepth 20000
attribute [local go_sem] Oper.semAt_some
theorem gputW (w : World) (l : Nat) (o : Obj) : w.grownBy (w.putObj l o) (some l) :=
  ⟨rfl, rfl, rfl, by simp [World.putObj], fun k hk hne => World.putObj_heap_other (by intro e; exact hne (by rw [e]))⟩
theorem gsetW (w : World) (b : Nat) (v : Value) : w.grownBy (w.setCell ⟨b, 0, none⟩ v) (some b) :=
  ⟨rfl, rfl, rfl, by simp [World.setCell], fun k _ hne => Below.heap_setCell _ _ _ _ (fun e => hne (by rw [e]))⟩
theorem ltW {w : World} {k : Nat} {o : Obj} (h : w.heap[k]? = some o) : k < w.heap.size := (Array.getElem?_eq_some_iff.1 h).1
theorem SeqB.grown {W W' : World} {bs bp bk : Nat} {c : UInt8} {S : ByteArray} {row : Option Nat} (h : SeqB W bs bp bk c S) (hg : W.grownBy W' row) (h1 : some bs ≠ row) (h2 : some bp ≠ row) (h3 : some bk ≠ row) : SeqB W' bs bp bk c S :=
  ⟨h.s.grown hg h1, h.p.grown hg h2, h.k.grown hg h3⟩
namespace Spw
open Spc
section
variable {R2 D : Nat} {rec rec' : Loop} {pre : List (Int × Int)} {W W' : World}
end
theorem sg_le (c : UInt8) : ∀ (l cur : List UInt8), ∀ p ∈ sg c cur l, p.length ≤ cur.length + l.length
  | [], cur, p, hp => by
    rw [show sg c cur [] = [cur] from rfl, List.mem_singleton] at hp
    subst hp; simp
  | x :: l, cur, p, hp => by
    rw [sg_c] at hp
    split at hp
    · rcases List.mem_cons.1 hp with rfl | hp
      · simp
      · have := sg_le c l [] p hp; simp only [List.length_nil, List.length_cons] at *; omega
    · have := sg_le c l _ p hp; simp only [List.length_append, List.length_cons, List.length_nil] at *; omega
theorem wantInfo : ElemInfo Tryz.prog 321 (.agg #[.int .i64 0, .int .i64 0]) 2 16 := by unfold ElemInfo; kernel_rfl
theorem results_cc {fn : Func} {p u : Tmp} {tp tu : TypeId} (h : fn.results = #[.cell p tp, .cell u tu]) (tmps : Array Value) (P : Program) (w : World) (a b : Addr) (x y : Value)
    (hp : tmps.getD p undef = .pointer (some a)) (hu : tmps.getD u undef = .pointer (some b)) (h1 : (loadVar tp a).run P w = .ok x w) (h2 : (loadVar tu b).run P w = .ok y w) :
    (results fn tmps).run P w = .ok (.tuple #[x, y]) w := by
  have hp' : tmps[p]?.getD undef = .pointer (some a) := by simpa using hp
  have hu' : tmps[u]?.getD undef = .pointer (some b) := by simpa using hu
  simp [results, h, hp', hu', asAddr, h1, h2]
theorem load_wants {w : World} {g : Nat} {v : Value} (h : w.cell? ⟨g, 0, none⟩ = some v) : (loadVar 237 ⟨g, 0, none⟩).run Tryz.prog w = .ok v w := by
  simp [loadVar, isAgg, run_underlying Tryz.underlying237, h, go_sem]
theorem load_errno {w : World} {g : Nat} {v : Value} (h : w.cell? ⟨g, 0, none⟩ = some v) : (loadVar 48 ⟨g, 0, none⟩).run Tryz.prog w = .ok v w := by
  simp [loadVar, isAgg, run_underlying Tryz.underlying48, h, go_sem]
end Spw
end Go.Proofs.YtgjfhgcjiglfkaaGreatDoor
namespace Go.Proofs.YtgjfhgcjiglfkaaGreatDoor
open Go.RowKit
set_option maxRecDepth 20000
namespace Spw
open Spc
theorem trimL_le' (l : List UInt8) : (Tok.trimL l).length ≤ l.length := by
  unfold Tok.trimL
  rw [List.length_reverse]
  refine Nat.le_trans (List.dropWhile_sublist _).length_le ?_
  rw [List.length_reverse]
  exact (List.dropWhile_sublist _).length_le
theorem numL_nil {v : Int} (h : nB v = true ∨ v = -1) (h0 : numL v = []) : v = -1 := by
  rcases h with h | h
  · rw [numL_full h] at h0; exact absurd h0 (itoa_ne v h)
  · exact h
theorem want_num {x y : Int} (h : Spn.wantB (x, y) = true) : (nB x = true ∨ x = -1) ∧ (nB y = true ∨ y = -1) ∧ (x ≠ -1 ∨ y ≠ -1) := by
  have hb := Spn.wantB_bounds h
  refine ⟨?_, ?_, by simp only at hb; omega⟩ <;> rcases want_nums h with ⟨h1, h2⟩ | ⟨h1, h2⟩ | ⟨h1, h2⟩ <;> first | exact .inl h1 | exact .inl h2 | exact .inr h1 | exact .inr h2
theorem numL_inj {x y : Int} (hx : nB x = true ∨ x = -1) (hy : nB y = true ∨ y = -1) (h : numL x = numL y) : x = y := by
  rcases hx with hx | rfl
  · rcases hy with hy | rfl
    · rw [numL_full hx, numL_full hy] at h; exact itoa_inj hx hy h
    · exact numL_nil (.inl hx) h
  · exact (numL_nil hy h.symm).symm
theorem wL_inj {a b c d : Int} (h1 : Spn.wantB (a, b) = true) (h2 : Spn.wantB (c, d) = true) (h : wL a b = wL c d) : a = c ∧ b = d := by
  have e := wL_cut h1
  rw [h, wL_cut h2] at e
  injection e with e
  injection e with e1 e2
  exact ⟨(numL_inj (want_num h2).1 (want_num h1).1 e1).symm, (numL_inj (want_num h2).2.1 (want_num h1).2.1 e2).symm⟩
def WantR (p : List UInt8) (a b : Int) (ok : Bool) : Prop := (ok = true ∧ Spn.wantB (a, b) = true ∧ wL a b = p) ∨ (ok = false ∧ ∀ x y, Spn.wantB (x, y) = true → wL x y ≠ p)
def HalfR (p : List UInt8) (x : Int) (g : Bool) : Prop := (p = [] ∧ x = -1 ∧ g = true) ∨ (p ≠ [] ∧ NumR p x g)
theorem WantR.un {p : List UInt8} (h : (45 : UInt8) ∉ p) (x y : Int) : WantR p x y false := .inr ⟨rfl, fun a b _ e => h (by rw [← e]; unfold wL; simp)⟩
theorem HalfR.full {p : List UInt8} {x : Int} {g : Bool} (h : HalfR p x g) {u : Int} (hu : nB u = true ∨ u = -1) (he : numL u = p) : g = true ∧ x = u := by
  rcases h with ⟨rfl, rfl, rfl⟩ | ⟨hn, ⟨rfl, h1, h2⟩ | ⟨rfl, h1⟩⟩
  · exact ⟨rfl, (numL_nil hu he).symm⟩
  · rcases hu with hu | rfl
    · rw [numL_full hu, ← h2] at he; exact ⟨rfl, (itoa_inj hu h1 he).symm⟩
    · exact absurd he.symm hn
  · rcases hu with hu | rfl
    · rw [numL_full hu] at he; exact absurd he (h1 u hu)
    · exact absurd he.symm hn
theorem HalfR.text {p : List UInt8} {x : Int} (h : HalfR p x true) : numL x = p := by
  rcases h with ⟨rfl, rfl, _⟩ | ⟨hn, ⟨_, h1, h2⟩ | ⟨h1, _⟩⟩
  · rfl
  · rw [numL_full h1]; exact h2
  · cases h1
theorem WantR.of {t l r : List UInt8} {x y : Int} {g1 g2 : Bool} (ht : t = l ++ 45 :: r) (h45 : (45 : UInt8) ∉ l) (hx : HalfR l x g1) (hy : HalfR r y g2) (hne : l ≠ [] ∨ r ≠ []) : WantR t x y (g1 && g2 && Spn.wantB (x, y)) := by
  cases hg : (g1 && g2 && Spn.wantB (x, y)) with
  | true =>
    simp only [Bool.and_eq_true] at hg
    obtain ⟨⟨rfl, rfl⟩, h3⟩ := hg
    exact .inl ⟨rfl, h3, by rw [ht]; unfold wL; rw [hx.text, hy.text]⟩
  | false =>
    refine .inr ⟨rfl, fun a b hab he => ?_⟩
    have e1 := wL_cut hab
    rw [he, cutC_some ht h45] at e1
    injection e1 with e1
    injection e1 with e1 e2
    obtain ⟨q1, q2, q3⟩ := want_num hab
    obtain ⟨rfl, rfl⟩ := hx.full q1 e1.symm
    obtain ⟨rfl, rfl⟩ := hy.full q2 e2.symm
    rw [hab] at hg
    cases hg
theorem WantR.none {t l r : List UInt8} {x y : Int} (ht : t = l ++ 45 :: r) (hl : l = []) (hr : r = []) : WantR t x y false := by
  subst hl hr
  refine .inr ⟨rfl, fun a b hab he => ?_⟩
  have e1 := wL_cut hab
  rw [he, cutC_some ht (by simp)] at e1
  injection e1 with e1
  injection e1 with e1 e2
  obtain ⟨q1, q2, q3⟩ := want_num hab
  rcases q3 with q | q
  · exact q (numL_nil q1 e1.symm)
  · exact q (numL_nil q2 e2.symm)
theorem cutW_any (s : ByteArray) (w : World) (hs : s.size ≤ 140737488351232) :
    Calls Tryz.prog 86 #[.string s, .string ⟨#[45]⟩] w fun e w' => (∃ l r q, e = .returned (.tuple #[.string l, .string r, .bool q]) ∧ l.size ≤ s.size ∧ r.size ≤ s.size ∧ ((q = true ∧ sl s = sl l ++ 45 :: sl r ∧ 45 ∉ sl l) ∨ (q = false ∧ 45 ∉ sl s ∧ sl r = []))) ∧ Below w.heap.size w w' := by
  refine (cut_one s 45 w hs).mono fun e w' ⟨h, hb⟩ => ⟨?_, hb⟩
  rcases h with ⟨a, b, h1, h2, rfl⟩ | ⟨h1, rfl⟩
  · have := congrArg List.length h1
    rw [sl_len, List.length_append, List.length_cons] at this
    exact ⟨_, _, _, rfl, by rw [mkS_size]; omega, by rw [mkS_size]; omega, .inl ⟨rfl, by rw [sl_mkS, sl_mkS]; exact h1, by rw [sl_mkS]; exact h2⟩⟩
  · exact ⟨_, _, _, rfl, Nat.le_refl _, Nat.zero_le _, .inr ⟨rfl, h1, rfl⟩⟩
theorem emp_no {x : ByteArray} (h : sl x ≠ []) : x.toList.isEmpty = false := by
  rw [ba_toList]
  cases hl : sl x with
  | nil => exact absurd hl h
  | cons _ _ => rfl
theorem emp_is {x : ByteArray} (h : sl x = []) : x.toList.isEmpty = true := by rw [ba_toList, h]; rfl
theorem app_is {x y : ByteArray} (h : sl x = []) (h' : sl y = []) : (x ++ y).toList.isEmpty = true := by rw [ba_toList, sl_append, h, h']; rfl
set_option maxHeartbeats 2000000 in
theorem want_any (s : ByteArray) (w : World) (hs : s.size ≤ 140737488351232) (he : Bd.HasErr w) :
    Calls Tryz.prog 258 #[.string s] w fun e w' => (∃ a b ok, e = .returned (.tuple #[.agg #[.int .i64 a, .int .i64 b], .bool ok]) ∧ WantR (Tok.trimL (sl s)) a b ok) ∧ Below w.heap.size w w' := by
  have HE := Lib.hid (fun w' (hb : Below w.heap.size w w') => he.below hb)
  have HTr := Lib.hid (fun w' => strTrim_any s w' hs)
  have hz : (mkS (Tok.trimL (sl s))).size ≤ 140737488351232 := by rw [mkS_size]; have := trimL_le' (sl s); rw [sl_len] at this; omega
  have ht : Tok.trimL (sl s) = sl (mkS (Tok.trimL (sl s))) := by rw [sl_mkS]
  rw [show WantR (Tok.trimL (sl s)) = WantR (sl (mkS (Tok.trimL (sl s)))) from by rw [← ht]]
  have HCt := Lib.hid (fun w' => cutW_any (mkS (Tok.trimL (sl s))) w' hz)
  have b0 : Below w.heap.size w (w.alloc (.cells #[.int .i64 0, .int .i64 0] 321)) := (Below.refl _ w).alloc (Nat.le_refl _) _
  clear he hs ht
  generalize mkS (Tok.trimL (sl s)) = T at *
  have HZ := Lib.hid hz
  clear hz
  go_enter Tryz.func258, Tryz.ntmps258
  go_wp2_with fail
  refine (HTr.out _).mono ?_
  rintro e w1 ⟨rfl, b1⟩
  have B1 := belT b0 b1
  go_wp2_with fail
  refine (HCt.out _).mono ?_
  rintro e w2 ⟨⟨l, r, q, rfl, zl, zr, hq⟩, b2⟩
  have B2 := belT B1 b2
  have hlo : w.heap.size < w2.heap.size := by have h1 := b1.size; have h2 := b2.size; simp at h1; omega
  have hR := (show Blk w2 w.heap.size 321 #[.int .i64 0, .int .i64 0] from (Blk.new w _ _).below (belT b1 b2) (by simp)).alloc (.cells #[.int .i64 (-1), .int .i64 (-1)] 321)
  have hA := Blk.new w2 321 #[.int .i64 (-1), .int .i64 (-1)]
  have B := B2.alloc B2.size (.cells #[.int .i64 (-1), .int .i64 (-1)] 321)
  replace zl : l.size ≤ 140737488351232 := by have := HZ.out; omega
  replace zr : r.size ≤ 140737488351232 := by have := HZ.out; omega
  have HN := Lib.hid (fun w' h => numberC_any l w' (by omega) (HE.out w' h))
  have HM := Lib.hid (fun w' h => numberC_any r w' (by omega) (HE.out w' h))
  clear HE HTr HCt HZ b0 b1 b2 B1 B2
  rcases hq with ⟨rfl, hT, h45⟩ | ⟨rfl, hT, hr0⟩
  rotate_left
  focus
    have HF := Lib.hid (fun x y => WantR.un hT x y)
    have e2 := emp_is hr0
    clear hT hr0 HM
    by_cases hl0 : sl l = []
    focus
      have e1 := emp_is hl0
      clear hl0 HN
      go_wp2_with fail
      generalize w2.alloc (.cells #[.int .i64 (-1), .int .i64 (-1)] 321) = V at *
      obtain ⟨x, hx⟩ : ∃ x : Int, x = -1 := ⟨_, rfl⟩
      obtain ⟨y, hy⟩ : ∃ y : Int, y = -1 := ⟨_, rfl⟩
      replace hA : Blk V w2.heap.size 321 #[.int .i64 x, .int .i64 y] := by rw [hx, hy]; exact hA
      clear hx hy
      replace HF := Lib.hid (HF.out x y)
    rotate_left
    focus
      have e1 := emp_no hl0
      clear hl0
      go_wp2_with fail
      refine (HN.out _ B).mono ?_
      rintro e w3 ⟨⟨x, g, rfl, hx⟩, b3⟩
      replace B := belT B b3
      replace hR := hR.below b3 hR.lt
      replace hA := hA.below b3 hA.lt
      have hlt := hA.lt
      clear b3
      have c0 := hA.cell 0
      have c1 := hA.cell 1
      have f0 := hA.frozen 0
      go_wp2_with fail
      replace hR := hR.far (p := ⟨w2.heap.size, 0, none⟩) (Nat.ne_of_lt hlo) (.int .i64 x)
      replace B := B.setCell (p := ⟨w2.heap.size, 0, none⟩) (Nat.le_of_lt hlo) (.int .i64 x)
      replace hA : Blk (w3.setCell ⟨w2.heap.size, 0, none⟩ (.int .i64 x)) w2.heap.size 321 #[.int .i64 x, .int .i64 (-1)] := hA.set_ 0 (.int .i64 x)
      clear c0 c1 f0 hlt
      generalize w3.setCell ⟨w2.heap.size, 0, none⟩ (.int .i64 x) = V at *
      clear hx
      obtain ⟨y, hy⟩ : ∃ y : Int, y = -1 := ⟨_, rfl⟩
      rw [← hy] at hA
      clear hy
      replace HF := Lib.hid (HF.out x y)
  rotate_left 2
  focus
    have HTq := Lib.hid (And.intro hT h45)
    clear hT h45
    by_cases hl0 : sl l = [] <;> by_cases hr0 : sl r = []
    focus
      have e1 := emp_is hl0
      have e2 := emp_is hr0
      have e3 := app_is hl0 hr0
      have HF := Lib.hid (fun x y => WantR.none (x := x) (y := y) HTq.out.1 hl0 hr0)
      clear hl0 hr0 HN HM
      go_wp2_with fail
      generalize w2.alloc (.cells #[.int .i64 (-1), .int .i64 (-1)] 321) = V at *
      obtain ⟨x, hx⟩ : ∃ x : Int, x = -1 := ⟨_, rfl⟩
      obtain ⟨y, hy⟩ : ∃ y : Int, y = -1 := ⟨_, rfl⟩
      replace hA : Blk V w2.heap.size 321 #[.int .i64 x, .int .i64 y] := by rw [hx, hy]; exact hA
      clear hx hy
      replace HF := Lib.hid (HF.out x y)
    rotate_left
    focus
      have e1 := emp_is hl0
      have e2 := emp_no hr0
      have e3 := app_no (x := l) (.inr e2)
      have HC := Lib.hid (And.intro hl0 hr0)
      clear hl0 hr0
      go_wp2_with fail
      refine (HM.out _ B).mono ?_
      rintro e w3 ⟨⟨y, g, rfl, hy⟩, b3⟩
      replace B := belT B b3
      replace hR := hR.below b3 hR.lt
      replace hA := hA.below b3 hA.lt
      have hlt := hA.lt
      clear b3
      obtain ⟨x, hx⟩ : ∃ x : Int, x = -1 := ⟨_, rfl⟩
      rw [← hx] at hA
      have HF : Hid (WantR (sl T) x y (g && Spn.wantB (x, y))) := by
        have := WantR.of (x := x) (y := y) (g1 := true) (g2 := g) HTq.out.1 HTq.out.2 (.inl ⟨HC.out.1, hx, rfl⟩) (.inr ⟨HC.out.2, hy⟩) (.inr HC.out.2)
        rwa [Bool.true_and] at this
      clear hx hy HTq HC HN HM
      have c0 := hA.cell 0
      have c1 := hA.cell 1
      have f1 := hA.frozen 1
      cases g
      all_goals simp only [Bool.true_and, Bool.false_and] at HF
      rotate_left
      have HW := Lib.hid (fun w' => isWant_any x y w')
      generalize Spn.wantB (x, y) = R at *
      rotate_left
      all_goals
        go_wp2_with fail
        replace hR := hR.far (p := ⟨w2.heap.size, 1, none⟩) (Nat.ne_of_lt hlo) (.int .i64 y)
        replace B := B.setCell (p := ⟨w2.heap.size, 1, none⟩) (Nat.le_of_lt hlo) (.int .i64 y)
        replace hA : Blk (w3.setCell ⟨w2.heap.size, 1, none⟩ (.int .i64 y)) w2.heap.size 321 #[.int .i64 x, .int .i64 y] := hA.set_ 1 (.int .i64 y)
        clear c0 c1 f1 hlt
        generalize w3.setCell ⟨w2.heap.size, 1, none⟩ (.int .i64 y) = V at *
    rotate_left 2
    focus
      have e1 := emp_no hl0
      have e2 := emp_is hr0
      have e3 := app_no (y := r) (.inl e1)
      have HC := Lib.hid (And.intro hl0 hr0)
      clear hl0 hr0
      go_wp2_with fail
      refine (HN.out _ B).mono ?_
      rintro e w3 ⟨⟨x, g, rfl, hx⟩, b3⟩
      replace B := belT B b3
      replace hR := hR.below b3 hR.lt
      replace hA := hA.below b3 hA.lt
      have hlt := hA.lt
      clear b3
      obtain ⟨y, hy⟩ : ∃ y : Int, y = -1 := ⟨_, rfl⟩
      rw [← hy] at hA
      have HF : Hid (WantR (sl T) x y (g && Spn.wantB (x, y))) := by
        have := WantR.of (x := x) (y := y) (g1 := g) (g2 := true) HTq.out.1 HTq.out.2 (.inr ⟨HC.out.1, hx⟩) (.inl ⟨HC.out.2, hy, rfl⟩) (.inl HC.out.1)
        rwa [Bool.and_true] at this
      clear hx hy HTq HC HN HM
      have c0 := hA.cell 0
      have c1 := hA.cell 1
      have f0 := hA.frozen 0
      cases g
      all_goals simp only [Bool.true_and, Bool.false_and] at HF
      rotate_left
      have HW := Lib.hid (fun w' => isWant_any x y w')
      generalize Spn.wantB (x, y) = R at *
      rotate_left
      all_goals
        go_wp2_with fail
        replace hR := hR.far (p := ⟨w2.heap.size, 0, none⟩) (Nat.ne_of_lt hlo) (.int .i64 x)
        replace B := B.setCell (p := ⟨w2.heap.size, 0, none⟩) (Nat.le_of_lt hlo) (.int .i64 x)
        replace hA : Blk (w3.setCell ⟨w2.heap.size, 0, none⟩ (.int .i64 x)) w2.heap.size 321 #[.int .i64 x, .int .i64 y] := hA.set_ 0 (.int .i64 x)
        clear c0 c1 f0 hlt
        generalize w3.setCell ⟨w2.heap.size, 0, none⟩ (.int .i64 x) = V at *
    rotate_left 2
    focus
      have e1 := emp_no hl0
      have e2 := emp_no hr0
      have e3 := app_no (y := r) (.inl e1)
      have HC := Lib.hid (And.intro hl0 hr0)
      clear hl0 hr0
      go_wp2_with fail
      refine (HN.out _ B).mono ?_
      rintro e w3 ⟨⟨x, g1, rfl, hx⟩, b3⟩
      replace B := belT B b3
      replace hR := hR.below b3 hR.lt
      replace hA := hA.below b3 hA.lt
      have hlt := hA.lt
      clear b3
      have HX := Lib.hid hx
      clear hx
      have c0 := hA.cell 0
      have c1 := hA.cell 1
      have f0 := hA.frozen 0
      cases g1
      all_goals
        go_wp2_with fail
        replace hR := hR.far (p := ⟨w2.heap.size, 0, none⟩) (Nat.ne_of_lt hlo) (.int .i64 x)
        replace B := B.setCell (p := ⟨w2.heap.size, 0, none⟩) (Nat.le_of_lt hlo) (.int .i64 x)
        replace hA : Blk (w3.setCell ⟨w2.heap.size, 0, none⟩ (.int .i64 x)) w2.heap.size 321 #[.int .i64 x, .int .i64 (-1)] := hA.set_ 0 (.int .i64 x)
        clear c0 c1 f0 hlt
        generalize w3.setCell ⟨w2.heap.size, 0, none⟩ (.int .i64 x) = v3 at *
        refine (HM.out _ B).mono ?_
        rintro e w4 ⟨⟨y, g, rfl, hy⟩, b3⟩
        replace B := belT B b3
        replace hR := hR.below b3 hR.lt
        replace hA := hA.below b3 hA.lt
        have hlt := hA.lt
        clear b3
        have HF : Hid (WantR (sl T) x y (_ && g && Spn.wantB (x, y))) := WantR.of HTq.out.1 HTq.out.2 (.inr ⟨HC.out.1, HX.out⟩) (.inr ⟨HC.out.2, hy⟩) (.inl HC.out.1)
        clear HX hy HTq HC HN HM
        have c0 := hA.cell 0
        have c1 := hA.cell 1
        have f1 := hA.frozen 1
      rotate_left
      cases g
      all_goals simp only [Bool.true_and, Bool.false_and] at HF
      rotate_left
      have HW := Lib.hid (fun w' => isWant_any x y w')
      generalize Spn.wantB (x, y) = R at *
      all_goals
        go_wp2_with fail
        replace hR := hR.far (p := ⟨w2.heap.size, 1, none⟩) (Nat.ne_of_lt hlo) (.int .i64 y)
        replace B := B.setCell (p := ⟨w2.heap.size, 1, none⟩) (Nat.le_of_lt hlo) (.int .i64 y)
        replace hA : Blk (w4.setCell ⟨w2.heap.size, 1, none⟩ (.int .i64 y)) w2.heap.size 321 #[.int .i64 x, .int .i64 y] := hA.set_ 1 (.int .i64 y)
        clear c0 c1 f1 hlt
        generalize w4.setCell ⟨w2.heap.size, 1, none⟩ (.int .i64 y) = V at *
  all_goals
    have c0 := hA.cell 0
    have c1 := hA.cell 1
    refine wp_region_seq [(true, 0), (true, 1), (true, 2), (true, 3), (false, 4), (true, 5), (false, 6), (true, 7)] (fun w' => Blk w' w2.heap.size 321 #[.int .i64 x, .int .i64 y] ∧ (∃ cs : Array Value, cs.size = 2 ∧ Blk w' w.heap.size 321 cs) ∧ Below w.heap.size w w') (by kernel_rfl) (by kernel_rfl) (fun _ _ _ _ _ h => h) (by kernel_rfl) (by kernel_rfl) ?_ ?_
    · exact ⟨hA, ⟨_, rfl, hR⟩, B.drew⟩
    iterate 4 (first | (apply seqH_skip; (focus (simp only [List.getElem?_toArray, List.getElem?_cons_succ, List.getElem?_cons_zero]; rfl)); (focus rfl); simp only [Act.put, List.setIfInBounds_toArray, List.set_cons_zero, List.set_cons_succ]) | (apply seqH_take; (focus (simp only [List.getElem?_toArray, List.getElem?_cons_succ, List.getElem?_cons_zero]; rfl)); (focus rfl); (focus (intro w' hS; obtain ⟨kA, kR, kb⟩ := hS; have k0 := kA.cell 0; have k1 := kA.cell 1; first | (go_simp; rfl) | (go_simp; done))); simp only [Act.put, List.setIfInBounds_toArray, List.set_cons_zero, List.set_cons_succ]) | (apply seqH_pass; (focus (simp only [List.getElem?_toArray, List.getElem?_cons_succ, List.getElem?_cons_zero]; rfl)); (focus rfl); (focus assumption); simp only [Act.put, List.setIfInBounds_toArray, List.set_cons_zero, List.set_cons_succ]))
    first
    | (skip
       apply seqH_eff
       (focus (simp only [List.getElem?_toArray, List.getElem?_cons_succ, List.getElem?_cons_zero]; rfl))
       (focus rfl)
       intro K hK
       go_simp
       refine (HW.out _).mono ?_
       rintro e w5 ⟨rfl, b5⟩
       have kA := hA.drew.below b5 hA.lt
       have kR := hR.drew.below b5 hR.lt
       have kB := belT B.drew b5
       refine hK _ _ ⟨⟨kA, ⟨_, rfl, kR⟩, kB⟩, ?_⟩
       clear hK K
       iterate 1 (first | (apply seqH_skip; (focus (simp only [List.getElem?_toArray, List.getElem?_cons_succ, List.getElem?_cons_zero]; rfl)); (focus rfl); simp only [Act.put, List.setIfInBounds_toArray, List.set_cons_zero, List.set_cons_succ]) | (apply seqH_take; (focus (simp only [List.getElem?_toArray, List.getElem?_cons_succ, List.getElem?_cons_zero]; rfl)); (focus rfl); (focus (intro w' hS; skip; first | (go_simp; rfl) | (go_simp; done))); simp only [Act.put, List.setIfInBounds_toArray, List.set_cons_zero, List.set_cons_succ]) | (apply seqH_pass; (focus (simp only [List.getElem?_toArray, List.getElem?_cons_succ, List.getElem?_cons_zero]; rfl)); (focus rfl); (focus assumption); simp only [Act.put, List.setIfInBounds_toArray, List.set_cons_zero, List.set_cons_succ])))
    | (have kA := hA.drew
       have kR := hR.drew
       have kB := B.drew
       have kS : Blk V.drew w2.heap.size 321 #[.int .i64 x, .int .i64 y] ∧ (∃ cs : Array Value, cs.size = 2 ∧ Blk V.drew w.heap.size 321 cs) ∧ Below w.heap.size w V.drew := ⟨kA, ⟨_, rfl, kR⟩, kB⟩
       iterate 2 (first | (apply seqH_skip; (focus (simp only [List.getElem?_toArray, List.getElem?_cons_succ, List.getElem?_cons_zero]; rfl)); (focus rfl); simp only [Act.put, List.setIfInBounds_toArray, List.set_cons_zero, List.set_cons_succ]) | (apply seqH_take; (focus (simp only [List.getElem?_toArray, List.getElem?_cons_succ, List.getElem?_cons_zero]; rfl)); (focus rfl); (focus (intro w' hS; skip; first | (go_simp; rfl) | (go_simp; done))); simp only [Act.put, List.setIfInBounds_toArray, List.set_cons_zero, List.set_cons_succ]) | (apply seqH_pass; (focus (simp only [List.getElem?_toArray, List.getElem?_cons_succ, List.getElem?_cons_zero]; rfl)); (focus rfl); (focus assumption); simp only [Act.put, List.setIfInBounds_toArray, List.set_cons_zero, List.set_cons_succ])))
    apply seqH_eff
    (focus (simp only [List.getElem?_toArray, List.getElem?_cons_succ, List.getElem?_cons_zero]; rfl))
    (focus rfl)
    intro K hK
    refine wp_store_row _ _ _ rfl w.heap.size #[.int .i64 x, .int .i64 y] rfl rfl 321 #[.int .i64 0, .int .i64 0] kR (by kernel_rfl) (by kernel_rfl) (by kernel_rfl) ?_
    refine hK _ _ ⟨⟨setRow_far kA (Nat.ne_of_lt hlo), ⟨_, rfl, setRow_heap _ _ _ _ _ _ kR⟩, below_setRowC kB (Nat.le_refl _) _⟩, ?_⟩
    clear hK K
    iterate 1 (first | (apply seqH_skip; (focus (simp only [List.getElem?_toArray, List.getElem?_cons_succ, List.getElem?_cons_zero]; rfl)); (focus rfl); simp only [Act.put, List.setIfInBounds_toArray, List.set_cons_zero, List.set_cons_succ]) | (apply seqH_take; (focus (simp only [List.getElem?_toArray, List.getElem?_cons_succ, List.getElem?_cons_zero]; rfl)); (focus rfl); (focus (intro w' hS; skip; first | (go_simp; rfl) | (go_simp; done))); simp only [Act.put, List.setIfInBounds_toArray, List.set_cons_zero, List.set_cons_succ]) | (apply seqH_pass; (focus (simp only [List.getElem?_toArray, List.getElem?_cons_succ, List.getElem?_cons_zero]; rfl)); (focus rfl); (focus assumption); simp only [Act.put, List.setIfInBounds_toArray, List.set_cons_zero, List.set_cons_succ]))
    refine seqH_nil ?_
    go_wp2_with fail
    exact bodyPost_ret (results_ct rfl _ _ _ w.heap.size 321 #[.int .i64 x, .int .i64 y] (0, 0) _ rfl (setRow_heap _ _ _ _ _ _ kR) Tryz.underlying321 (by kernel_rfl)) rfl ⟨⟨x, y, _, rfl, HF.out⟩, below_setRowC kB (Nat.le_refl _) _⟩
end Spw
end Go.Proofs.YtgjfhgcjiglfkaaGreatDoor
