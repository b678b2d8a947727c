/- strings.SplitSeq at one byte: the closure that it answers, and the closure's rounds. -/
import Derived.Test.YthhhlaoiampinaaDoorRng
import Derived.Test.YthhhlaoiampinaaDoorSplit
import Derived.Test.YthhhlaoiampinaaDoorIdx
import Derived.Test.YthhhlaoiampinaaDoorShelf
import Derived.IntWalk
namespace Go.Proofs.YthhhlaoiampinaaDoor
set_option maxRecDepth 20000
open Go.RowKit Go.Shelf
attribute [local go_sem] Oper.semAt_some
def ptrq (k : Nat) : Value := .pointer (some ⟨k, 0, none⟩)
/-- How long the text in this cell is. -/
def textAt (W : World) (b : Nat) : Nat := match W.cell? ⟨b, 0, none⟩ with | some (.string s) => s.size | _ => 0
/-- What SplitSeq's closure has captured. -/
structure SeqB (W : World) (bs bp bk : Nat) (c : UInt8) (S : ByteArray) : Prop where
  s : Blk W bs 9 #[.string S]
  p : Blk W bp 9 #[.string ⟨#[c]⟩]
  k : Blk W bk 3 #[.int .i64 0]
section
variable {W W' : World} {bs bp bk : Nat} {c : UInt8} {S S' : ByteArray}
theorem SeqB.drew (h : SeqB W bs bp bk c S) : SeqB W.drew bs bp bk c S := ⟨h.s.drew, h.p.drew, h.k.drew⟩
theorem SeqB.below (h : SeqB W bs bp bk c S) {B : Nat} (hb : Below B W W') (hB : W.heap.size ≤ B) : SeqB W' bs bp bk c S :=
  ⟨h.s.below hb (Nat.lt_of_lt_of_le h.s.lt hB), h.p.below hb (Nat.lt_of_lt_of_le h.p.lt hB), h.k.below hb (Nat.lt_of_lt_of_le h.k.lt hB)⟩
theorem SeqB.set (h : SeqB W bs bp bk c S) (h1 : bs ≠ bp) (h2 : bs ≠ bk) : SeqB (W.setCell ⟨bs, 0, none⟩ (.string S')) bs bp bk c S' :=
  ⟨h.s.set_ 0 _, h.p.far (p := ⟨bs, 0, none⟩) (Ne.symm h1) _, h.k.far (p := ⟨bs, 0, none⟩) (Ne.symm h2) _⟩
theorem SeqB.len (h : SeqB W bs bp bk c S) : textAt W bs = S.size := by unfold textAt; rw [h.s.cell 0]; rfl
end
theorem seq_make (s : ByteArray) (c : UInt8) (w : World) :
    Calls Tryd.prog 43 #[.string s, .string ⟨#[c]⟩, .int .i64 0] w fun e w' => e = .returned (.func (.func 59) #[] #[ptrq (w.heap.size + 1), ptrq w.heap.size, ptrq (w.heap.size + 2)]) ∧ w' = ((w.alloc (.cells #[.string s] 9)).alloc (.cells #[.string ⟨#[c]⟩] 9)).alloc (.cells #[.int .i64 0] 3) := by
  go_enter Tryd.func43, Tryd.ntmps43
  have hmf : ∀ (fn : Fn) (first cap : Array Value) (w : World), (Instr.makeFunc fn first cap).run Tryd.prog w = .ok (.func fn first cap) w := fun _ _ _ _ => rfl
  go_wp2_with fail
  go_ret
  exact ⟨rfl, rfl⟩
theorem seq_any (s : ByteArray) (c : UInt8) (w : World) :
    Calls Tryd.prog 27 #[.string s, .string ⟨#[c]⟩] w fun e w' => e = .returned (.func (.func 59) #[] #[ptrq (w.heap.size + 1), ptrq w.heap.size, ptrq (w.heap.size + 2)]) ∧ SeqB w' w.heap.size (w.heap.size + 1) (w.heap.size + 2) c s ∧ Below w.heap.size w w' ∧ w'.heap.size = w.heap.size + 3 := by
  go_enter Tryd.func27, Tryd.ntmps27
  go_wp2_with fail
  refine (seq_make s c _).mono ?_
  rintro e w1 ⟨rfl, rfl⟩
  go_wp2_with fail
  go_ret
  have h0 := Blk.new w 9 #[.string s]
  have h1 := Blk.new (w.alloc (.cells #[.string s] 9)) 9 #[.string ⟨#[c]⟩]
  have h2 := Blk.new ((w.alloc (.cells #[.string s] 9)).alloc (.cells #[.string ⟨#[c]⟩] 9)) 3 #[.int .i64 0]
  simp only [World.size_alloc] at h1 h2
  exact ⟨rfl, ⟨(h0.alloc _).alloc _, h1.alloc _, h2⟩, ((Below.refl _ w).alloc (Nat.le_refl _) _ |>.alloc (by simp) _).alloc (by simp; omega) _, by simp⟩
set_option maxHeartbeats 2000000 in
theorem seq_in (n bs bp bk D : Nat) (c : UInt8) (I : List (List UInt8) → World → Prop) (J : World → Prop) (hn : 2 ≤ n) (hne1 : bs ≠ bp) (hne2 : bs ≠ bk)
    (hset : ∀ rest W v, I rest W → I rest (W.setCell ⟨bs, 0, none⟩ v)) (hdrew : ∀ rest W, I rest W → I rest W.drew)
    (hround : ∀ p rest S W, I (p :: rest) W → SeqB W bs bp bk c S → YieldAt Fence.wide (n - 1) Tryd.prog D #[.string (mkS p)] W fun e W' => e = .returned (.bool true) ∧ I rest W' ∧ SeqB W' bs bp bk c S)
    (hend : ∀ W, I [] W → J W) (s : ByteArray) (w : World) (hs : s.size ≤ 140737488351232) (h : I (sg c [] (sl s)) w) (hb : SeqB w bs bp bk c s) :
    CallsIn Fence.wide n Tryd.prog 59 #[.func (.yield D) #[] #[], ptrq bp, ptrq bs, ptrq bk] w fun e w' => (∃ v, e = .returned v) ∧ J w' := by
  have HSt := Lib.hid hset
  have HD := Lib.hid hdrew
  have HR := Lib.hid hround
  have HE := Lib.hid hend
  clear hset hdrew hround hend
  have k0 := hb.p.cell 0
  unfold ptrq
  refine callsIn_of_wp Tryd.func59 rfl trivial ?_ rfl
  simp only [Tryd.ntmps59, List.size_toArray, List.length_cons, List.length_nil, Nat.reduceAdd, Nat.reduceSub, Array.replicate_succ, Array.replicate_zero, List.push_toArray, List.append_toArray, List.nil_append, List.cons_append]
  gi_wp2
  gi_loopw [] (fun wr => ∃ S : ByteArray, S.size ≤ 140737488351232 ∧ I (sg c [] (sl S)) wr ∧ SeqB wr bs bp bk c S) (fun wr => textAt wr bs)
  case atStart => exact ⟨s, hs, h, hb⟩
  case round =>
    obtain ⟨S, hS, hI, hB⟩ := hrel
    clear h hb k0
    have k0 := hB.p.cell 0
    have k1 := hB.s.cell 0
    have k2 := hB.k.cell 0
    have HX := Lib.hid (fun w' => Tryd.strings_Index_one S c w')
    have HI := Lib.hid hI
    have HB := Lib.hid hB
    clear hI
    rcases indexByte_case (sl S) c with ⟨k, hk, h1, h2, h3⟩ | ⟨h1, h2⟩
    · rw [show Lib.indexByte S.data.toList c = (k : Int) from h1] at HX
      rw [sl_len] at hk
      have HS : Hid (sl S = (sl S).take k ++ c :: (sl S).drop (k + 1) ∧ c ∉ (sl S).take k) := by
        refine ⟨?_, h3⟩
        conv => lhs; rw [← List.take_append_drop k (sl S), List.drop_eq_getElem_cons (by rw [sl_len]; exact hk), h2]
      have e1 : S.extract 0 k = mkS ((sl S).take k) := sl_inj (by rw [sl_extract, sl_mkS, Nat.sub_zero, List.drop_zero])
      have e2 : S.extract (k + 1) S.size = mkS ((sl S).drop (k + 1)) := sl_inj (by rw [sl_extract_end, sl_mkS])
      have hdl : ((sl S).drop (k + 1)).length = S.size - (k + 1) := by rw [List.length_drop, sl_len]
      have i1 : (k : Int) + 1 ≤ (S.size : Int) := by omega
      have i2 : (k : Int) ≤ (S.size : Int) := by omega
      have htn : ((k : Int) + 1).toNat = k + 1 := by omega
      have hnn : 0 ≤ (k : Int) + 1 := by omega
      have hn0 : decide ((k : Int) < 0) = false := by rw [decide_eq_false_iff_not]; omega
      have hwr : IntKind.i64.wrap ((k : Int) + 1) = (k : Int) + 1 := IntWalk.i64_in _ (by omega)
      have hwr0 : IntKind.i64.wrap (k : Int) = (k : Int) := IntWalk.i64_in _ (by omega)
      clear h1 h2 h3
      generalize (sl S).take k = a at *
      generalize (sl S).drop (k + 1) = b at *
      have hsg : Hid (sg c [] (sl S) = a :: sg c [] b) := by show _ = _; rw [HS.out.1]; exact sg_hit a b HS.out.2
      obtain ⟨fn, tmps, assign, body, hy, hR⟩ := HR.out a (sg c [] b) S wr (by rw [← hsg.out]; exact HI.out) HB.out
      have HZ := Lib.hid hdl
      clear hdl
      gi_wp2_with (refine ⟨trivial, fun _ => (by omega), ?_⟩; gi_at_call 46; refine (callsIn_wide.2 (HX.out _)).mono ?_; rintro e w' ⟨rfl, rfl⟩)
      refine ⟨fun _ => (by omega), ?_⟩
      refine hR.mono ?_
      rintro e W5 ⟨rfl, hI5, hB5⟩
      have k0 := hB5.p.cell 0
      have k1 := hB5.s.cell 0
      have k2 := hB5.k.cell 0
      have f1 := hB5.s.frozen 0
      have hbl := hB5.s.lt
      have HI5 := Lib.hid hI5
      have HB5 := Lib.hid hB5
      clear hI5 hB5 hy hR
      gi_wp2
      have hB6 := HB5.out.set (S' := mkS b) hne1 hne2
      exact ⟨⟨mkS b, by rw [mkS_size]; have := HZ.out; omega, by rw [sl_mkS]; exact HSt.out _ _ _ HI5.out, hB6⟩, by rw [hB6.len, HB.out.len, mkS_size]; have := HZ.out; omega⟩
    · rw [show Lib.indexByte S.data.toList c = -1 from h1] at HX
      have hsg : Hid (sg c [] (sl S) = [sl S]) := sg_one h2
      clear h1 h2
      obtain ⟨fn, tmps, assign, body, hy, hR⟩ := HR.out (sl S) [] S wr (by rw [← hsg.out]; exact HI.out) HB.out
      rw [mkS_sl] at hy
      gi_wp2_with (refine ⟨trivial, fun _ => (by omega), ?_⟩; gi_at_call 46; refine (callsIn_wide.2 (HX.out _)).mono ?_; rintro e w' ⟨rfl, rfl⟩)
      refine ⟨fun _ => (by omega), ?_⟩
      refine hR.mono ?_
      rintro e W5 ⟨rfl, hI5, hB5⟩
      have HI5 := Lib.hid hI5
      clear hI5 hy hR
      gi_wp2
      go_end0
      exact ⟨⟨_, rfl⟩, HE.out _ HI5.out⟩
end Go.Proofs.YthhhlaoiampinaaDoor
