/- A chain's iterator: whatever a round does, as long as it leaves what comes next. -/
import Derived.Test.YtnobcehiahcfkaaRowC
import Derived.Test.YtnobcehiahcfkaaRng
import Derived.LaidEqlPtr
import Derived.Lib.Builder
namespace Go.Proofs.Ytnobcehiahcfkaa
set_option maxRecDepth 20000
open Go.RowKit Go.Shelf
attribute [local go_sem] Oper.semAt_some
/-- The block of the first, or of the root. -/
def hdB (ns : List Nd) (c : Nat) : Nat := match ns with | [] => c | x :: _ => x.1
theorem neq_other (W : World) {a b : Nat} {ca cb : Array Value} {ta tb : TypeId} (ha : Blk W a ta ca) (hb : Blk W b tb cb) (hne : a ≠ b) : (binOp .neq 120 (ptr a) (.pointer (some ⟨b, 0, none⟩))).run Try.prog W = .ok (.bool true) W := by
  obtain ⟨j, hj, hz⟩ : ∃ j, Try.prog.info? 122 = some j ∧ j.size ≠ 0 := by
    have h : ((Try.prog.info? 122).map fun j => decide (j.size ≠ 0)) = some true := by kernel_rfl
    cases hq : Try.prog.info? 122 with
    | none => rw [hq] at h; cases h
    | some j => rw [hq] at h; exact ⟨j, rfl, by simpa using h⟩
  have h : ∀ d : Nat, (Op.equalIn (d + 1) 120 (.pointer (some ⟨a, 0, none⟩)) (.pointer (some ⟨b, 0, none⟩))).run Try.prog W = .ok false W := fun d => by
    simp [Op.equalIn, run_underlying Try.underlying120, sizeOf, typeInfo, hj, hz, run_sameAddr_other W (a := ⟨a, 0, none⟩) (b := ⟨b, 0, none⟩) (by intro e; injection e with e; exact hne e) ha hb]
  simp only [binOp]
  simp [Op.equal, Op.maxDepth, h 9999]
theorem neq_same (W : World) (a : Nat) : (binOp .neq 120 (ptr a) (.pointer (some ⟨a, 0, none⟩))).run Try.prog W = .ok (.bool false) W := by
  obtain ⟨j, hj⟩ : ∃ j, Try.prog.info? 122 = some j := by
    have h : (Try.prog.info? 122).isSome = true := by kernel_rfl
    exact Option.isSome_iff_exists.1 h
  exact Lib.run_neq_ptr_same W ⟨a, 0, none⟩ Try.underlying120 hj
set_option maxHeartbeats 1000000 in
theorem all_in (n c D : Nat) (I : List Nd → World → Prop) (J : World → Prop) (μ : World → Nat) (hn : 1 ≤ n)
    (hμ : ∀ rest W, I rest W → μ W = rest.length) (hdrew : ∀ rest W, I rest W → I rest W.drew)
    (hkey : ∀ x rest W, I (x :: rest) W → NodeB W x ∧ x.1 ≠ c ∧ ∃ mb, RootB W c mb)
    (hround : ∀ x rest W, I (x :: rest) W → YieldAt Fence.wide (n - 1) Try.prog D #[.string x.2.1] W fun e W' => (e = .returned (.bool true) ∧ I rest W' ∧ W'.cell? ⟨x.1, 3, none⟩ = some (ptr (hdB rest c))) ∨ (e = .returned (.bool false) ∧ J W'))
    (hend : ∀ W, I [] W → J W) (ns : List Nd) (w : World) (h : I ns w) (h3 : w.cell? ⟨c, 3, none⟩ = some (ptr (hdB ns c))) :
    CallsIn Fence.wide n Try.prog 49 #[ptr c, .func (.yield D) #[] #[]] w fun e w' => (∃ v, e = .returned v) ∧ J w' := by
  have HM := Lib.hid hμ
  have HD := Lib.hid hdrew
  have HK := Lib.hid hkey
  have HR := Lib.hid hround
  have HE := Lib.hid hend
  clear hμ hdrew hkey hround hend
  refine callsIn_of_wp Try.func49 rfl trivial ?_ rfl
  simp only [Try.ntmps49, List.size_toArray, List.length_cons, List.length_nil, Nat.reduceAdd, Nat.reduceSub, Array.replicate_succ, Array.replicate_zero, List.push_toArray, List.append_toArray, List.nil_append, List.cons_append]
  gi_wp2
  gi_loopw [4] (fun t wr => ∃ rest, t = ptr (hdB rest c) ∧ I rest wr) (fun _ wr => μ wr)
  case atStart => exact ⟨ns, rfl, h⟩
  case round =>
    obtain ⟨rest, rfl, hI⟩ := hrel
    clear h3 h
    cases rest with
    | nil =>
      have HI := Lib.hid hI
      clear hI
      have kcmp := neq_same wr c
      show Code.wpIn _ _ _ _ _ { tmps := #[ptr c, .func (.yield D) #[] #[], undef, undef, ptr c, _, _, _, _, _, _, _, _, _, _, _, _, _, _, _, _, _, _, _, _, _], defers := [] } _
      gi_wp2
      exact Great.bodyPost_end0 rfl rfl ⟨⟨_, rfl⟩, HE.out _ HI.out⟩
    | cons x rest =>
      obtain ⟨⟨_, _, kb⟩, kne, mb, ⟨_, _, kr⟩⟩ := HK.out x rest _ hI
      have k0 := kb.cell 0
      have kcmp := neq_other wr kb kr kne
      obtain ⟨fn, tmps, assign, body, hy, hR⟩ := HR.out x rest _ hI
      have HI := Lib.hid hI
      clear hI
      clear kb kr kne
      show Code.wpIn _ _ _ _ _ { tmps := #[ptr c, .func (.yield D) #[] #[], undef, undef, ptr x.1, _, _, _, _, _, _, _, _, _, _, _, _, _, _, _, _, _, _, _, _, _], defers := [] } _
      gi_wp2
      refine hR.mono ?_
      rintro e W5 (⟨rfl, hI5, h35⟩ | ⟨rfl, hJ⟩)
      · have HI5 := Lib.hid hI5
        clear hI5 kcmp hy hR
        gi_wp2
        go_roundw
        case rel => exact ⟨rest, rfl, HI5.out⟩
        case measure => rw [HM.out _ _ HI5.out, HM.out _ _ HI.out]; exact Nat.lt_succ_self _
      · clear kcmp hy hR
        have HJ := Lib.hid hJ
        clear hJ
        gi_wp2
        exact bodyPost_ret (v := .tuple #[]) (by kernel_rfl) rfl ⟨⟨_, rfl⟩, HJ.out⟩
end Go.Proofs.Ytnobcehiahcfkaa
