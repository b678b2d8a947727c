/- SpanContentBack: the given statement: for every input the law's Go text returns true and leaves its arguments as they were. No condition. -/
import Derived.Test.YtemknajlmocfeaaDoorSpcD
import Derived.Test.YtemknajlmocfeaaDoorFrame
import Derived.Test.YtemknajlmocfeaaDoorOpen
import Derived.Test.YtemknajlmocfeaaDoorCards
import Derived.Test.YtemknajlmocfeaaDoorTie
import Derived.Test.YtemknajlmocfeaaDoorDoor
import Derived.Test.YtemknajlmocfeaaDoorErrV

namespace Go.Proofs.YtemknajlmocfeaaDoor
open Go.ChangeShapes Go.WideShapes Go.ChangeAt Go.RowKit
open Go.ChangeMaps (open_string shut_string)
set_option linter.unusedVariables false


theorem spanContentBack_met (os : Os) : laidMetH Tryd.prog Rows.spanContentBackRow.laid ((World.laidAll Tryd.prog os Rows.spanContentBackRow.laid).forCall (fun _ _ => 0) ⟨#[], #[.agg #[.int .i64 0, .int .i64 0], .int .i64 0, .string ByteArray.empty], []⟩).memory := by
  rw [MakeChecks.laidMetH_plain _ _ _ (by kernel_rfl)]
  exact laidMet_laidAll _ (by kernel_rfl) (by kernel_rfl)
theorem spanContentBack_reads (os : Os) {H : Type} (enc : TypeId × Value → H) : ∃ places, DataW.whole enc Tryd.prog ((World.laidAll Tryd.prog os Rows.spanContentBackRow.laid).forCall (fun _ _ => 0) ⟨#[], #[.agg #[.int .i64 0, .int .i64 0], .int .i64 0, .string ByteArray.empty], []⟩).memory Tryd.f3.params.toList Rows.spanContentBackSpec.vars false (#[.agg #[.int .i64 0, .int .i64 0], .int .i64 0, .string ByteArray.empty] : Array Value).toList 8 = some ([.agg [.lit (.int .i64 0), .lit (.int .i64 0)], .lit (.int .i64 0), .lit (.string [])], [], places) :=
  ⟨[], by kernel_rfl⟩
set_option maxRecDepth 100000 in
theorem spanContentBack_lifted (os : Os) (started : os.Started) (H : Type) (enc : TypeId × Value → H) (F : Stop.Interp) :
    ReturnsInHanded {} Tryd.checked os 3 .any ((OpenSpec.ofChange Rows.spanContentBackSpec).preRow enc Tryd.prog Tryd.f3 Rows.spanContentBackRow.domain false Rows.spanContentBackRow.laid) (((OpenSpec.ofChange Rows.spanContentBackSpec).at F).post enc Tryd.prog Tryd.f3 false true false false) := by
  obtain ⟨places, hx⟩ := spanContentBack_reads os enc
  refine returnsInHanded_of_row (C := Tryd.checked) (s := OpenSpec.ofChange Rows.spanContentBackSpec) Frame.own started (by kernel_rfl) Tryd.func3
    (door_witness (enc := enc) (C := Tryd.checked) (fn := Tryd.f3) #[.agg #[.int .i64 0, .int .i64 0], .int .i64 0, .string ByteArray.empty] (by kernel_rfl) (by kernel_rfl) (by kernel_rfl)
      (OpenSpec.preRow_of_cond 8 hx (by kernel_rfl) (fun k hk => by cases hk) (by kernel_rfl) (spanContentBack_met os))) ?_
  intro W base args ds gs before hval0 hW hcnd hk0 hsz0 hL hshape _
  have hval : ∀ (j : Nat) t v, Tryd.f3.params[j]? = some t → args[j]? = some v → Value.okWide Tryd.prog W .any base t v := hval0
  have hW' : DataW.Whole enc Tryd.prog Tryd.f3.params.toList Rows.spanContentBackSpec.vars false W args.toList ds gs before := hW
  have hsz : (DataW.weightsEach Tryd.prog (Tryd.f3.params.toList ++ Rows.spanContentBackSpec.plain.varTypes Tryd.prog) (ds ++ gs)).all (· ≤ reachBytes) = true := hsz0
  obtain ⟨p, q, hA0, hV, rfl, hfz, hnd⟩ := hW
  have hA : DataW.TrodAll enc Tryd.prog W 0 (fun _ => true) true Tryd.f3.params.toList args.toList ds p := hA0
  rw [Tryd.params3] at hA hval hsz
  have hp10 : HasP10 W := by
    have ht := tabIs_mem (name := "internal/strconv.uint64pow10") (g := 3) (t := 122) (e := 102) (n := 20) (k := .u64) (zs := Lib.pow10Tab) (by kernel_rfl) (by kernel_rfl) Tryd.underlying122 Tryd.underlying102 (by kernel_rfl) (by kernel_rfl) (laid_plain (by kernel_rfl) hL) (by rw [← (show Rows.laid_internal_strconv_uint64pow10 (H := Unit) = Lib.tabData .u64 Lib.pow10Tab by kernel_rfl)]; simp [Rows.spanContentBackRow])
    exact ⟨ht, lt_of_cell (ht.cell (g := 3) (by kernel_rfl) 0 (by decide))⟩
  have herr : Bd.HasErr W := by
    have hlp := laid_plain (by kernel_rfl) hL
    obtain ⟨t1, p1, hs1⟩ := iface_mem (name := "strconv.ErrSyntax") (g := 4) (t := 60) (by kernel_rfl) (by kernel_rfl) Tryd.underlying60 hlp (by rw [show ("strconv.ErrSyntax", DataW.iface (H := Unit) _ _) = ("strconv.ErrSyntax", Rows.laid_strconv_ErrSyntax) from rfl]; simp [Rows.spanContentBackRow])
    obtain ⟨t2, p2, hs2⟩ := iface_mem (name := "strconv.ErrRange") (g := 5) (t := 60) (by kernel_rfl) (by kernel_rfl) Tryd.underlying60 hlp (by rw [show ("strconv.ErrRange", DataW.iface (H := Unit) _ _) = ("strconv.ErrRange", Rows.laid_strconv_ErrRange) from rfl]; simp [Rows.spanContentBackRow])
    exact ⟨hp10, ⟨t1, p1, hs1⟩, ⟨t2, p2, hs2⟩, lt_of_cell hs1, lt_of_cell hs2⟩
  obtain ⟨v0, vs0, d0, ds0, p0, q0, hargs, rfl, rfl, h0, r0⟩ := trodAll_cons hA
  obtain ⟨v1, vs1, d1, ds1, p1, q1, rfl, rfl, rfl, h1, r1⟩ := trodAll_cons r0
  obtain ⟨v2, vs2, d2, ds2, p2, q2, rfl, rfl, rfl, h2, r2⟩ := trodAll_cons r1
  obtain ⟨rfl, rfl, rfl⟩ := trodAll_nil r2
  obtain rfl : args = #[v0, v1, v2] := by cases args; simp_all
  obtain ⟨rfl, rfl⟩ := trodVars_none hV
  obtain ⟨b0, a0, rfl, w0, z0⟩ := open_ii Tryd.underlying23 (by kernel_rfl) (by kernel_rfl) Tryd.underlying3 Tryd.underlying3 (hval 0 23 v0 rfl rfl) h0
  obtain ⟨a1, rfl, rfl, rfl, w1⟩ := open_int Tryd.underlying3 (hval 1 3 v1 rfl rfl) h1
  obtain ⟨a2, rfl, rfl, rfl, w2⟩ := open_string Tryd.underlying9 (hval 2 9 v2 rfl rfl) h2
  have z2 : a2.size ≤ 140737488351232 := by have := sized_string hsz (j := 2) rfl rfl; simp only [reachBytes] at this; simpa using this
  refine (Spc.spanContentBack_walk b0 a0 a1 a2 W z2 herr).mono fun e W' ⟨he, bel⟩ => ?_
  subst he
  exact Frame.close Frame.laidOut Tryd.underlying4 rfl (by rw [Tryd.params3]; intro t ht; simp only [List.mem_cons, List.not_mem_nil, or_false] at ht; rcases ht with rfl | rfl | rfl <;> exact ⟨by kernel_rfl, of_decide_eq_true (by kernel_rfl)⟩) rfl hW' rfl rfl rfl bel

theorem spanContentBack_row : Rows.SpanContentBackSaid :=
  OpenClaim.holds_of_cond 3 Tryd.f3 rfl rfl rfl rfl rfl rfl rfl ⟨rfl, rfl, rfl, rfl, rfl⟩ rfl rfl rfl rfl rfl (by kernel_rfl) Tryd.func3 (by kernel_rfl)
    (of_decide_eq_true (by kernel_rfl)) (by unfold Func.isWrapper; first | (rw [if_pos (by decide +kernel)]; kernel_rfl) | (rw [if_neg (by decide +kernel)]; exact ⟨rfl, rfl⟩))
    (fun os started H enc _ F => by rw [OpenClaim.pre_eq_preRow]; exact spanContentBack_lifted os started H enc F)
theorem spanContentBack_plain (f : FuncId) (fn : Func) (hf : Tryd.pinned.checked.prog.funcNamed "larder/larderkeep.SpanContentBack" = some f) (hfn : Tryd.pinned.checked.prog.funcs[f]? = some fn) :
    true = Tryd.pinned.checked.prog.looks [] ∧ ∀ (j : Nat) t, fn.params[j]? = some t → Tryd.pinned.checked.prog.wantsStandIn t = false := by
  obtain rfl : f = 3 := Option.some.inj ((show Tryd.prog.funcNamed "larder/larderkeep.SpanContentBack" = some 3 by kernel_rfl).symm.trans hf) |>.symm
  obtain rfl : fn = Tryd.f3 := (Option.some.inj (Tryd.func3.symm.trans hfn)).symm
  refine ⟨by kernel_rfl, fun j t ht => ?_⟩
  rw [Tryd.params3] at ht
  have hm : t ∈ [23, 3, 9] := by simpa using Array.mem_of_getElem? ht
  have hall : ([23, 3, 9].all fun u => !Tryd.prog.wantsStandIn u) = true := by kernel_rfl
  exact (show Tryd.prog.wantsStandIn t = false by simpa using List.all_eq_true.1 hall t hm)
theorem spanContentBack_proved : Rows.SpanContentBackCardSaid :=
  Claim7.holds_tied_plain_at .later [] _ _ _ _ spanContentBack_row (fun _ h => by cases h) (by kernel_rfl) (fun _ h => by cases h) spanContentBack_row_tie rfl ⟨rfl, rfl⟩ (by kernel_rfl) rfl spanContentBack_plain (by kernel_rfl)
#print axioms spanContentBack_proved
end Go.Proofs.YtemknajlmocfeaaDoor
