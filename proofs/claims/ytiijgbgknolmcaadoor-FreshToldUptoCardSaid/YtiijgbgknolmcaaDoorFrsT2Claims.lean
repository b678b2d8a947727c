/- FreshTold: the given statement: for every input the law's Go text returns true and leaves its arguments as they were. where what is read is together of bulk at most 1048576 (the second form); no other condition. -/
import Derived.Test.YtiijgbgknolmcaaDoorFrsT2
import Derived.Test.YtiijgbgknolmcaaDoorFrame
import Derived.Test.YtiijgbgknolmcaaDoorOpen
import Derived.Test.YtiijgbgknolmcaaDoorCards
import Derived.Test.YtiijgbgknolmcaaDoorTie
import Derived.Test.YtiijgbgknolmcaaDoorDoor
import Derived.Test.YtiijgbgknolmcaaDoorBulk
import Derived.JoinedCond
import Derived.Test.YtiijgbgknolmcaaDoorOpenH

namespace Go.Proofs.YtiijgbgknolmcaaDoor
open Go.ChangeShapes Go.WideShapes Go.ChangeAt Go.RowKit
open Go.ChangeMaps (open_string shut_string)
set_option linter.unusedVariables false


theorem freshTold_met (os : Os) : laidMetH Tryd.prog Rows.freshToldUptoRow.laid ((World.laidAll Tryd.prog os Rows.freshToldUptoRow.laid).forCall (fun _ _ => 0) ⟨#[], #[.agg #[.string ByteArray.empty, .string ByteArray.empty, .slice none 0 0, .string ByteArray.empty, .int .i64 0, .string ByteArray.empty, .slice none 0 0, .string ByteArray.empty, .int .i64 0, .int .i64 0, .int .i64 0], .int .i64 0, .int .i64 0, .int .i64 0], []⟩).memory := by
  rw [MakeChecks.laidMetH_plain _ _ _ (by kernel_rfl)]
  exact laidMet_laidAll _ (by kernel_rfl) (by kernel_rfl)
theorem freshTold_reads (os : Os) {H : Type} (enc : TypeId × Value → H) : ∃ places, DataW.whole enc Tryd.prog ((World.laidAll Tryd.prog os Rows.freshToldUptoRow.laid).forCall (fun _ _ => 0) ⟨#[], #[.agg #[.string ByteArray.empty, .string ByteArray.empty, .slice none 0 0, .string ByteArray.empty, .int .i64 0, .string ByteArray.empty, .slice none 0 0, .string ByteArray.empty, .int .i64 0, .int .i64 0, .int .i64 0], .int .i64 0, .int .i64 0, .int .i64 0], []⟩).memory Tryd.f11.params.toList Rows.freshToldSpec.vars false (#[.agg #[.string ByteArray.empty, .string ByteArray.empty, .slice none 0 0, .string ByteArray.empty, .int .i64 0, .string ByteArray.empty, .slice none 0 0, .string ByteArray.empty, .int .i64 0, .int .i64 0, .int .i64 0], .int .i64 0, .int .i64 0, .int .i64 0] : Array Value).toList 8 = some ([.agg [.agg [.lit (.string []), .lit (.string []), .nil, .lit (.string [])], .agg [.lit (.int .i64 0), .lit (.string []), .nil, .lit (.string [])], .lit (.int .i64 0), .lit (.int .i64 0), .lit (.int .i64 0)], .lit (.int .i64 0), .lit (.int .i64 0), .lit (.int .i64 0)], [], places) :=
  ⟨[], by kernel_rfl⟩
set_option maxRecDepth 100000 in
theorem freshTold_lifted (os : Os) (started : os.Started) (H : Type) (enc : TypeId × Value → H) (F : Stop.Interp) :
    ReturnsInHanded {} Tryd.checked os 11 .any ((Rows.OpenSpec.upto Rows.freshToldSpec).preRow enc Tryd.prog Tryd.f11 Rows.freshToldUptoRow.domain false Rows.freshToldUptoRow.laid) (((Rows.OpenSpec.upto Rows.freshToldSpec).at F).post enc Tryd.prog Tryd.f11 false true false false) := by
  obtain ⟨places, hx⟩ := freshTold_reads os enc
  refine returnsInHanded_of_row (C := Tryd.checked) (s := Rows.OpenSpec.upto Rows.freshToldSpec) Frame.own started (by kernel_rfl) Tryd.func11
    (door_witness (enc := enc) (C := Tryd.checked) (fn := Tryd.f11) #[.agg #[.string ByteArray.empty, .string ByteArray.empty, .slice none 0 0, .string ByteArray.empty, .int .i64 0, .string ByteArray.empty, .slice none 0 0, .string ByteArray.empty, .int .i64 0, .int .i64 0, .int .i64 0], .int .i64 0, .int .i64 0, .int .i64 0] (by kernel_rfl) (by kernel_rfl) (by kernel_rfl)
      (OpenSpec.preRow_of_cond 8 hx (by kernel_rfl) (fun k hk => by cases hk; kernel_rfl) (by kernel_rfl) (freshTold_met os))) ?_
  intro W base args ds gs before hval0 hW hcnd hk0 hsz0 hL hshape _
  have hval : ∀ (j : Nat) t v, Tryd.f11.params[j]? = some t → args[j]? = some v → Value.okWide Tryd.prog W .any base t v := hval0
  have hW' : DataW.Whole enc Tryd.prog Tryd.f11.params.toList Rows.freshToldSpec.vars false W args.toList ds gs before := hW
  have hk := hk0 _ rfl
  obtain ⟨p, q, hA0, hV, rfl, hfz, hnd⟩ := hW
  have hA : DataW.TrodAll enc Tryd.prog W 0 (fun _ => true) true Tryd.f11.params.toList args.toList ds p := hA0
  rw [Tryd.params11] at hA hval
  have hp10 : HasP10 W := by
    have ht := tabIs_mem (name := "internal/strconv.uint64pow10") (g := 1) (t := 150) (e := 136) (n := 20) (k := .u64) (zs := Lib.pow10Tab) (by kernel_rfl) (by kernel_rfl) Tryd.underlying150 Tryd.underlying136 (by kernel_rfl) (by kernel_rfl) (laid_plain (by kernel_rfl) hL) (by rw [← (show Rows.laid_internal_strconv_uint64pow10 (H := Unit) = Lib.tabData .u64 Lib.pow10Tab by kernel_rfl)]; simp [Rows.freshToldUptoRow])
    exact ⟨ht, lt_of_cell (ht.cell (g := 1) (by kernel_rfl) 0 (by decide))⟩
  have hmax : HasMax W := by
    obtain ⟨m, hm⟩ := cell_of_shapedOpen_int (g := 0) (t := 3) (zero := #[.int .i64 0]) hshape (of_decide_eq_true (by kernel_rfl)) (by kernel_rfl) rfl (by kernel_rfl) (by kernel_rfl) Tryd.underlying3
    exact ⟨⟨m, hm⟩, lt_of_cell hm⟩
  obtain ⟨v0, vs0, d0, ds0, p0, q0, hargs, rfl, rfl, h0, r0⟩ := trodAll_cons hA
  obtain ⟨v1, vs1, d1, ds1, p1, q1, rfl, rfl, rfl, h1, r1⟩ := trodAll_cons r0
  obtain ⟨v2, vs2, d2, ds2, p2, q2, rfl, rfl, rfl, h2, r2⟩ := trodAll_cons r1
  obtain ⟨v3, vs3, d3, ds3, p3, q3, rfl, rfl, rfl, h3, r3⟩ := trodAll_cons r2
  obtain ⟨rfl, rfl, rfl⟩ := trodAll_nil r3
  obtain rfl : args = #[v0, v1, v2, v3] := by cases args; simp_all
  obtain ⟨rfl, rfl⟩ := trodVars_none hV
  obtain ⟨a0, u0, l0, rfl, s0, w0, c0, q0, m0⟩ := open_held (hval 0 44 v0 rfl rfl) h0 (Bulk.of_mem hk (by simp))
  obtain ⟨a1, rfl, rfl, rfl, w1⟩ := open_int Tryd.underlying3 (hval 1 3 v1 rfl rfl) h1
  obtain ⟨a2, rfl, rfl, rfl, w2⟩ := open_int Tryd.underlying3 (hval 2 3 v2 rfl rfl) h2
  obtain ⟨a3, rfl, rfl, rfl, w3⟩ := open_int Tryd.underlying3 (hval 3 3 v3 rfl rfl) h3
  refine (freshTold_walk a0 u0 l0 a1 a2 a3 W s0 w0 c0 q0 m0 w1 w2 w3 hmax hp10).mono fun e W' ⟨he, bel⟩ => ?_
  subst he
  exact Frame.close Frame.laidOut Tryd.underlying4 rfl (by rw [Tryd.params11]; intro t ht; simp only [List.mem_cons, List.not_mem_nil, or_false] at ht; rcases ht with rfl | rfl | rfl | rfl <;> exact ⟨by kernel_rfl, of_decide_eq_true (by kernel_rfl)⟩) rfl hW' rfl rfl rfl bel

theorem freshTold_row : Rows.FreshToldUptoSaid :=
  OpenClaim.holds_of_cond 11 Tryd.f11 rfl rfl rfl rfl rfl rfl rfl ⟨rfl, rfl, rfl, rfl, rfl⟩ rfl rfl rfl rfl rfl (by kernel_rfl) Tryd.func11 (by kernel_rfl)
    (of_decide_eq_true (by kernel_rfl)) (by unfold Func.isWrapper; first | (rw [if_pos (by decide +kernel)]; kernel_rfl) | (rw [if_neg (by decide +kernel)]; exact ⟨rfl, rfl⟩))
    (fun os started H enc _ F => by rw [OpenClaim.pre_eq_preRow]; exact freshTold_lifted os started H enc F)
theorem freshTold_plain (f : FuncId) (fn : Func) (hf : Tryd.pinned.checked.prog.funcNamed "larder/larderkeep.FreshTold" = some f) (hfn : Tryd.pinned.checked.prog.funcs[f]? = some fn) :
    false = Tryd.pinned.checked.prog.looks [] ∧ ∀ (j : Nat) t, fn.params[j]? = some t → Tryd.pinned.checked.prog.wantsStandIn t = false := by
  obtain rfl : f = 11 := Option.some.inj ((show Tryd.prog.funcNamed "larder/larderkeep.FreshTold" = some 11 by kernel_rfl).symm.trans hf) |>.symm
  obtain rfl : fn = Tryd.f11 := (Option.some.inj (Tryd.func11.symm.trans hfn)).symm
  refine ⟨by kernel_rfl, fun j t ht => ?_⟩
  rw [Tryd.params11] at ht
  have hm : t ∈ [44, 3, 3, 3] := by simpa using Array.mem_of_getElem? ht
  have hall : ([44, 3, 3, 3].all fun u => !Tryd.prog.wantsStandIn u) = true := by kernel_rfl
  exact (show Tryd.prog.wantsStandIn t = false by simpa using List.all_eq_true.1 hall t hm)
theorem freshTold_proved : Rows.FreshToldUptoCardSaid :=
  Claim7.holds_tied_plain_at .later [] _ _ _ _ freshTold_row (fun _ h => by cases h) (by kernel_rfl) (fun _ h => by cases h) freshToldUpto_row_tie rfl ⟨rfl, rfl⟩ (by kernel_rfl) rfl freshTold_plain (by kernel_rfl)
#print axioms freshTold_proved
end Go.Proofs.YtiijgbgknolmcaaDoor
