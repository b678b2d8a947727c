/- FieldShort: the given statement: for every input the law's Go text returns true and leaves its arguments as they were. No condition. -/
import Derived.Test.YtdoeipjcohkbeaaDoorFldZ
import Derived.Test.YtdoeipjcohkbeaaDoorFrame
import Derived.Test.YtdoeipjcohkbeaaDoorOpen
import Derived.Test.YtdoeipjcohkbeaaDoorCards
import Derived.Test.YtdoeipjcohkbeaaDoorTie
import Derived.Test.YtdoeipjcohkbeaaDoorDoor
import Derived.Test.YtdoeipjcohkbeaaDoorOpenR

namespace Go.Proofs.YtdoeipjcohkbeaaDoor
open Go.ChangeShapes Go.WideShapes Go.ChangeAt Go.RowKit
open Go.ChangeMaps (open_string shut_string)
set_option linter.unusedVariables false


theorem fieldShort_met (os : Os) : laidMetH Tryd.prog Rows.fieldShortRow.laid ((World.laidAll Tryd.prog os Rows.fieldShortRow.laid).forCall (fun _ _ => 0) ⟨#[], #[.slice none 0 0, .int .i64 0], []⟩).memory := by
  rw [MakeChecks.laidMetH_plain _ _ _ (by kernel_rfl)]
  exact laidMet_laidAll _ (by kernel_rfl) (by kernel_rfl)
theorem fieldShort_reads (os : Os) {H : Type} (enc : TypeId × Value → H) : ∃ places, DataW.whole enc Tryd.prog ((World.laidAll Tryd.prog os Rows.fieldShortRow.laid).forCall (fun _ _ => 0) ⟨#[], #[.slice none 0 0, .int .i64 0], []⟩).memory Tryd.f7.params.toList Rows.fieldShortSpec.vars false (#[.slice none 0 0, .int .i64 0] : Array Value).toList 8 = some ([.nil, .lit (.int .i64 0)], [], places) :=
  ⟨[], by kernel_rfl⟩
set_option maxRecDepth 100000 in
theorem fieldShort_lifted (os : Os) (started : os.Started) (H : Type) (enc : TypeId × Value → H) (F : Stop.Interp) :
    ReturnsInHanded {} Tryd.checked os 7 .any ((OpenSpec.ofChange Rows.fieldShortSpec).preRow enc Tryd.prog Tryd.f7 Rows.fieldShortRow.domain false Rows.fieldShortRow.laid) (((OpenSpec.ofChange Rows.fieldShortSpec).at F).post enc Tryd.prog Tryd.f7 false true false false) := by
  obtain ⟨places, hx⟩ := fieldShort_reads os enc
  refine returnsInHanded_of_row (C := Tryd.checked) (s := OpenSpec.ofChange Rows.fieldShortSpec) Frame.own started (by kernel_rfl) Tryd.func7
    (door_witness (enc := enc) (C := Tryd.checked) (fn := Tryd.f7) #[.slice none 0 0, .int .i64 0] (by kernel_rfl) (by kernel_rfl) (by kernel_rfl)
      (OpenSpec.preRow_of_cond 8 hx (by kernel_rfl) (fun k hk => by cases hk) (by kernel_rfl) (fieldShort_met os))) ?_
  intro W base args ds gs before hval0 hW hcnd hk0 hsz0 hL hshape _
  have hval : ∀ (j : Nat) t v, Tryd.f7.params[j]? = some t → args[j]? = some v → Value.okWide Tryd.prog W .any base t v := hval0
  have hW' : DataW.Whole enc Tryd.prog Tryd.f7.params.toList Rows.fieldShortSpec.vars false W args.toList ds gs before := hW
  have hsz : (DataW.weightsEach Tryd.prog (Tryd.f7.params.toList ++ Rows.fieldShortSpec.plain.varTypes Tryd.prog) (ds ++ gs)).all (· ≤ reachBytes) = true := hsz0
  obtain ⟨p, q, hA0, hV, rfl, hfz, hnd⟩ := hW
  have hA : DataW.TrodAll enc Tryd.prog W 0 (fun _ => true) true Tryd.f7.params.toList args.toList ds p := hA0
  rw [Tryd.params7] at hA hval hsz
  have hmax : HasMax W := by
    obtain ⟨m, hm⟩ := cell_of_shapedOpen_int (g := 5) (t := 3) (zero := #[.int .i64 0]) hshape (of_decide_eq_true (by kernel_rfl)) (by kernel_rfl) rfl (by kernel_rfl) (by kernel_rfl) Tryd.underlying3
    exact ⟨⟨m, hm⟩, lt_of_cell hm⟩
  obtain ⟨v0, vs0, d0, ds0, p0, q0, hargs, rfl, rfl, h0, r0⟩ := trodAll_cons hA
  obtain ⟨v1, vs1, d1, ds1, p1, q1, rfl, rfl, rfl, h1, r1⟩ := trodAll_cons r0
  obtain ⟨rfl, rfl, rfl⟩ := trodAll_nil r1
  obtain rfl : args = #[v0, v1] := by cases args; simp_all
  obtain ⟨rfl, rfl⟩ := trodVars_none hV
  have y0 : ∀ es sp, d0 = .slice es sp → (es.length + sp.length) * 32 ≤ 140737488351232 := fun es sp hd => by have := sized_slice hsz (j := 0) rfl (by rw [hd]; rfl) Tryd.underlying32; rw [show (Tryd.prog).bytesOf 37 = 32 from by kernel_rfl] at this; simpa only [reachBytes] using this
  have x0 : ∀ es sp, d0 = .slice es sp → ∀ x ∈ es, ∀ b0 b1, x = .agg [.lit (.string b0), .lit (.string b1)] → b0.length ≤ 140737488351232 ∧ b1.length ≤ 140737488351232 := fun es sp hd => sized_ss hsz (j := 0) (sp := sp) rfl (by rw [hd]; rfl) Tryd.underlying32 Tryd.underlying37
  obtain ⟨a0, s0, z0, w0⟩ := open_ssr Tryd.underlying32 Tryd.underlying37 (by kernel_rfl) (by kernel_rfl) Tryd.underlying9 Tryd.underlying9 (hval 0 32 v0 rfl rfl) h0 y0 x0
  obtain ⟨a1, rfl, rfl, rfl, w1⟩ := open_int Tryd.underlying3 (hval 1 3 v1 rfl rfl) h1
  refine (fieldShort_walk v0 a0 a1 W s0 z0 w0 w1 hmax).mono fun e W' ⟨he, bel⟩ => ?_
  subst he
  exact Frame.close Frame.laidOut Tryd.underlying4 rfl (by rw [Tryd.params7]; intro t ht; simp only [List.mem_cons, List.not_mem_nil, or_false] at ht; rcases ht with rfl | rfl <;> exact ⟨by kernel_rfl, of_decide_eq_true (by kernel_rfl)⟩) rfl hW' rfl rfl rfl bel

theorem fieldShort_row : Rows.FieldShortSaid :=
  OpenClaim.holds_of_cond 7 Tryd.f7 rfl rfl rfl rfl rfl rfl rfl ⟨rfl, rfl, rfl, rfl, rfl⟩ rfl rfl rfl rfl rfl (by kernel_rfl) Tryd.func7 (by kernel_rfl)
    (of_decide_eq_true (by kernel_rfl)) (by unfold Func.isWrapper; first | (rw [if_pos (by decide +kernel)]; kernel_rfl) | (rw [if_neg (by decide +kernel)]; exact ⟨rfl, rfl⟩))
    (fun os started H enc _ F => by rw [OpenClaim.pre_eq_preRow]; exact fieldShort_lifted os started H enc F)
theorem fieldShort_plain (f : FuncId) (fn : Func) (hf : Tryd.pinned.checked.prog.funcNamed "larder/larderkeep.FieldShort" = some f) (hfn : Tryd.pinned.checked.prog.funcs[f]? = some fn) :
    false = Tryd.pinned.checked.prog.looks [] ∧ ∀ (j : Nat) t, fn.params[j]? = some t → Tryd.pinned.checked.prog.wantsStandIn t = false := by
  obtain rfl : f = 7 := Option.some.inj ((show Tryd.prog.funcNamed "larder/larderkeep.FieldShort" = some 7 by kernel_rfl).symm.trans hf) |>.symm
  obtain rfl : fn = Tryd.f7 := (Option.some.inj (Tryd.func7.symm.trans hfn)).symm
  refine ⟨by kernel_rfl, fun j t ht => ?_⟩
  rw [Tryd.params7] at ht
  have hm : t ∈ [32, 3] := by simpa using Array.mem_of_getElem? ht
  have hall : ([32, 3].all fun u => !Tryd.prog.wantsStandIn u) = true := by kernel_rfl
  exact (show Tryd.prog.wantsStandIn t = false by simpa using List.all_eq_true.1 hall t hm)
theorem fieldShort_proved : Rows.FieldShortCardSaid :=
  Claim7.holds_tied_plain_at .later [] _ _ _ _ fieldShort_row (fun _ h => by cases h) (by kernel_rfl) (fun _ h => by cases h) fieldShort_row_tie rfl ⟨rfl, rfl⟩ (by kernel_rfl) rfl fieldShort_plain (by kernel_rfl)
#print axioms fieldShort_proved
end Go.Proofs.YtdoeipjcohkbeaaDoor
