/- VaryNames: the given statement: for every input the law's Go text returns true and leaves its arguments as they were. where what is read is together of bulk at most 1048576 (the second form); no other condition. -/
import Derived.Test.YthocoplaehbncaaDoorVaryN
import Derived.Test.YthocoplaehbncaaDoorFrame
import Derived.Test.YthocoplaehbncaaDoorOpen
import Derived.Test.YthocoplaehbncaaDoorCards
import Derived.Test.YthocoplaehbncaaDoorTie
import Derived.Test.YthocoplaehbncaaDoorDoor
import Derived.Test.YthocoplaehbncaaDoorBulk
import Derived.JoinedCond

namespace Go.Proofs.YthocoplaehbncaaDoor
open Go.ChangeShapes Go.WideShapes Go.ChangeAt Go.RowKit
open Go.ChangeMaps (open_string shut_string)
set_option linter.unusedVariables false


theorem varyNames_met (os : Os) : laidMetH Tryd.prog Rows.varyNamesUptoRow.laid ((World.laidAll Tryd.prog os Rows.varyNamesUptoRow.laid).forCall (fun _ _ => 0) ⟨#[], #[.slice none 0 0], []⟩).memory := by
  rw [MakeChecks.laidMetH_plain _ _ _ (by kernel_rfl)]
  exact laidMet_laidAll _ (by kernel_rfl) (by kernel_rfl)
theorem varyNames_reads (os : Os) {H : Type} (enc : TypeId × Value → H) : ∃ places, DataW.whole enc Tryd.prog ((World.laidAll Tryd.prog os Rows.varyNamesUptoRow.laid).forCall (fun _ _ => 0) ⟨#[], #[.slice none 0 0], []⟩).memory Tryd.f3.params.toList Rows.varyNamesSpec.vars false (#[.slice none 0 0] : Array Value).toList 8 = some ([.nil], [], places) :=
  ⟨[], by kernel_rfl⟩
set_option maxRecDepth 100000 in
theorem varyNames_lifted (os : Os) (started : os.Started) (H : Type) (enc : TypeId × Value → H) (F : Stop.Interp) :
    ReturnsInHanded {} Tryd.checked os 3 .any ((Rows.OpenSpec.upto Rows.varyNamesSpec).preRow enc Tryd.prog Tryd.f3 Rows.varyNamesUptoRow.domain false Rows.varyNamesUptoRow.laid) (((Rows.OpenSpec.upto Rows.varyNamesSpec).at F).post enc Tryd.prog Tryd.f3 false true false false) := by
  obtain ⟨places, hx⟩ := varyNames_reads os enc
  refine returnsInHanded_of_row (C := Tryd.checked) (s := Rows.OpenSpec.upto Rows.varyNamesSpec) Frame.own started (by kernel_rfl) Tryd.func3
    (door_witness (enc := enc) (C := Tryd.checked) (fn := Tryd.f3) #[.slice none 0 0] (by kernel_rfl) (by kernel_rfl) (by kernel_rfl)
      (OpenSpec.preRow_of_cond 8 hx (by kernel_rfl) (fun k hk => by cases hk; kernel_rfl) (by kernel_rfl) (varyNames_met os))) ?_
  intro W base args ds gs before hval0 hW hcnd hk0 hsz0 hL hshape _
  have hval : ∀ (j : Nat) t v, Tryd.f3.params[j]? = some t → args[j]? = some v → Value.okWide Tryd.prog W .any base t v := hval0
  have hW' : DataW.Whole enc Tryd.prog Tryd.f3.params.toList Rows.varyNamesSpec.vars false W args.toList ds gs before := hW
  have hk := hk0 _ rfl
  obtain ⟨p, q, hA0, hV, rfl, hfz, hnd⟩ := hW
  have hA : DataW.TrodAll enc Tryd.prog W 0 (fun _ => true) true Tryd.f3.params.toList args.toList ds p := hA0
  rw [Tryd.params3] at hA hval
  obtain ⟨v0, vs0, d0, ds0, p0, q0, hargs, rfl, rfl, h0, r0⟩ := trodAll_cons hA
  obtain ⟨rfl, rfl, rfl⟩ := trodAll_nil r0
  obtain rfl : args = #[v0] := by cases args; simp_all
  obtain ⟨rfl, rfl⟩ := trodVars_none hV
  obtain ⟨a0, s0, w0⟩ := open_sss Tryd.underlying22 Tryd.underlying28 (by kernel_rfl) (by kernel_rfl) Tryd.underlying9 Tryd.underlying9 (hval 0 22 v0 rfl rfl) h0 (Bulk.of_mem hk (by simp))
  refine (varyNames_walk v0 a0 W s0 w0).mono fun e W' ⟨he, bel⟩ => ?_
  subst he
  exact Frame.close Frame.laidOut Tryd.underlying4 rfl (by rw [Tryd.params3]; intro t ht; simp only [List.mem_cons, List.not_mem_nil, or_false] at ht; rcases ht with rfl <;> exact ⟨by kernel_rfl, of_decide_eq_true (by kernel_rfl)⟩) rfl hW' rfl rfl rfl bel

theorem varyNames_row : Rows.VaryNamesUptoSaid :=
  OpenClaim.holds_of_cond 3 Tryd.f3 rfl rfl rfl rfl rfl rfl rfl ⟨rfl, rfl, rfl, rfl, rfl⟩ rfl rfl rfl rfl rfl (by kernel_rfl) Tryd.func3 (by kernel_rfl)
    (of_decide_eq_true (by kernel_rfl)) (by unfold Func.isWrapper; first | (rw [if_pos (by decide +kernel)]; kernel_rfl) | (rw [if_neg (by decide +kernel)]; exact ⟨rfl, rfl⟩))
    (fun os started H enc _ F => by rw [OpenClaim.pre_eq_preRow]; exact varyNames_lifted os started H enc F)
theorem varyNames_plain (f : FuncId) (fn : Func) (hf : Tryd.pinned.checked.prog.funcNamed "larder/larderkeep.VaryNames" = some f) (hfn : Tryd.pinned.checked.prog.funcs[f]? = some fn) :
    true = Tryd.pinned.checked.prog.looks [] ∧ ∀ (j : Nat) t, fn.params[j]? = some t → Tryd.pinned.checked.prog.wantsStandIn t = false := by
  obtain rfl : f = 3 := Option.some.inj ((show Tryd.prog.funcNamed "larder/larderkeep.VaryNames" = some 3 by kernel_rfl).symm.trans hf) |>.symm
  obtain rfl : fn = Tryd.f3 := (Option.some.inj (Tryd.func3.symm.trans hfn)).symm
  refine ⟨by kernel_rfl, fun j t ht => ?_⟩
  rw [Tryd.params3] at ht
  have hm : t ∈ [22] := by simpa using Array.mem_of_getElem? ht
  have hall : ([22].all fun u => !Tryd.prog.wantsStandIn u) = true := by kernel_rfl
  exact (show Tryd.prog.wantsStandIn t = false by simpa using List.all_eq_true.1 hall t hm)
theorem varyNames_proved : Rows.VaryNamesUptoCardSaid :=
  Claim7.holds_tied_plain_at .later [] _ _ _ _ varyNames_row (fun _ h => by cases h) (by kernel_rfl) (fun _ h => by cases h) varyNamesUpto_row_tie rfl ⟨rfl, rfl⟩ (by kernel_rfl) rfl varyNames_plain (by kernel_rfl)
#print axioms varyNames_proved
end Go.Proofs.YthocoplaehbncaaDoor
