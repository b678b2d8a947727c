import Derived.Test.YtgnblkmpoigejaaGreatDoorU27
import Derived.Test.YtgnblkmpoigejaaGreatDoorU28
import Derived.Test.YtgnblkmpoigejaaGreatDoorU10
import Derived.Test.YtgnblkmpoigejaaGreatDoorCards
import Derived.Test.YtgnblkmpoigejaaGreatDoorTie
import Derived.Test.YtgnblkmpoigejaaGreatDoorU25
import Derived.JoinedCond
set_option linter.unusedVariables false
set_option linter.unusedSimpArgs false
/- OwnCaches: the given statement: for every input the law's Go text returns true and leaves its arguments as they were. where what is read is together of bulk at most 1048576 (the second form); no other condition. -/

namespace Go.Proofs.YtgnblkmpoigejaaGreatDoor
open Go.ChangeShapes Go.WideShapes Go.ChangeAt Go.RowKit
open Go.ChangeMaps (open_string shut_string)
set_option linter.unusedVariables false


theorem ownCaches_met (os : Os) : laidMetH Tryz.prog Rows.ownCachesUptoRow.laid ((World.laidAll Tryz.prog os Rows.ownCachesUptoRow.laid).forCall (fun _ _ => 0) ⟨#[], #[.slice none 0 0], []⟩).memory := by
 rw [MakeChecks.laidMetH_plain _ _ _ (by kernel_rfl)]
 exact laidMet_laidAll _ (by kernel_rfl) (by kernel_rfl)
theorem ownCaches_reads (os : Os) {H : Type} (enc : TypeId × Value → H) : ∃ places, DataW.whole enc Tryz.prog ((World.laidAll Tryz.prog os Rows.ownCachesUptoRow.laid).forCall (fun _ _ => 0) ⟨#[], #[.slice none 0 0], []⟩).memory Tryz.f8.params.toList Rows.ownCachesSpec.vars false (#[.slice none 0 0] : Array Value).toList 8 = some ([.nil], [], places) :=
 ⟨[], by kernel_rfl⟩
set_option maxRecDepth 100000 in
theorem ownCaches_lifted (os : Os) (started : os.Started) (H : Type) (enc : TypeId × Value → H) (F : Stop.Interp) :
  ReturnsInHanded {} Tryz.checked os 8 .any ((Rows.OpenSpec.upto Rows.ownCachesSpec).preRow enc Tryz.prog Tryz.f8 Rows.ownCachesUptoRow.domain false Rows.ownCachesUptoRow.laid) (((Rows.OpenSpec.upto Rows.ownCachesSpec).at F).post enc Tryz.prog Tryz.f8 false true false false) := by
 obtain ⟨places, hx⟩ := ownCaches_reads os enc
 refine returnsInHanded_of_row (C := Tryz.checked) (s := Rows.OpenSpec.upto Rows.ownCachesSpec) Frame.own started (by kernel_rfl) Tryz.func8
  (door_witness (enc := enc) (C := Tryz.checked) (fn := Tryz.f8) #[.slice none 0 0] (by kernel_rfl) (by kernel_rfl) (by kernel_rfl)
   (OpenSpec.preRow_of_cond 8 hx (by kernel_rfl) (fun k hk => by cases hk; kernel_rfl) (by kernel_rfl) (ownCaches_met os))) ?_
 intro W base args ds gs before hval0 hW hcnd hk0 hsz0 hL hshape _
 have hval : ∀ (j : Nat) t v, Tryz.f8.params[j]? = some t → args[j]? = some v → Value.okWide Tryz.prog W .any base t v := hval0
 have hW' : DataW.Whole enc Tryz.prog Tryz.f8.params.toList Rows.ownCachesSpec.vars false W args.toList ds gs before := hW
 have hk := hk0 _ rfl
 obtain ⟨p, q, hA0, hV, rfl, hfz, hnd⟩ := hW
 have hA : DataW.TrodAll enc Tryz.prog W 0 (fun _ => true) true Tryz.f8.params.toList args.toList ds p := hA0
 rw [Tryz.params8] at hA hval
 have hp10 : HasP10 W := by
  have ht := tabIs_mem (name := "internal/strconv.uint64pow10") (g := 1) (t := 258) (e := 210) (n := 20) (k := .u64) (zs := Lib.pow10Tab) (by kernel_rfl) (by kernel_rfl) Tryz.underlying258 Tryz.underlying210 (by kernel_rfl) (by kernel_rfl) (laid_plain (by kernel_rfl) hL) (by rw [← (show Rows.laid_internal_strconv_uint64pow10 (H := Unit) = Lib.tabData .u64 Lib.pow10Tab by kernel_rfl)]; simp [Rows.ownCachesUptoRow])
  exact ⟨ht, lt_of_cell (ht.cell (g := 1) (by kernel_rfl) 0 (by decide))⟩
 have hmax : HasMax W := by
  obtain ⟨m, hm⟩ := cell_of_shapedOpen_int (g := 0) (t := 3) (zero := #[.int .i64 0]) hshape (of_decide_eq_true (by kernel_rfl)) (by kernel_rfl) rfl (by kernel_rfl) (by kernel_rfl) Tryz.underlying3
  exact ⟨⟨m, hm⟩, lt_of_cell hm⟩
 obtain ⟨v0, vs0, d0, ds0, p0, q0, hargs, rfl, rfl, h0, r0⟩ := trodAll_cons hA
 obtain ⟨rfl, rfl, rfl⟩ := trodAll_nil r0
 obtain rfl : args = #[v0] := by cases args; simp_all
 obtain ⟨rfl, rfl⟩ := trodVars_none hV
 obtain ⟨a0, s0, z0, q0⟩ := open_stq (hval 0 22 v0 rfl rfl) h0 (Bulk.of_mem hk (by simp))
 refine (Ca.ownCaches_walk v0 a0 W s0 q0 z0 hmax hp10).mono fun e W' ⟨he, bel⟩ => ?_
 subst he
 exact Frame.close Frame.laidOut Tryz.underlying4 rfl (by rw [Tryz.params8]; intro t ht; simp only [List.mem_cons, List.not_mem_nil, or_false] at ht; rcases ht with rfl <;> exact ⟨by kernel_rfl, of_decide_eq_true (by kernel_rfl)⟩) rfl hW' rfl rfl rfl bel

theorem ownCaches_row : Rows.OwnCachesUptoSaid :=
 OpenClaim.holds_of_cond 8 Tryz.f8 rfl rfl rfl rfl rfl rfl rfl ⟨rfl, rfl, rfl, rfl, rfl⟩ rfl rfl rfl rfl rfl (by kernel_rfl) Tryz.func8 (by kernel_rfl)
  (of_decide_eq_true (by kernel_rfl)) (by unfold Func.isWrapper; first | (rw [if_pos (by decide +kernel)]; kernel_rfl) | (rw [if_neg (by decide +kernel)]; exact ⟨rfl, rfl⟩))
  (fun os started H enc _ F => by rw [OpenClaim.pre_eq_preRow]; exact ownCaches_lifted os started H enc F)
theorem ownCaches_plain (f : FuncId) (fn : Func) (hf : Tryz.pinned.checked.prog.funcNamed "larder/larderkeep.OwnCaches" = some f) (hfn : Tryz.pinned.checked.prog.funcs[f]? = some fn) :
  true = Tryz.pinned.checked.prog.looks [] ∧ ∀ (j : Nat) t, fn.params[j]? = some t → Tryz.pinned.checked.prog.wantsStandIn t = false := by
 obtain rfl : f = 8 := Option.some.inj ((show Tryz.prog.funcNamed "larder/larderkeep.OwnCaches" = some 8 by kernel_rfl).symm.trans hf) |>.symm
 obtain rfl : fn = Tryz.f8 := (Option.some.inj (Tryz.func8.symm.trans hfn)).symm
 refine ⟨by kernel_rfl, fun j t ht => ?_⟩
 rw [Tryz.params8] at ht
 have hm : t ∈ [22] := by simpa using Array.mem_of_getElem? ht
 have hall : ([22].all fun u => !Tryz.prog.wantsStandIn u) = true := by kernel_rfl
 exact (show Tryz.prog.wantsStandIn t = false by simpa using List.all_eq_true.1 hall t hm)
theorem ownCaches_proved : Rows.OwnCachesUptoCardSaid :=
 Claim7.holds_tied_plain_at .later [] _ _ _ _ ownCaches_row (fun _ h => by cases h) (by kernel_rfl) (fun _ h => by cases h) ownCachesUpto_row_tie rfl ⟨rfl, rfl⟩ (by kernel_rfl) rfl ownCaches_plain (by kernel_rfl)
#print axioms ownCaches_proved
end Go.Proofs.YtgnblkmpoigejaaGreatDoor
