/- TokenLowers: the given statement: for every input the law's Go text returns true and leaves its arguments as they were. No condition. -/
import Derived.Test.YthhhlaoiampinaaDoorTokLow
import Derived.Test.YthhhlaoiampinaaDoorFrame
import Derived.Test.YthhhlaoiampinaaDoorOpen
import Derived.Test.YthhhlaoiampinaaDoorCards
import Derived.Test.YthhhlaoiampinaaDoorTie
import Derived.Test.YthhhlaoiampinaaDoorDoor

namespace Go.Proofs.YthhhlaoiampinaaDoor
open Go.ChangeShapes Go.WideShapes Go.ChangeAt Go.RowKit
open Go.ChangeMaps (open_string shut_string)
set_option linter.unusedVariables false


theorem tokenLowers_met (os : Os) : laidMetH Tryd.prog Rows.tokenLowersRow.laid ((World.laidAll Tryd.prog os Rows.tokenLowersRow.laid).forCall (fun _ _ => 0) ⟨#[], #[.string ByteArray.empty], []⟩).memory := by
  rw [MakeChecks.laidMetH_plain _ _ _ (by kernel_rfl)]
  exact laidMet_laidAll _ (by kernel_rfl) (by kernel_rfl)
theorem tokenLowers_reads (os : Os) {H : Type} (enc : TypeId × Value → H) : ∃ places, DataW.whole enc Tryd.prog ((World.laidAll Tryd.prog os Rows.tokenLowersRow.laid).forCall (fun _ _ => 0) ⟨#[], #[.string ByteArray.empty], []⟩).memory Tryd.f5.params.toList Rows.tokenLowersSpec.vars false (#[.string ByteArray.empty] : Array Value).toList 8 = some ([.lit (.string [])], [], places) :=
  ⟨[], by kernel_rfl⟩
set_option maxRecDepth 100000 in
theorem tokenLowers_lifted (os : Os) (started : os.Started) (H : Type) (enc : TypeId × Value → H) (F : Stop.Interp) :
    ReturnsInHanded {} Tryd.checked os 5 .any ((OpenSpec.ofChange Rows.tokenLowersSpec).preRow enc Tryd.prog Tryd.f5 Rows.tokenLowersRow.domain false Rows.tokenLowersRow.laid) (((OpenSpec.ofChange Rows.tokenLowersSpec).at F).post enc Tryd.prog Tryd.f5 false true false false) := by
  obtain ⟨places, hx⟩ := tokenLowers_reads os enc
  refine returnsInHanded_of_row (C := Tryd.checked) (s := OpenSpec.ofChange Rows.tokenLowersSpec) Frame.own started (by kernel_rfl) Tryd.func5
    (door_witness (enc := enc) (C := Tryd.checked) (fn := Tryd.f5) #[.string ByteArray.empty] (by kernel_rfl) (by kernel_rfl) (by kernel_rfl)
      (OpenSpec.preRow_of_cond 8 hx (by kernel_rfl) (fun k hk => by cases hk) (by kernel_rfl) (tokenLowers_met os))) ?_
  intro W base args ds gs before hval0 hW hcnd hk0 hsz0 hL hshape _
  have hval : ∀ (j : Nat) t v, Tryd.f5.params[j]? = some t → args[j]? = some v → Value.okWide Tryd.prog W .any base t v := hval0
  have hW' : DataW.Whole enc Tryd.prog Tryd.f5.params.toList Rows.tokenLowersSpec.vars false W args.toList ds gs before := hW
  have hsz : (DataW.weightsEach Tryd.prog (Tryd.f5.params.toList ++ Rows.tokenLowersSpec.plain.varTypes Tryd.prog) (ds ++ gs)).all (· ≤ reachBytes) = true := hsz0
  obtain ⟨p, q, hA0, hV, rfl, hfz, hnd⟩ := hW
  have hA : DataW.TrodAll enc Tryd.prog W 0 (fun _ => true) true Tryd.f5.params.toList args.toList ds p := hA0
  rw [Tryd.params5] at hA hval hsz
  have hu8 : HasU8 W := by
    have hlp := laid_plain (by kernel_rfl) hL
    have h3 := Lib.laidMet.reads hlp (show ("unicode/utf8.first", Lib.firstData) ∈ Rows.tokenLowersRow.laid by rw [← (show Rows.laid_unicode_utf8_first = Lib.firstData by kernel_rfl)]; simp [Rows.tokenLowersRow])
    have h4 := Lib.laidMet.reads hlp (show ("unicode/utf8.acceptRanges", Lib.acceptData) ∈ Rows.tokenLowersRow.laid by rw [← (show Rows.laid_unicode_utf8_acceptRanges = Lib.acceptData by kernel_rfl)]; simp [Rows.tokenLowersRow])
    have hT := utf8Tabs_of_reads (ρ := Tryd.lays197_ren) { Tryd.lays197 with } ⟨by kernel_rfl, by kernel_rfl, by kernel_rfl, by kernel_rfl, by kernel_rfl, by kernel_rfl, by kernel_rfl⟩ h3 h4
    exact ⟨hT, lt_of_cell (hT.1 0 (by decide)), lt_of_cell (hT.2 0 (by decide)).1⟩
  obtain ⟨v0, vs0, d0, ds0, p0, q0, hargs, rfl, rfl, h0, r0⟩ := trodAll_cons hA
  obtain ⟨rfl, rfl, rfl⟩ := trodAll_nil r0
  obtain rfl : args = #[v0] := by cases args; simp_all
  obtain ⟨rfl, rfl⟩ := trodVars_none hV
  obtain ⟨a0, rfl, rfl, rfl, w0⟩ := open_string Tryd.underlying9 (hval 0 9 v0 rfl rfl) h0
  have z0 : a0.size ≤ 140737488351232 := by have := sized_string hsz (j := 0) rfl rfl; simp only [reachBytes] at this; simpa using this
  refine (tokenLowers_walk a0 W z0 hu8).mono fun e W' ⟨he, bel⟩ => ?_
  subst he
  exact Frame.close Frame.laidOut Tryd.underlying4 rfl (by rw [Tryd.params5]; intro t ht; simp only [List.mem_cons, List.not_mem_nil, or_false] at ht; rcases ht with rfl <;> exact ⟨by kernel_rfl, of_decide_eq_true (by kernel_rfl)⟩) rfl hW' rfl rfl rfl bel

theorem tokenLowers_row : Rows.TokenLowersSaid :=
  OpenClaim.holds_of_cond 5 Tryd.f5 rfl rfl rfl rfl rfl rfl rfl ⟨rfl, rfl, rfl, rfl, rfl⟩ rfl rfl rfl rfl rfl (by kernel_rfl) Tryd.func5 (by kernel_rfl)
    (of_decide_eq_true (by kernel_rfl)) (by unfold Func.isWrapper; first | (rw [if_pos (by decide +kernel)]; kernel_rfl) | (rw [if_neg (by decide +kernel)]; exact ⟨rfl, rfl⟩))
    (fun os started H enc _ F => by rw [OpenClaim.pre_eq_preRow]; exact tokenLowers_lifted os started H enc F)
theorem tokenLowers_plain (f : FuncId) (fn : Func) (hf : Tryd.pinned.checked.prog.funcNamed "larder/larderkeep.TokenLowers" = some f) (hfn : Tryd.pinned.checked.prog.funcs[f]? = some fn) :
    true = Tryd.pinned.checked.prog.looks [] ∧ ∀ (j : Nat) t, fn.params[j]? = some t → Tryd.pinned.checked.prog.wantsStandIn t = false := by
  obtain rfl : f = 5 := Option.some.inj ((show Tryd.prog.funcNamed "larder/larderkeep.TokenLowers" = some 5 by kernel_rfl).symm.trans hf) |>.symm
  obtain rfl : fn = Tryd.f5 := (Option.some.inj (Tryd.func5.symm.trans hfn)).symm
  refine ⟨by kernel_rfl, fun j t ht => ?_⟩
  rw [Tryd.params5] at ht
  have hm : t ∈ [9] := by simpa using Array.mem_of_getElem? ht
  have hall : ([9].all fun u => !Tryd.prog.wantsStandIn u) = true := by kernel_rfl
  exact (show Tryd.prog.wantsStandIn t = false by simpa using List.all_eq_true.1 hall t hm)
theorem tokenLowers_proved : Rows.TokenLowersCardSaid :=
  Claim7.holds_tied_plain_at .later [] _ _ _ _ tokenLowers_row (fun _ h => by cases h) (by kernel_rfl) (fun _ h => by cases h) tokenLowers_row_tie rfl ⟨rfl, rfl⟩ (by kernel_rfl) rfl tokenLowers_plain (by kernel_rfl)
#print axioms tokenLowers_proved
end Go.Proofs.YthhhlaoiampinaaDoor
