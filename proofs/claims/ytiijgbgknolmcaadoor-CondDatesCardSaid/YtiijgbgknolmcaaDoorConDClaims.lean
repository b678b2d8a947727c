/- CondDates: the given statement: for every input the law's Go text returns true and leaves its arguments as they were. No condition. -/
import Derived.Test.YtiijgbgknolmcaaDoorConD
import Derived.Test.YtiijgbgknolmcaaDoorFrame
import Derived.Test.YtiijgbgknolmcaaDoorOpen
import Derived.Test.YtiijgbgknolmcaaDoorCards
import Derived.Test.YtiijgbgknolmcaaDoorTie
import Derived.Test.YtiijgbgknolmcaaDoorDoor
import Derived.Test.YtiijgbgknolmcaaDoorOpenR

namespace Go.Proofs.YtiijgbgknolmcaaDoor
open Go.ChangeShapes Go.WideShapes Go.ChangeAt Go.RowKit
open Go.ChangeMaps (open_string shut_string)
set_option linter.unusedVariables false


theorem condDates_met (os : Os) : laidMetH Tryd.prog Rows.condDatesRow.laid ((World.laidAll Tryd.prog os Rows.condDatesRow.laid).forCall (fun _ _ => 0) ⟨#[], #[.string ByteArray.empty, .slice none 0 0, .int .i64 0, .int .i64 0], []⟩).memory := by
  rw [MakeChecks.laidMetH_plain _ _ _ (by kernel_rfl)]
  exact laidMet_laidAll _ (by kernel_rfl) (by kernel_rfl)
theorem condDates_reads (os : Os) {H : Type} (enc : TypeId × Value → H) : ∃ places, DataW.whole enc Tryd.prog ((World.laidAll Tryd.prog os Rows.condDatesRow.laid).forCall (fun _ _ => 0) ⟨#[], #[.string ByteArray.empty, .slice none 0 0, .int .i64 0, .int .i64 0], []⟩).memory Tryd.f7.params.toList Rows.condDatesSpec.vars false (#[.string ByteArray.empty, .slice none 0 0, .int .i64 0, .int .i64 0] : Array Value).toList 8 = some ([.lit (.string []), .nil, .lit (.int .i64 0), .lit (.int .i64 0)], [], places) :=
  ⟨[], by kernel_rfl⟩
set_option maxRecDepth 100000 in
theorem condDates_lifted (os : Os) (started : os.Started) (H : Type) (enc : TypeId × Value → H) (F : Stop.Interp) :
    ReturnsInHanded {} Tryd.checked os 7 .any ((OpenSpec.ofChange Rows.condDatesSpec).preRow enc Tryd.prog Tryd.f7 Rows.condDatesRow.domain false Rows.condDatesRow.laid) (((OpenSpec.ofChange Rows.condDatesSpec).at F).post enc Tryd.prog Tryd.f7 false true false false) := by
  obtain ⟨places, hx⟩ := condDates_reads os enc
  refine returnsInHanded_of_row (C := Tryd.checked) (s := OpenSpec.ofChange Rows.condDatesSpec) Frame.own started (by kernel_rfl) Tryd.func7
    (door_witness (enc := enc) (C := Tryd.checked) (fn := Tryd.f7) #[.string ByteArray.empty, .slice none 0 0, .int .i64 0, .int .i64 0] (by kernel_rfl) (by kernel_rfl) (by kernel_rfl)
      (OpenSpec.preRow_of_cond 8 hx (by kernel_rfl) (fun k hk => by cases hk) (by kernel_rfl) (condDates_met os))) ?_
  intro W base args ds gs before hval0 hW hcnd hk0 hsz0 hL hshape _
  have hval : ∀ (j : Nat) t v, Tryd.f7.params[j]? = some t → args[j]? = some v → Value.okWide Tryd.prog W .any base t v := hval0
  have hW' : DataW.Whole enc Tryd.prog Tryd.f7.params.toList Rows.condDatesSpec.vars false W args.toList ds gs before := hW
  have hsz : (DataW.weightsEach Tryd.prog (Tryd.f7.params.toList ++ Rows.condDatesSpec.plain.varTypes Tryd.prog) (ds ++ gs)).all (· ≤ reachBytes) = true := hsz0
  obtain ⟨p, q, hA0, hV, rfl, hfz, hnd⟩ := hW
  have hA : DataW.TrodAll enc Tryd.prog W 0 (fun _ => true) true Tryd.f7.params.toList args.toList ds p := hA0
  rw [Tryd.params7] at hA hval hsz
  have hp10 : HasP10 W := by
    have ht := tabIs_mem (name := "internal/strconv.uint64pow10") (g := 1) (t := 150) (e := 136) (n := 20) (k := .u64) (zs := Lib.pow10Tab) (by kernel_rfl) (by kernel_rfl) Tryd.underlying150 Tryd.underlying136 (by kernel_rfl) (by kernel_rfl) (laid_plain (by kernel_rfl) hL) (by rw [← (show Rows.laid_internal_strconv_uint64pow10 (H := Unit) = Lib.tabData .u64 Lib.pow10Tab by kernel_rfl)]; simp [Rows.condDatesRow])
    exact ⟨ht, lt_of_cell (ht.cell (g := 1) (by kernel_rfl) 0 (by decide))⟩
  have hmax : HasMax W := by
    obtain ⟨m, hm⟩ := cell_of_shapedOpen_int (g := 0) (t := 3) (zero := #[.int .i64 0]) hshape (of_decide_eq_true (by kernel_rfl)) (by kernel_rfl) rfl (by kernel_rfl) (by kernel_rfl) Tryd.underlying3
    exact ⟨⟨m, hm⟩, lt_of_cell hm⟩
  obtain ⟨v0, vs0, d0, ds0, p0, q0, hargs, rfl, rfl, h0, r0⟩ := trodAll_cons hA
  obtain ⟨v1, vs1, d1, ds1, p1, q1, rfl, rfl, rfl, h1, r1⟩ := trodAll_cons r0
  obtain ⟨v2, vs2, d2, ds2, p2, q2, rfl, rfl, rfl, h2, r2⟩ := trodAll_cons r1
  obtain ⟨v3, vs3, d3, ds3, p3, q3, rfl, rfl, rfl, h3, r3⟩ := trodAll_cons r2
  obtain ⟨rfl, rfl, rfl⟩ := trodAll_nil r3
  obtain rfl : args = #[v0, v1, v2, v3] := by cases args; simp_all
  obtain ⟨rfl, rfl⟩ := trodVars_none hV
  obtain ⟨a0, rfl, rfl, rfl, w0⟩ := open_string Tryd.underlying9 (hval 0 9 v0 rfl rfl) h0
  have z0 : a0.size ≤ 140737488351232 := by have := sized_string hsz (j := 0) rfl rfl; simp only [reachBytes] at this; simpa using this
  have y1 : ∀ es sp, d1 = .slice es sp → (es.length + sp.length) * 32 ≤ 140737488351232 := fun es sp hd => by have := sized_slice hsz (j := 1) rfl (by rw [hd]; rfl) Tryd.underlying22; rw [show (Tryd.prog).bytesOf 25 = 32 from by kernel_rfl] at this; simpa only [reachBytes] using this
  have x1 : ∀ es sp, d1 = .slice es sp → ∀ x ∈ es, ∀ b0 b1, x = .agg [.lit (.string b0), .lit (.string b1)] → b0.length ≤ 140737488351232 ∧ b1.length ≤ 140737488351232 := fun es sp hd => sized_ss hsz (j := 1) (sp := sp) rfl (by rw [hd]; rfl) Tryd.underlying22 Tryd.underlying25
  obtain ⟨a1, s1, z1, w1⟩ := open_ssr Tryd.underlying22 Tryd.underlying25 (by kernel_rfl) (by kernel_rfl) Tryd.underlying9 Tryd.underlying9 (hval 1 22 v1 rfl rfl) h1 y1 x1
  obtain ⟨a2, rfl, rfl, rfl, w2⟩ := open_int Tryd.underlying3 (hval 2 3 v2 rfl rfl) h2
  obtain ⟨a3, rfl, rfl, rfl, w3⟩ := open_int Tryd.underlying3 (hval 3 3 v3 rfl rfl) h3
  refine (condDates_walk a0 v1 a1 a2 a3 W z0 s1 z1 w1 w2 w3 hmax hp10).mono fun e W' ⟨he, bel⟩ => ?_
  subst he
  exact Frame.close Frame.laidOut Tryd.underlying4 rfl (by rw [Tryd.params7]; intro t ht; simp only [List.mem_cons, List.not_mem_nil, or_false] at ht; rcases ht with rfl | rfl | rfl | rfl <;> exact ⟨by kernel_rfl, of_decide_eq_true (by kernel_rfl)⟩) rfl hW' rfl rfl rfl bel

theorem condDates_row : Rows.CondDatesSaid :=
  OpenClaim.holds_of_cond 7 Tryd.f7 rfl rfl rfl rfl rfl rfl rfl ⟨rfl, rfl, rfl, rfl, rfl⟩ rfl rfl rfl rfl rfl (by kernel_rfl) Tryd.func7 (by kernel_rfl)
    (of_decide_eq_true (by kernel_rfl)) (by unfold Func.isWrapper; first | (rw [if_pos (by decide +kernel)]; kernel_rfl) | (rw [if_neg (by decide +kernel)]; exact ⟨rfl, rfl⟩))
    (fun os started H enc _ F => by rw [OpenClaim.pre_eq_preRow]; exact condDates_lifted os started H enc F)
theorem condDates_plain (f : FuncId) (fn : Func) (hf : Tryd.pinned.checked.prog.funcNamed "larder/larderkeep.CondDates" = some f) (hfn : Tryd.pinned.checked.prog.funcs[f]? = some fn) :
    false = Tryd.pinned.checked.prog.looks [] ∧ ∀ (j : Nat) t, fn.params[j]? = some t → Tryd.pinned.checked.prog.wantsStandIn t = false := by
  obtain rfl : f = 7 := Option.some.inj ((show Tryd.prog.funcNamed "larder/larderkeep.CondDates" = some 7 by kernel_rfl).symm.trans hf) |>.symm
  obtain rfl : fn = Tryd.f7 := (Option.some.inj (Tryd.func7.symm.trans hfn)).symm
  refine ⟨by kernel_rfl, fun j t ht => ?_⟩
  rw [Tryd.params7] at ht
  have hm : t ∈ [9, 22, 3, 3] := by simpa using Array.mem_of_getElem? ht
  have hall : ([9, 22, 3, 3].all fun u => !Tryd.prog.wantsStandIn u) = true := by kernel_rfl
  exact (show Tryd.prog.wantsStandIn t = false by simpa using List.all_eq_true.1 hall t hm)
theorem condDates_proved : Rows.CondDatesCardSaid :=
  Claim7.holds_tied_plain_at .later [] _ _ _ _ condDates_row (fun _ h => by cases h) (by kernel_rfl) (fun _ h => by cases h) condDates_row_tie rfl ⟨rfl, rfl⟩ (by kernel_rfl) rfl condDates_plain (by kernel_rfl)
#print axioms condDates_proved
end Go.Proofs.YtiijgbgknolmcaaDoor
