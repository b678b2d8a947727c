import Derived.Test.YtgnblkmpoigejaaGreatDoorZCaX
import Derived.Test.YtgnblkmpoigejaaGreatDoorV25
import Derived.Test.YtgnblkmpoigejaaGreatDoorV10
import Derived.Test.YtgnblkmpoigejaaGreatDoorCards
import Derived.Test.YtgnblkmpoigejaaGreatDoorTie
import Derived.JoinedCond
import Derived.Test.YtgnblkmpoigejaaGreatDoorV26
set_option linter.unusedVariables false
set_option linter.unusedSimpArgs false
/- CacheFinds: the given statement: for every input the law's Go text returns true and leaves its arguments as they were. where what is read is together of bulk at most 1048576 (the second form); no other condition. -/

namespace Go.Proofs.YtgnblkmpoigejaaGreatDoor
open Go.ChangeShapes Go.WideShapes Go.ChangeAt Go.RowKit
open Go.ChangeMaps (open_string shut_string)
set_option linter.unusedVariables false


theorem cacheFinds_met (os : Os) : laidMetH Tryz.prog Rows.cacheFindsUptoRow.laid ((World.laidAll Tryz.prog os Rows.cacheFindsUptoRow.laid).forCall (fun _ _ => 0) ⟨#[], #[.slice none 0 0, .agg #[.string ByteArray.empty, .string ByteArray.empty, .slice none 0 0, .string ByteArray.empty, .int .i64 0, .string ByteArray.empty, .slice none 0 0, .string ByteArray.empty, .int .i64 0, .int .i64 0, .int .i64 0], .int .i64 0], []⟩).memory := by
  rw [MakeChecks.laidMetH_plain _ _ _ (by kernel_rfl)]
  exact laidMet_laidAll _ (by kernel_rfl) (by kernel_rfl)
theorem cacheFinds_reads (os : Os) {H : Type} (enc : TypeId × Value → H) : ∃ places, DataW.whole enc Tryz.prog ((World.laidAll Tryz.prog os Rows.cacheFindsUptoRow.laid).forCall (fun _ _ => 0) ⟨#[], #[.slice none 0 0, .agg #[.string ByteArray.empty, .string ByteArray.empty, .slice none 0 0, .string ByteArray.empty, .int .i64 0, .string ByteArray.empty, .slice none 0 0, .string ByteArray.empty, .int .i64 0, .int .i64 0, .int .i64 0], .int .i64 0], []⟩).memory Tryz.f3.params.toList Rows.cacheFindsSpec.vars false (#[.slice none 0 0, .agg #[.string ByteArray.empty, .string ByteArray.empty, .slice none 0 0, .string ByteArray.empty, .int .i64 0, .string ByteArray.empty, .slice none 0 0, .string ByteArray.empty, .int .i64 0, .int .i64 0, .int .i64 0], .int .i64 0] : Array Value).toList 8 = some ([.nil, .agg [.agg [.lit (.string []), .lit (.string []), .nil, .lit (.string [])], .agg [.lit (.int .i64 0), .lit (.string []), .nil, .lit (.string [])], .lit (.int .i64 0), .lit (.int .i64 0), .lit (.int .i64 0)], .lit (.int .i64 0)], [], places) :=
  ⟨[], by kernel_rfl⟩
set_option maxRecDepth 100000 in
theorem cacheFinds_lifted (os : Os) (started : os.Started) (H : Type) (enc : TypeId × Value → H) (F : Stop.Interp) :
    ReturnsInHanded {} Tryz.checked os 3 .any ((Rows.OpenSpec.upto Rows.cacheFindsSpec).preRow enc Tryz.prog Tryz.f3 Rows.cacheFindsUptoRow.domain false Rows.cacheFindsUptoRow.laid) (((Rows.OpenSpec.upto Rows.cacheFindsSpec).at F).post enc Tryz.prog Tryz.f3 false true false false) := by
  obtain ⟨places, hx⟩ := cacheFinds_reads os enc
  refine returnsInHanded_of_row (C := Tryz.checked) (s := Rows.OpenSpec.upto Rows.cacheFindsSpec) Frame.own started (by kernel_rfl) Tryz.func3
    (door_witness (enc := enc) (C := Tryz.checked) (fn := Tryz.f3) #[.slice none 0 0, .agg #[.string ByteArray.empty, .string ByteArray.empty, .slice none 0 0, .string ByteArray.empty, .int .i64 0, .string ByteArray.empty, .slice none 0 0, .string ByteArray.empty, .int .i64 0, .int .i64 0, .int .i64 0], .int .i64 0] (by kernel_rfl) (by kernel_rfl) (by kernel_rfl)
      (OpenSpec.preRow_of_cond 8 hx (by kernel_rfl) (fun k hk => by cases hk; kernel_rfl) (by kernel_rfl) (cacheFinds_met os))) ?_
  intro W base args ds gs before hval0 hW hcnd hk0 hsz0 hL hshape _
  have hval : ∀ (j : Nat) t v, Tryz.f3.params[j]? = some t → args[j]? = some v → Value.okWide Tryz.prog W .any base t v := hval0
  have hW' : DataW.Whole enc Tryz.prog Tryz.f3.params.toList Rows.cacheFindsSpec.vars false W args.toList ds gs before := hW
  have hk := hk0 _ rfl
  obtain ⟨p, q, hA0, hV, rfl, hfz, hnd⟩ := hW
  have hA : DataW.TrodAll enc Tryz.prog W 0 (fun _ => true) true Tryz.f3.params.toList args.toList ds p := hA0
  rw [Tryz.params3] at hA hval
  have hp10 : HasP10 W := by
    have ht := tabIs_mem (name := "internal/strconv.uint64pow10") (g := 1) (t := 258) (e := 210) (n := 20) (k := .u64) (zs := Lib.pow10Tab) (by kernel_rfl) (by kernel_rfl) Tryz.underlying258 Tryz.underlying210 (by kernel_rfl) (by kernel_rfl) (laid_plain (by kernel_rfl) hL) (by rw [← (show Rows.laid_internal_strconv_uint64pow10 (H := Unit) = Lib.tabData .u64 Lib.pow10Tab by kernel_rfl)]; simp [Rows.cacheFindsUptoRow])
    exact ⟨ht, lt_of_cell (ht.cell (g := 1) (by kernel_rfl) 0 (by decide))⟩
  have hmax : HasMax W := by
    obtain ⟨m, hm⟩ := cell_of_shapedOpen_int (g := 0) (t := 3) (zero := #[.int .i64 0]) hshape (of_decide_eq_true (by kernel_rfl)) (by kernel_rfl) rfl (by kernel_rfl) (by kernel_rfl) Tryz.underlying3
    exact ⟨⟨m, hm⟩, lt_of_cell hm⟩
  obtain ⟨v0, vs0, d0, ds0, p0, q0, hargs, rfl, rfl, h0, r0⟩ := trodAll_cons hA
  obtain ⟨v1, vs1, d1, ds1, p1, q1, rfl, rfl, rfl, h1, r1⟩ := trodAll_cons r0
  obtain ⟨v2, vs2, d2, ds2, p2, q2, rfl, rfl, rfl, h2, r2⟩ := trodAll_cons r1
  obtain ⟨rfl, rfl, rfl⟩ := trodAll_nil r2
  obtain rfl : args = #[v0, v1, v2] := by cases args; simp_all
  obtain ⟨rfl, rfl⟩ := trodVars_none hV
  obtain ⟨a0, s0, z0, q0⟩ := open_stq (hval 0 22 v0 rfl rfl) h0 (Bulk.of_mem hk (by simp))
  obtain ⟨a1, u1, l1, k1, rfl, s1, q1, z1, x1, y1⟩ := open_heldc (hval 1 29 v1 rfl rfl) h1 (Bulk.of_mem hk (by simp))
  obtain ⟨a2, rfl, rfl, rfl, w2⟩ := open_int Tryz.underlying3 (hval 2 3 v2 rfl rfl) h2
  refine (Ca.cacheFinds_walk v0 a0 a1 u1 l1 k1 a2 W s0 q0 z0 s1 q1 z1 x1 y1 w2 hmax hp10).mono fun e W' ⟨he, bel⟩ => ?_
  subst he
  exact Frame.close Frame.laidOut Tryz.underlying4 rfl (by rw [Tryz.params3]; intro t ht; simp only [List.mem_cons, List.not_mem_nil, or_false] at ht; rcases ht with rfl | rfl | rfl <;> exact ⟨by kernel_rfl, of_decide_eq_true (by kernel_rfl)⟩) rfl hW' rfl rfl rfl bel

theorem cacheFinds_row : Rows.CacheFindsUptoSaid :=
  OpenClaim.holds_of_cond 3 Tryz.f3 rfl rfl rfl rfl rfl rfl rfl ⟨rfl, rfl, rfl, rfl, rfl⟩ rfl rfl rfl rfl rfl (by kernel_rfl) Tryz.func3 (by kernel_rfl)
    (of_decide_eq_true (by kernel_rfl)) (by unfold Func.isWrapper; first | (rw [if_pos (by decide +kernel)]; kernel_rfl) | (rw [if_neg (by decide +kernel)]; exact ⟨rfl, rfl⟩))
    (fun os started H enc _ F => by rw [OpenClaim.pre_eq_preRow]; exact cacheFinds_lifted os started H enc F)
theorem cacheFinds_plain (f : FuncId) (fn : Func) (hf : Tryz.pinned.checked.prog.funcNamed "larder/larderkeep.CacheFinds" = some f) (hfn : Tryz.pinned.checked.prog.funcs[f]? = some fn) :
    true = Tryz.pinned.checked.prog.looks [] ∧ ∀ (j : Nat) t, fn.params[j]? = some t → Tryz.pinned.checked.prog.wantsStandIn t = false := by
  obtain rfl : f = 3 := Option.some.inj ((show Tryz.prog.funcNamed "larder/larderkeep.CacheFinds" = some 3 by kernel_rfl).symm.trans hf) |>.symm
  obtain rfl : fn = Tryz.f3 := (Option.some.inj (Tryz.func3.symm.trans hfn)).symm
  refine ⟨by kernel_rfl, fun j t ht => ?_⟩
  rw [Tryz.params3] at ht
  have hm : t ∈ [22, 29, 3] := by simpa using Array.mem_of_getElem? ht
  have hall : ([22, 29, 3].all fun u => !Tryz.prog.wantsStandIn u) = true := by kernel_rfl
  exact (show Tryz.prog.wantsStandIn t = false by simpa using List.all_eq_true.1 hall t hm)
theorem cacheFinds_proved : Rows.CacheFindsUptoCardSaid :=
  Claim7.holds_tied_plain_at .later [] _ _ _ _ cacheFinds_row (fun _ h => by cases h) (by kernel_rfl) (fun _ h => by cases h) cacheFindsUpto_row_tie rfl ⟨rfl, rfl⟩ (by kernel_rfl) rfl cacheFinds_plain (by kernel_rfl)
#print axioms cacheFinds_proved
end Go.Proofs.YtgnblkmpoigejaaGreatDoor
