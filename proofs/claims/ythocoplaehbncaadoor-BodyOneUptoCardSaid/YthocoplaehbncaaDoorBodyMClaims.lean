/- BodyEnds and BodyOne: the given statement: for every input the law's Go text returns true and leaves its arguments as they were. where what is read is together of bulk at most 1048576 (the second form); no other condition. -/
import Derived.Test.YthocoplaehbncaaDoorBodyM
import Derived.Test.YthocoplaehbncaaDoorFrame
import Derived.Test.YthocoplaehbncaaDoorOpen
import Derived.Test.YthocoplaehbncaaDoorCards
import Derived.Test.YthocoplaehbncaaDoorTie
import Derived.Test.YthocoplaehbncaaDoorDoor
import Derived.Test.YthocoplaehbncaaDoorErrV
import Derived.Test.YthocoplaehbncaaDoorBulk
import Derived.JoinedCond

namespace Go.Proofs.YthocoplaehbncaaDoor
open Go.ChangeShapes Go.WideShapes Go.ChangeAt Go.RowKit
open Go.ChangeMaps (open_string shut_string)
set_option linter.unusedVariables false


theorem bodyEnds_met (os : Os) : laidMetH Tryd.prog Rows.bodyEndsUptoRow.laid ((World.laidAll Tryd.prog os Rows.bodyEndsUptoRow.laid).forCall (fun _ _ => 0) ⟨#[], #[.bool false, .string ByteArray.empty, .int .i64 0, .slice none 0 0], []⟩).memory := by
  rw [MakeChecks.laidMetH_plain _ _ _ (by kernel_rfl)]
  exact laidMet_laidAll _ (by kernel_rfl) (by kernel_rfl)
theorem bodyEnds_reads (os : Os) {H : Type} (enc : TypeId × Value → H) : ∃ places, DataW.whole enc Tryd.prog ((World.laidAll Tryd.prog os Rows.bodyEndsUptoRow.laid).forCall (fun _ _ => 0) ⟨#[], #[.bool false, .string ByteArray.empty, .int .i64 0, .slice none 0 0], []⟩).memory Tryd.f8.params.toList Rows.bodyEndsSpec.vars false (#[.bool false, .string ByteArray.empty, .int .i64 0, .slice none 0 0] : Array Value).toList 8 = some ([.lit (.bool false), .lit (.string []), .lit (.int .i64 0), .nil], [], places) :=
  ⟨[], by kernel_rfl⟩
set_option maxRecDepth 100000 in
theorem bodyEnds_lifted (os : Os) (started : os.Started) (H : Type) (enc : TypeId × Value → H) (F : Stop.Interp) :
    ReturnsInHanded {} Tryd.checked os 8 .any ((Rows.OpenSpec.upto Rows.bodyEndsSpec).preRow enc Tryd.prog Tryd.f8 Rows.bodyEndsUptoRow.domain false Rows.bodyEndsUptoRow.laid) (((Rows.OpenSpec.upto Rows.bodyEndsSpec).at F).post enc Tryd.prog Tryd.f8 false true false false) := by
  obtain ⟨places, hx⟩ := bodyEnds_reads os enc
  refine returnsInHanded_of_row (C := Tryd.checked) (s := Rows.OpenSpec.upto Rows.bodyEndsSpec) Frame.own started (by kernel_rfl) Tryd.func8
    (door_witness (enc := enc) (C := Tryd.checked) (fn := Tryd.f8) #[.bool false, .string ByteArray.empty, .int .i64 0, .slice none 0 0] (by kernel_rfl) (by kernel_rfl) (by kernel_rfl)
      (OpenSpec.preRow_of_cond 8 hx (by kernel_rfl) (fun k hk => by cases hk; kernel_rfl) (by kernel_rfl) (bodyEnds_met os))) ?_
  intro W base args ds gs before hval0 hW hcnd hk0 hsz0 hL hshape _
  have hval : ∀ (j : Nat) t v, Tryd.f8.params[j]? = some t → args[j]? = some v → Value.okWide Tryd.prog W .any base t v := hval0
  have hW' : DataW.Whole enc Tryd.prog Tryd.f8.params.toList Rows.bodyEndsSpec.vars false W args.toList ds gs before := hW
  have hk := hk0 _ rfl
  obtain ⟨p, q, hA0, hV, rfl, hfz, hnd⟩ := hW
  have hA : DataW.TrodAll enc Tryd.prog W 0 (fun _ => true) true Tryd.f8.params.toList args.toList ds p := hA0
  rw [Tryd.params8] at hA hval
  have hp10 : HasP10 W := by
    have ht := tabIs_mem (name := "internal/strconv.uint64pow10") (g := 6) (t := 172) (e := 142) (n := 20) (k := .u64) (zs := Lib.pow10Tab) (by kernel_rfl) (by kernel_rfl) Tryd.underlying172 Tryd.underlying142 (by kernel_rfl) (by kernel_rfl) (laid_plain (by kernel_rfl) hL) (by rw [← (show Rows.laid_internal_strconv_uint64pow10 (H := Unit) = Lib.tabData .u64 Lib.pow10Tab by kernel_rfl)]; simp [Rows.bodyEndsUptoRow])
    exact ⟨ht, lt_of_cell (ht.cell (g := 6) (by kernel_rfl) 0 (by decide))⟩
  have herr : Bd.HasErr W := by
    have hlp := laid_plain (by kernel_rfl) hL
    obtain ⟨t1, p1, hs1⟩ := iface_mem (name := "strconv.ErrSyntax") (g := 4) (t := 78) (by kernel_rfl) (by kernel_rfl) Tryd.underlying78 hlp (by rw [show ("strconv.ErrSyntax", DataW.iface (H := Unit) _ _) = ("strconv.ErrSyntax", Rows.laid_strconv_ErrSyntax) from rfl]; simp [Rows.bodyEndsUptoRow])
    obtain ⟨t2, p2, hs2⟩ := iface_mem (name := "strconv.ErrRange") (g := 5) (t := 78) (by kernel_rfl) (by kernel_rfl) Tryd.underlying78 hlp (by rw [show ("strconv.ErrRange", DataW.iface (H := Unit) _ _) = ("strconv.ErrRange", Rows.laid_strconv_ErrRange) from rfl]; simp [Rows.bodyEndsUptoRow])
    exact ⟨hp10, ⟨t1, p1, hs1⟩, ⟨t2, p2, hs2⟩, lt_of_cell hs1, lt_of_cell hs2⟩
  obtain ⟨v0, vs0, d0, ds0, p0, q0, hargs, rfl, rfl, h0, r0⟩ := trodAll_cons hA
  obtain ⟨v1, vs1, d1, ds1, p1, q1, rfl, rfl, rfl, h1, r1⟩ := trodAll_cons r0
  obtain ⟨v2, vs2, d2, ds2, p2, q2, rfl, rfl, rfl, h2, r2⟩ := trodAll_cons r1
  obtain ⟨v3, vs3, d3, ds3, p3, q3, rfl, rfl, rfl, h3, r3⟩ := trodAll_cons r2
  obtain ⟨rfl, rfl, rfl⟩ := trodAll_nil r3
  obtain rfl : args = #[v0, v1, v2, v3] := by cases args; simp_all
  obtain ⟨rfl, rfl⟩ := trodVars_none hV
  obtain ⟨a0, rfl, rfl, rfl⟩ := open_bool Tryd.underlying4 (hval 0 4 v0 rfl rfl) h0
  obtain ⟨a1, rfl, rfl, rfl, w1⟩ := open_string Tryd.underlying9 (hval 1 9 v1 rfl rfl) h1
  have z1 : a1.size ≤ 1048576 := by have := Bulk.of_mem hk (d := .lit (.string a1.data.toList)) (by simp); rw [Bulk.str, Array.length_toList] at this; simp only [ByteArray.size]; omega
  obtain ⟨a2, rfl, rfl, rfl, w2⟩ := open_int Tryd.underlying3 (hval 2 3 v2 rfl rfl) h2
  obtain ⟨a3, s3, w3⟩ := open_sss Tryd.underlying22 Tryd.underlying28 (by kernel_rfl) (by kernel_rfl) Tryd.underlying9 Tryd.underlying9 (hval 3 22 v3 rfl rfl) h3 (Bulk.of_mem hk (by simp))
  refine (bodyEnds_walk a0 a1 a2 v3 a3 W z1 w2 s3 w3 herr).mono fun e W' ⟨he, bel⟩ => ?_
  subst he
  exact Frame.close Frame.laidOut Tryd.underlying4 rfl (by rw [Tryd.params8]; intro t ht; simp only [List.mem_cons, List.not_mem_nil, or_false] at ht; rcases ht with rfl | rfl | rfl | rfl <;> exact ⟨by kernel_rfl, of_decide_eq_true (by kernel_rfl)⟩) rfl hW' rfl rfl rfl bel

theorem bodyEnds_row : Rows.BodyEndsUptoSaid :=
  OpenClaim.holds_of_cond 8 Tryd.f8 rfl rfl rfl rfl rfl rfl rfl ⟨rfl, rfl, rfl, rfl, rfl⟩ rfl rfl rfl rfl rfl (by kernel_rfl) Tryd.func8 (by kernel_rfl)
    (of_decide_eq_true (by kernel_rfl)) (by unfold Func.isWrapper; first | (rw [if_pos (by decide +kernel)]; kernel_rfl) | (rw [if_neg (by decide +kernel)]; exact ⟨rfl, rfl⟩))
    (fun os started H enc _ F => by rw [OpenClaim.pre_eq_preRow]; exact bodyEnds_lifted os started H enc F)
theorem bodyEnds_plain (f : FuncId) (fn : Func) (hf : Tryd.pinned.checked.prog.funcNamed "larder/larderkeep.BodyEnds" = some f) (hfn : Tryd.pinned.checked.prog.funcs[f]? = some fn) :
    true = Tryd.pinned.checked.prog.looks [] ∧ ∀ (j : Nat) t, fn.params[j]? = some t → Tryd.pinned.checked.prog.wantsStandIn t = false := by
  obtain rfl : f = 8 := Option.some.inj ((show Tryd.prog.funcNamed "larder/larderkeep.BodyEnds" = some 8 by kernel_rfl).symm.trans hf) |>.symm
  obtain rfl : fn = Tryd.f8 := (Option.some.inj (Tryd.func8.symm.trans hfn)).symm
  refine ⟨by kernel_rfl, fun j t ht => ?_⟩
  rw [Tryd.params8] at ht
  have hm : t ∈ [4, 9, 3, 22] := by simpa using Array.mem_of_getElem? ht
  have hall : ([4, 9, 3, 22].all fun u => !Tryd.prog.wantsStandIn u) = true := by kernel_rfl
  exact (show Tryd.prog.wantsStandIn t = false by simpa using List.all_eq_true.1 hall t hm)
theorem bodyEnds_proved : Rows.BodyEndsUptoCardSaid :=
  Claim7.holds_tied_plain_at .later [] _ _ _ _ bodyEnds_row (fun _ h => by cases h) (by kernel_rfl) (fun _ h => by cases h) bodyEndsUpto_row_tie rfl ⟨rfl, rfl⟩ (by kernel_rfl) rfl bodyEnds_plain (by kernel_rfl)
#print axioms bodyEnds_proved

theorem bodyOne_met (os : Os) : laidMetH Tryd.prog Rows.bodyOneUptoRow.laid ((World.laidAll Tryd.prog os Rows.bodyOneUptoRow.laid).forCall (fun _ _ => 0) ⟨#[], #[.bool false, .string ByteArray.empty, .int .i64 0, .int .i64 0, .slice none 0 0], []⟩).memory := by
  rw [MakeChecks.laidMetH_plain _ _ _ (by kernel_rfl)]
  exact laidMet_laidAll _ (by kernel_rfl) (by kernel_rfl)
theorem bodyOne_reads (os : Os) {H : Type} (enc : TypeId × Value → H) : ∃ places, DataW.whole enc Tryd.prog ((World.laidAll Tryd.prog os Rows.bodyOneUptoRow.laid).forCall (fun _ _ => 0) ⟨#[], #[.bool false, .string ByteArray.empty, .int .i64 0, .int .i64 0, .slice none 0 0], []⟩).memory Tryd.f7.params.toList Rows.bodyOneSpec.vars false (#[.bool false, .string ByteArray.empty, .int .i64 0, .int .i64 0, .slice none 0 0] : Array Value).toList 8 = some ([.lit (.bool false), .lit (.string []), .lit (.int .i64 0), .lit (.int .i64 0), .nil], [], places) :=
  ⟨[], by kernel_rfl⟩
set_option maxRecDepth 100000 in
theorem bodyOne_lifted (os : Os) (started : os.Started) (H : Type) (enc : TypeId × Value → H) (F : Stop.Interp) :
    ReturnsInHanded {} Tryd.checked os 7 .any ((Rows.OpenSpec.upto Rows.bodyOneSpec).preRow enc Tryd.prog Tryd.f7 Rows.bodyOneUptoRow.domain false Rows.bodyOneUptoRow.laid) (((Rows.OpenSpec.upto Rows.bodyOneSpec).at F).post enc Tryd.prog Tryd.f7 false true false false) := by
  obtain ⟨places, hx⟩ := bodyOne_reads os enc
  refine returnsInHanded_of_row (C := Tryd.checked) (s := Rows.OpenSpec.upto Rows.bodyOneSpec) Frame.own started (by kernel_rfl) Tryd.func7
    (door_witness (enc := enc) (C := Tryd.checked) (fn := Tryd.f7) #[.bool false, .string ByteArray.empty, .int .i64 0, .int .i64 0, .slice none 0 0] (by kernel_rfl) (by kernel_rfl) (by kernel_rfl)
      (OpenSpec.preRow_of_cond 8 hx (by kernel_rfl) (fun k hk => by cases hk; kernel_rfl) (by kernel_rfl) (bodyOne_met os))) ?_
  intro W base args ds gs before hval0 hW hcnd hk0 hsz0 hL hshape _
  have hval : ∀ (j : Nat) t v, Tryd.f7.params[j]? = some t → args[j]? = some v → Value.okWide Tryd.prog W .any base t v := hval0
  have hW' : DataW.Whole enc Tryd.prog Tryd.f7.params.toList Rows.bodyOneSpec.vars false W args.toList ds gs before := hW
  have hk := hk0 _ rfl
  obtain ⟨p, q, hA0, hV, rfl, hfz, hnd⟩ := hW
  have hA : DataW.TrodAll enc Tryd.prog W 0 (fun _ => true) true Tryd.f7.params.toList args.toList ds p := hA0
  rw [Tryd.params7] at hA hval
  have hp10 : HasP10 W := by
    have ht := tabIs_mem (name := "internal/strconv.uint64pow10") (g := 6) (t := 172) (e := 142) (n := 20) (k := .u64) (zs := Lib.pow10Tab) (by kernel_rfl) (by kernel_rfl) Tryd.underlying172 Tryd.underlying142 (by kernel_rfl) (by kernel_rfl) (laid_plain (by kernel_rfl) hL) (by rw [← (show Rows.laid_internal_strconv_uint64pow10 (H := Unit) = Lib.tabData .u64 Lib.pow10Tab by kernel_rfl)]; simp [Rows.bodyOneUptoRow])
    exact ⟨ht, lt_of_cell (ht.cell (g := 6) (by kernel_rfl) 0 (by decide))⟩
  have herr : Bd.HasErr W := by
    have hlp := laid_plain (by kernel_rfl) hL
    obtain ⟨t1, p1, hs1⟩ := iface_mem (name := "strconv.ErrSyntax") (g := 4) (t := 78) (by kernel_rfl) (by kernel_rfl) Tryd.underlying78 hlp (by rw [show ("strconv.ErrSyntax", DataW.iface (H := Unit) _ _) = ("strconv.ErrSyntax", Rows.laid_strconv_ErrSyntax) from rfl]; simp [Rows.bodyOneUptoRow])
    obtain ⟨t2, p2, hs2⟩ := iface_mem (name := "strconv.ErrRange") (g := 5) (t := 78) (by kernel_rfl) (by kernel_rfl) Tryd.underlying78 hlp (by rw [show ("strconv.ErrRange", DataW.iface (H := Unit) _ _) = ("strconv.ErrRange", Rows.laid_strconv_ErrRange) from rfl]; simp [Rows.bodyOneUptoRow])
    exact ⟨hp10, ⟨t1, p1, hs1⟩, ⟨t2, p2, hs2⟩, lt_of_cell hs1, lt_of_cell hs2⟩
  obtain ⟨v0, vs0, d0, ds0, p0, q0, hargs, rfl, rfl, h0, r0⟩ := trodAll_cons hA
  obtain ⟨v1, vs1, d1, ds1, p1, q1, rfl, rfl, rfl, h1, r1⟩ := trodAll_cons r0
  obtain ⟨v2, vs2, d2, ds2, p2, q2, rfl, rfl, rfl, h2, r2⟩ := trodAll_cons r1
  obtain ⟨v3, vs3, d3, ds3, p3, q3, rfl, rfl, rfl, h3, r3⟩ := trodAll_cons r2
  obtain ⟨v4, vs4, d4, ds4, p4, q4, rfl, rfl, rfl, h4, r4⟩ := trodAll_cons r3
  obtain ⟨rfl, rfl, rfl⟩ := trodAll_nil r4
  obtain rfl : args = #[v0, v1, v2, v3, v4] := by cases args; simp_all
  obtain ⟨rfl, rfl⟩ := trodVars_none hV
  obtain ⟨a0, rfl, rfl, rfl⟩ := open_bool Tryd.underlying4 (hval 0 4 v0 rfl rfl) h0
  obtain ⟨a1, rfl, rfl, rfl, w1⟩ := open_string Tryd.underlying9 (hval 1 9 v1 rfl rfl) h1
  have z1 : a1.size ≤ 1048576 := by have := Bulk.of_mem hk (d := .lit (.string a1.data.toList)) (by simp); rw [Bulk.str, Array.length_toList] at this; simp only [ByteArray.size]; omega
  obtain ⟨a2, rfl, rfl, rfl, w2⟩ := open_int Tryd.underlying3 (hval 2 3 v2 rfl rfl) h2
  obtain ⟨a3, rfl, rfl, rfl, w3⟩ := open_int Tryd.underlying3 (hval 3 3 v3 rfl rfl) h3
  obtain ⟨a4, s4, w4⟩ := open_sss Tryd.underlying22 Tryd.underlying28 (by kernel_rfl) (by kernel_rfl) Tryd.underlying9 Tryd.underlying9 (hval 4 22 v4 rfl rfl) h4 (Bulk.of_mem hk (by simp))
  refine (bodyOne_walk a0 a1 a2 a3 v4 a4 W z1 w2 w3 s4 w4 herr).mono fun e W' ⟨he, bel⟩ => ?_
  subst he
  exact Frame.close Frame.laidOut Tryd.underlying4 rfl (by rw [Tryd.params7]; intro t ht; simp only [List.mem_cons, List.not_mem_nil, or_false] at ht; rcases ht with rfl | rfl | rfl | rfl | rfl <;> exact ⟨by kernel_rfl, of_decide_eq_true (by kernel_rfl)⟩) rfl hW' rfl rfl rfl bel

theorem bodyOne_row : Rows.BodyOneUptoSaid :=
  OpenClaim.holds_of_cond 7 Tryd.f7 rfl rfl rfl rfl rfl rfl rfl ⟨rfl, rfl, rfl, rfl, rfl⟩ rfl rfl rfl rfl rfl (by kernel_rfl) Tryd.func7 (by kernel_rfl)
    (of_decide_eq_true (by kernel_rfl)) (by unfold Func.isWrapper; first | (rw [if_pos (by decide +kernel)]; kernel_rfl) | (rw [if_neg (by decide +kernel)]; exact ⟨rfl, rfl⟩))
    (fun os started H enc _ F => by rw [OpenClaim.pre_eq_preRow]; exact bodyOne_lifted os started H enc F)
theorem bodyOne_plain (f : FuncId) (fn : Func) (hf : Tryd.pinned.checked.prog.funcNamed "larder/larderkeep.BodyOne" = some f) (hfn : Tryd.pinned.checked.prog.funcs[f]? = some fn) :
    true = Tryd.pinned.checked.prog.looks [] ∧ ∀ (j : Nat) t, fn.params[j]? = some t → Tryd.pinned.checked.prog.wantsStandIn t = false := by
  obtain rfl : f = 7 := Option.some.inj ((show Tryd.prog.funcNamed "larder/larderkeep.BodyOne" = some 7 by kernel_rfl).symm.trans hf) |>.symm
  obtain rfl : fn = Tryd.f7 := (Option.some.inj (Tryd.func7.symm.trans hfn)).symm
  refine ⟨by kernel_rfl, fun j t ht => ?_⟩
  rw [Tryd.params7] at ht
  have hm : t ∈ [4, 9, 3, 3, 22] := by simpa using Array.mem_of_getElem? ht
  have hall : ([4, 9, 3, 3, 22].all fun u => !Tryd.prog.wantsStandIn u) = true := by kernel_rfl
  exact (show Tryd.prog.wantsStandIn t = false by simpa using List.all_eq_true.1 hall t hm)
theorem bodyOne_proved : Rows.BodyOneUptoCardSaid :=
  Claim7.holds_tied_plain_at .later [] _ _ _ _ bodyOne_row (fun _ h => by cases h) (by kernel_rfl) (fun _ h => by cases h) bodyOneUpto_row_tie rfl ⟨rfl, rfl⟩ (by kernel_rfl) rfl bodyOne_plain (by kernel_rfl)
#print axioms bodyOne_proved
end Go.Proofs.YthocoplaehbncaaDoor
