/- LineStatusBack: the given statement: for every input the law's Go text returns true and leaves its arguments as they were. where what is read is together of bulk at most 1048576 (the second form); no other condition. -/
import Derived.Test.YthocoplaehbncaaDoorStatW
import Derived.Test.YthocoplaehbncaaDoorFrame
import Derived.Test.YthocoplaehbncaaDoorOpen
import Derived.Test.YthocoplaehbncaaDoorCards
import Derived.Test.YthocoplaehbncaaDoorTie
import Derived.Test.YthocoplaehbncaaDoorDoor
import Derived.Test.YthocoplaehbncaaDoorErrV
import Derived.Test.YthocoplaehbncaaDoorBulk
import Derived.JoinedCond

namespace Go.Proofs.YthocoplaehbncaaDoor
open Go.ChangeShapes Go.WideShapes Go.ChangeAt Go.RowKit
open Go.ChangeMaps (open_string shut_string)
set_option linter.unusedVariables false


theorem lineStatusBack_met (os : Os) : laidMetH Tryd.prog Rows.lineStatusBackUptoRow.laid ((World.laidAll Tryd.prog os Rows.lineStatusBackUptoRow.laid).forCall (fun _ _ => 0) ⟨#[], #[.int .i64 0, .string ByteArray.empty, .string ByteArray.empty], []⟩).memory := by
  rw [MakeChecks.laidMetH_plain _ _ _ (by kernel_rfl)]
  exact laidMet_laidAll _ (by kernel_rfl) (by kernel_rfl)
theorem lineStatusBack_reads (os : Os) {H : Type} (enc : TypeId × Value → H) : ∃ places, DataW.whole enc Tryd.prog ((World.laidAll Tryd.prog os Rows.lineStatusBackUptoRow.laid).forCall (fun _ _ => 0) ⟨#[], #[.int .i64 0, .string ByteArray.empty, .string ByteArray.empty], []⟩).memory Tryd.f6.params.toList Rows.lineStatusBackSpec.vars false (#[.int .i64 0, .string ByteArray.empty, .string ByteArray.empty] : Array Value).toList 8 = some ([.lit (.int .i64 0), .lit (.string []), .lit (.string [])], [], places) :=
  ⟨[], by kernel_rfl⟩
set_option maxRecDepth 100000 in
theorem lineStatusBack_lifted (os : Os) (started : os.Started) (H : Type) (enc : TypeId × Value → H) (F : Stop.Interp) :
    ReturnsInHanded {} Tryd.checked os 6 .any ((Rows.OpenSpec.upto Rows.lineStatusBackSpec).preRow enc Tryd.prog Tryd.f6 Rows.lineStatusBackUptoRow.domain false Rows.lineStatusBackUptoRow.laid) (((Rows.OpenSpec.upto Rows.lineStatusBackSpec).at F).post enc Tryd.prog Tryd.f6 false true false false) := by
  obtain ⟨places, hx⟩ := lineStatusBack_reads os enc
  refine returnsInHanded_of_row (C := Tryd.checked) (s := Rows.OpenSpec.upto Rows.lineStatusBackSpec) Frame.own started (by kernel_rfl) Tryd.func6
    (door_witness (enc := enc) (C := Tryd.checked) (fn := Tryd.f6) #[.int .i64 0, .string ByteArray.empty, .string ByteArray.empty] (by kernel_rfl) (by kernel_rfl) (by kernel_rfl)
      (OpenSpec.preRow_of_cond 8 hx (by kernel_rfl) (fun k hk => by cases hk; kernel_rfl) (by kernel_rfl) (lineStatusBack_met os))) ?_
  intro W base args ds gs before hval0 hW hcnd hk0 hsz0 hL hshape _
  have hval : ∀ (j : Nat) t v, Tryd.f6.params[j]? = some t → args[j]? = some v → Value.okWide Tryd.prog W .any base t v := hval0
  have hW' : DataW.Whole enc Tryd.prog Tryd.f6.params.toList Rows.lineStatusBackSpec.vars false W args.toList ds gs before := hW
  have hk := hk0 _ rfl
  obtain ⟨p, q, hA0, hV, rfl, hfz, hnd⟩ := hW
  have hA : DataW.TrodAll enc Tryd.prog W 0 (fun _ => true) true Tryd.f6.params.toList args.toList ds p := hA0
  rw [Tryd.params6] at hA hval
  have hp10 : HasP10 W := by
    have ht := tabIs_mem (name := "internal/strconv.uint64pow10") (g := 6) (t := 172) (e := 142) (n := 20) (k := .u64) (zs := Lib.pow10Tab) (by kernel_rfl) (by kernel_rfl) Tryd.underlying172 Tryd.underlying142 (by kernel_rfl) (by kernel_rfl) (laid_plain (by kernel_rfl) hL) (by rw [← (show Rows.laid_internal_strconv_uint64pow10 (H := Unit) = Lib.tabData .u64 Lib.pow10Tab by kernel_rfl)]; simp [Rows.lineStatusBackUptoRow])
    exact ⟨ht, lt_of_cell (ht.cell (g := 6) (by kernel_rfl) 0 (by decide))⟩
  have herr : Bd.HasErr W := by
    have hlp := laid_plain (by kernel_rfl) hL
    obtain ⟨t1, p1, hs1⟩ := iface_mem (name := "strconv.ErrSyntax") (g := 4) (t := 78) (by kernel_rfl) (by kernel_rfl) Tryd.underlying78 hlp (by rw [show ("strconv.ErrSyntax", DataW.iface (H := Unit) _ _) = ("strconv.ErrSyntax", Rows.laid_strconv_ErrSyntax) from rfl]; simp [Rows.lineStatusBackUptoRow])
    obtain ⟨t2, p2, hs2⟩ := iface_mem (name := "strconv.ErrRange") (g := 5) (t := 78) (by kernel_rfl) (by kernel_rfl) Tryd.underlying78 hlp (by rw [show ("strconv.ErrRange", DataW.iface (H := Unit) _ _) = ("strconv.ErrRange", Rows.laid_strconv_ErrRange) from rfl]; simp [Rows.lineStatusBackUptoRow])
    exact ⟨hp10, ⟨t1, p1, hs1⟩, ⟨t2, p2, hs2⟩, lt_of_cell hs1, lt_of_cell hs2⟩
  have hmax : HasMax W := by
    obtain ⟨m, hm⟩ := cell_of_shapedOpen_int (g := 1) (t := 3) (zero := #[.int .i64 0]) hshape (of_decide_eq_true (by kernel_rfl)) (by kernel_rfl) rfl (by kernel_rfl) (by kernel_rfl) Tryd.underlying3
    exact ⟨⟨m, hm⟩, lt_of_cell hm⟩
  obtain ⟨v0, vs0, d0, ds0, p0, q0, hargs, rfl, rfl, h0, r0⟩ := trodAll_cons hA
  obtain ⟨v1, vs1, d1, ds1, p1, q1, rfl, rfl, rfl, h1, r1⟩ := trodAll_cons r0
  obtain ⟨v2, vs2, d2, ds2, p2, q2, rfl, rfl, rfl, h2, r2⟩ := trodAll_cons r1
  obtain ⟨rfl, rfl, rfl⟩ := trodAll_nil r2
  obtain rfl : args = #[v0, v1, v2] := by cases args; simp_all
  obtain ⟨rfl, rfl⟩ := trodVars_none hV
  obtain ⟨a0, rfl, rfl, rfl, w0⟩ := open_int Tryd.underlying3 (hval 0 3 v0 rfl rfl) h0
  obtain ⟨a1, rfl, rfl, rfl, w1⟩ := open_string Tryd.underlying9 (hval 1 9 v1 rfl rfl) h1
  have z1 : a1.size ≤ 1048576 := by have := Bulk.of_mem hk (d := .lit (.string a1.data.toList)) (by simp); rw [Bulk.str, Array.length_toList] at this; simp only [ByteArray.size]; omega
  obtain ⟨a2, rfl, rfl, rfl, w2⟩ := open_string Tryd.underlying9 (hval 2 9 v2 rfl rfl) h2
  have z2 : a2.size ≤ 1048576 := by have := Bulk.of_mem hk (d := .lit (.string a2.data.toList)) (by simp); rw [Bulk.str, Array.length_toList] at this; simp only [ByteArray.size]; omega
  refine (lineStatusBack_walk a0 a1 a2 W w0 z1 z2 hmax herr).mono fun e W' ⟨he, bel⟩ => ?_
  subst he
  exact Frame.close Frame.laidOut Tryd.underlying4 rfl (by rw [Tryd.params6]; intro t ht; simp only [List.mem_cons, List.not_mem_nil, or_false] at ht; rcases ht with rfl | rfl | rfl <;> exact ⟨by kernel_rfl, of_decide_eq_true (by kernel_rfl)⟩) rfl hW' rfl rfl rfl bel

theorem lineStatusBack_row : Rows.LineStatusBackUptoSaid :=
  OpenClaim.holds_of_cond 6 Tryd.f6 rfl rfl rfl rfl rfl rfl rfl ⟨rfl, rfl, rfl, rfl, rfl⟩ rfl rfl rfl rfl rfl (by kernel_rfl) Tryd.func6 (by kernel_rfl)
    (of_decide_eq_true (by kernel_rfl)) (by unfold Func.isWrapper; first | (rw [if_pos (by decide +kernel)]; kernel_rfl) | (rw [if_neg (by decide +kernel)]; exact ⟨rfl, rfl⟩))
    (fun os started H enc _ F => by rw [OpenClaim.pre_eq_preRow]; exact lineStatusBack_lifted os started H enc F)
theorem lineStatusBack_plain (f : FuncId) (fn : Func) (hf : Tryd.pinned.checked.prog.funcNamed "larder/larderkeep.LineStatusBack" = some f) (hfn : Tryd.pinned.checked.prog.funcs[f]? = some fn) :
    true = Tryd.pinned.checked.prog.looks [] ∧ ∀ (j : Nat) t, fn.params[j]? = some t → Tryd.pinned.checked.prog.wantsStandIn t = false := by
  obtain rfl : f = 6 := Option.some.inj ((show Tryd.prog.funcNamed "larder/larderkeep.LineStatusBack" = some 6 by kernel_rfl).symm.trans hf) |>.symm
  obtain rfl : fn = Tryd.f6 := (Option.some.inj (Tryd.func6.symm.trans hfn)).symm
  refine ⟨by kernel_rfl, fun j t ht => ?_⟩
  rw [Tryd.params6] at ht
  have hm : t ∈ [3, 9, 9] := by simpa using Array.mem_of_getElem? ht
  have hall : ([3, 9, 9].all fun u => !Tryd.prog.wantsStandIn u) = true := by kernel_rfl
  exact (show Tryd.prog.wantsStandIn t = false by simpa using List.all_eq_true.1 hall t hm)
theorem lineStatusBack_proved : Rows.LineStatusBackUptoCardSaid :=
  Claim7.holds_tied_plain_at .later [] _ _ _ _ lineStatusBack_row (fun _ h => by cases h) (by kernel_rfl) (fun _ h => by cases h) lineStatusBackUpto_row_tie rfl ⟨rfl, rfl⟩ (by kernel_rfl) rfl lineStatusBack_plain (by kernel_rfl)
#print axioms lineStatusBack_proved
end Go.Proofs.YthocoplaehbncaaDoor
