/- SpanBack: the given statement: for every input the law's Go text returns true and leaves its arguments as they were. No condition. -/
import Derived.Test.YthhhlaoiampinaaDoorSpwD
import Derived.Test.YthhhlaoiampinaaDoorFrame
import Derived.Test.YthhhlaoiampinaaDoorOpen
import Derived.Test.YthhhlaoiampinaaDoorCards
import Derived.Test.YthhhlaoiampinaaDoorTie
import Derived.Test.YthhhlaoiampinaaDoorDoor
import Derived.Test.YthhhlaoiampinaaDoorErrV

namespace Go.Proofs.YthhhlaoiampinaaDoor
open Go.ChangeShapes Go.WideShapes Go.ChangeAt Go.RowKit
open Go.ChangeMaps (open_string shut_string)
set_option linter.unusedVariables false


theorem spanBack_met (os : Os) : laidMetH Tryd.prog Rows.spanBackRow.laid ((World.laidAll Tryd.prog os Rows.spanBackRow.laid).forCall (fun _ _ => 0) ⟨#[], #[.slice none 0 0], []⟩).memory := by
  rw [MakeChecks.laidMetH_plain _ _ _ (by kernel_rfl)]
  exact laidMet_laidAll _ (by kernel_rfl) (by kernel_rfl)
theorem spanBack_reads (os : Os) {H : Type} (enc : TypeId × Value → H) : ∃ places, DataW.whole enc Tryd.prog ((World.laidAll Tryd.prog os Rows.spanBackRow.laid).forCall (fun _ _ => 0) ⟨#[], #[.slice none 0 0], []⟩).memory Tryd.f4.params.toList Rows.spanBackSpec.vars false (#[.slice none 0 0] : Array Value).toList 8 = some ([.nil], [], places) :=
  ⟨[], by kernel_rfl⟩
set_option maxRecDepth 100000 in
theorem spanBack_lifted (os : Os) (started : os.Started) (H : Type) (enc : TypeId × Value → H) (F : Stop.Interp) :
    ReturnsInHanded {} Tryd.checked os 4 .any ((OpenSpec.ofChange Rows.spanBackSpec).preRow enc Tryd.prog Tryd.f4 Rows.spanBackRow.domain false Rows.spanBackRow.laid) (((OpenSpec.ofChange Rows.spanBackSpec).at F).post enc Tryd.prog Tryd.f4 false true false false) := by
  obtain ⟨places, hx⟩ := spanBack_reads os enc
  refine returnsInHanded_of_row (C := Tryd.checked) (s := OpenSpec.ofChange Rows.spanBackSpec) Frame.own started (by kernel_rfl) Tryd.func4
    (door_witness (enc := enc) (C := Tryd.checked) (fn := Tryd.f4) #[.slice none 0 0] (by kernel_rfl) (by kernel_rfl) (by kernel_rfl)
      (OpenSpec.preRow_of_cond 8 hx (by kernel_rfl) (fun k hk => by cases hk) (by kernel_rfl) (spanBack_met os))) ?_
  intro W base args ds gs before hval0 hW hcnd hk0 hsz0 hL hshape _
  have hval : ∀ (j : Nat) t v, Tryd.f4.params[j]? = some t → args[j]? = some v → Value.okWide Tryd.prog W .any base t v := hval0
  have hW' : DataW.Whole enc Tryd.prog Tryd.f4.params.toList Rows.spanBackSpec.vars false W args.toList ds gs before := hW
  have hsz : (DataW.weightsEach Tryd.prog (Tryd.f4.params.toList ++ Rows.spanBackSpec.plain.varTypes Tryd.prog) (ds ++ gs)).all (· ≤ reachBytes) = true := hsz0
  obtain ⟨p, q, hA0, hV, rfl, hfz, hnd⟩ := hW
  have hA : DataW.TrodAll enc Tryd.prog W 0 (fun _ => true) true Tryd.f4.params.toList args.toList ds p := hA0
  rw [Tryd.params4] at hA hval hsz
  have hp10 : HasP10 W := by
    have ht := tabIs_mem (name := "internal/strconv.uint64pow10") (g := 6) (t := 139) (e := 123) (n := 20) (k := .u64) (zs := Lib.pow10Tab) (by kernel_rfl) (by kernel_rfl) Tryd.underlying139 Tryd.underlying123 (by kernel_rfl) (by kernel_rfl) (laid_plain (by kernel_rfl) hL) (by rw [← (show Rows.laid_internal_strconv_uint64pow10 (H := Unit) = Lib.tabData .u64 Lib.pow10Tab by kernel_rfl)]; simp [Rows.spanBackRow])
    exact ⟨ht, lt_of_cell (ht.cell (g := 6) (by kernel_rfl) 0 (by decide))⟩
  have herr : Bd.HasErr W := by
    have hlp := laid_plain (by kernel_rfl) hL
    obtain ⟨t1, p1, hs1⟩ := iface_mem (name := "strconv.ErrSyntax") (g := 7) (t := 51) (by kernel_rfl) (by kernel_rfl) Tryd.underlying51 hlp (by rw [show ("strconv.ErrSyntax", DataW.iface (H := Unit) _ _) = ("strconv.ErrSyntax", Rows.laid_strconv_ErrSyntax) from rfl]; simp [Rows.spanBackRow])
    obtain ⟨t2, p2, hs2⟩ := iface_mem (name := "strconv.ErrRange") (g := 8) (t := 51) (by kernel_rfl) (by kernel_rfl) Tryd.underlying51 hlp (by rw [show ("strconv.ErrRange", DataW.iface (H := Unit) _ _) = ("strconv.ErrRange", Rows.laid_strconv_ErrRange) from rfl]; simp [Rows.spanBackRow])
    exact ⟨hp10, ⟨t1, p1, hs1⟩, ⟨t2, p2, hs2⟩, lt_of_cell hs1, lt_of_cell hs2⟩
  have hmax : HasMaxS W := by
    obtain ⟨m, hm⟩ := cell_of_shapedOpen_int (g := 5) (t := 3) (zero := #[.int .i64 0]) hshape (of_decide_eq_true (by kernel_rfl)) (by kernel_rfl) rfl (by kernel_rfl) (by kernel_rfl) Tryd.underlying3
    exact ⟨⟨m, hm⟩, lt_of_cell hm⟩
  obtain ⟨v0, vs0, d0, ds0, p0, q0, hargs, rfl, rfl, h0, r0⟩ := trodAll_cons hA
  obtain ⟨rfl, rfl, rfl⟩ := trodAll_nil r0
  obtain rfl : args = #[v0] := by cases args; simp_all
  obtain ⟨rfl, rfl⟩ := trodVars_none hV
  have y0 : ∀ es sp, d0 = .slice es sp → (es.length + sp.length) * 16 ≤ 140737488351232 := fun es sp hd => by have := sized_slice hsz (j := 0) rfl (by rw [hd]; rfl) Tryd.underlying33; rw [show (Tryd.prog).bytesOf 40 = 16 from by kernel_rfl] at this; simpa only [reachBytes] using this
  obtain ⟨a0, s0, z0, w0⟩ := open_iir Tryd.underlying33 Tryd.underlying40 (by kernel_rfl) (by kernel_rfl) Tryd.underlying3 Tryd.underlying3 (hval 0 33 v0 rfl rfl) h0 y0
  refine (Spw.spanBack_walk v0 a0 W s0 (by omega) hmax herr).mono fun e W' ⟨he, bel⟩ => ?_
  subst he
  exact Frame.close Frame.laidOut Tryd.underlying4 rfl (by rw [Tryd.params4]; intro t ht; simp only [List.mem_cons, List.not_mem_nil, or_false] at ht; rcases ht with rfl <;> exact ⟨by kernel_rfl, of_decide_eq_true (by kernel_rfl)⟩) rfl hW' rfl rfl rfl bel

theorem spanBack_row : Rows.SpanBackSaid :=
  OpenClaim.holds_of_cond 4 Tryd.f4 rfl rfl rfl rfl rfl rfl rfl ⟨rfl, rfl, rfl, rfl, rfl⟩ rfl rfl rfl rfl rfl (by kernel_rfl) Tryd.func4 (by kernel_rfl)
    (of_decide_eq_true (by kernel_rfl)) (by unfold Func.isWrapper; first | (rw [if_pos (by decide +kernel)]; kernel_rfl) | (rw [if_neg (by decide +kernel)]; exact ⟨rfl, rfl⟩))
    (fun os started H enc _ F => by rw [OpenClaim.pre_eq_preRow]; exact spanBack_lifted os started H enc F)
theorem spanBack_plain (f : FuncId) (fn : Func) (hf : Tryd.pinned.checked.prog.funcNamed "larder/larderkeep.SpanBack" = some f) (hfn : Tryd.pinned.checked.prog.funcs[f]? = some fn) :
    true = Tryd.pinned.checked.prog.looks [] ∧ ∀ (j : Nat) t, fn.params[j]? = some t → Tryd.pinned.checked.prog.wantsStandIn t = false := by
  obtain rfl : f = 4 := Option.some.inj ((show Tryd.prog.funcNamed "larder/larderkeep.SpanBack" = some 4 by kernel_rfl).symm.trans hf) |>.symm
  obtain rfl : fn = Tryd.f4 := (Option.some.inj (Tryd.func4.symm.trans hfn)).symm
  refine ⟨by kernel_rfl, fun j t ht => ?_⟩
  rw [Tryd.params4] at ht
  have hm : t ∈ [33] := by simpa using Array.mem_of_getElem? ht
  have hall : ([33].all fun u => !Tryd.prog.wantsStandIn u) = true := by kernel_rfl
  exact (show Tryd.prog.wantsStandIn t = false by simpa using List.all_eq_true.1 hall t hm)
theorem spanBack_proved : Rows.SpanBackCardSaid :=
  Claim7.holds_tied_plain_at .later [] _ _ _ _ spanBack_row (fun _ h => by cases h) (by kernel_rfl) (fun _ h => by cases h) spanBack_row_tie rfl ⟨rfl, rfl⟩ (by kernel_rfl) rfl spanBack_plain (by kernel_rfl)
#print axioms spanBack_proved
end Go.Proofs.YthhhlaoiampinaaDoor
