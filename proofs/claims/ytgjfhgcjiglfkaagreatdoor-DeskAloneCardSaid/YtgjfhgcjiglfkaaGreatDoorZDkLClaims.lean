import Derived.Test.YtgjfhgcjiglfkaaGreatDoorD18
import Derived.Test.YtgjfhgcjiglfkaaGreatDoorD11
import Derived.Test.YtgjfhgcjiglfkaaGreatDoorCards
import Derived.Test.YtgjfhgcjiglfkaaGreatDoorTie
set_option linter.unusedVariables false
set_option linter.unusedSimpArgs false
/- DeskAlone: the given statement: for every input the law's Go text returns true and leaves its arguments as they were. No condition. -/

namespace Go.Proofs.YtgjfhgcjiglfkaaGreatDoor
open Go.ChangeShapes Go.WideShapes Go.ChangeAt Go.RowKit
open Go.ChangeMaps (open_string shut_string)
set_option linter.unusedVariables false


theorem deskAlone_met (os : Os) : laidMetH Tryz.prog Rows.deskAloneRow.laid ((World.laidAll Tryz.prog os Rows.deskAloneRow.laid).forCall (fun _ _ => 0) ⟨#[], #[.slice none 0 0, .int .i64 0], []⟩).memory := by
  rw [MakeChecks.laidMetH_plain _ _ _ (by kernel_rfl)]
  exact laidMet_laidAll _ (by kernel_rfl) (by kernel_rfl)
theorem deskAlone_reads (os : Os) {H : Type} (enc : TypeId × Value → H) : ∃ places, DataW.whole enc Tryz.prog ((World.laidAll Tryz.prog os Rows.deskAloneRow.laid).forCall (fun _ _ => 0) ⟨#[], #[.slice none 0 0, .int .i64 0], []⟩).memory Tryz.f9.params.toList Rows.deskAloneSpec.vars false (#[.slice none 0 0, .int .i64 0] : Array Value).toList 8 = some ([.nil, .lit (.int .i64 0)], [], places) :=
  ⟨[], by kernel_rfl⟩
set_option maxRecDepth 100000 in
theorem deskAlone_lifted (os : Os) (started : os.Started) (H : Type) (enc : TypeId × Value → H) (F : Stop.Interp) :
    ReturnsInHanded {} Tryz.checked os 9 .any ((OpenSpec.ofChange Rows.deskAloneSpec).preRow enc Tryz.prog Tryz.f9 Rows.deskAloneRow.domain false Rows.deskAloneRow.laid) (((OpenSpec.ofChange Rows.deskAloneSpec).at F).post enc Tryz.prog Tryz.f9 false true false false) := by
  obtain ⟨places, hx⟩ := deskAlone_reads os enc
  refine returnsInHanded_of_row (C := Tryz.checked) (s := OpenSpec.ofChange Rows.deskAloneSpec) Frame.own started (by kernel_rfl) Tryz.func9
    (door_witness (enc := enc) (C := Tryz.checked) (fn := Tryz.f9) #[.slice none 0 0, .int .i64 0] (by kernel_rfl) (by kernel_rfl) (by kernel_rfl)
      (OpenSpec.preRow_of_cond 8 hx (by kernel_rfl) (fun k hk => by cases hk) (by kernel_rfl) (deskAlone_met os))) ?_
  intro W base args ds gs before hval0 hW hcnd hk0 hsz0 hL hshape _
  have hval : ∀ (j : Nat) t v, Tryz.f9.params[j]? = some t → args[j]? = some v → Value.okWide Tryz.prog W .any base t v := hval0
  have hW' : DataW.Whole enc Tryz.prog Tryz.f9.params.toList Rows.deskAloneSpec.vars false W args.toList ds gs before := hW
  have hsz : (DataW.weightsEach Tryz.prog (Tryz.f9.params.toList ++ Rows.deskAloneSpec.plain.varTypes Tryz.prog) (ds ++ gs)).all (· ≤ reachBytes) = true := hsz0
  obtain ⟨p, q, hA0, hV, rfl, hfz, hnd⟩ := hW
  have hA : DataW.TrodAll enc Tryz.prog W 0 (fun _ => true) true Tryz.f9.params.toList args.toList ds p := hA0
  rw [Tryz.params9] at hA hval hsz
  have hp10 : HasP10 W := by
    have ht := tabIs_mem (name := "internal/strconv.uint64pow10") (g := 1) (t := 352) (e := 215) (n := 20) (k := .u64) (zs := Lib.pow10Tab) (by kernel_rfl) (by kernel_rfl) Tryz.underlying352 Tryz.underlying215 (by kernel_rfl) (by kernel_rfl) (laid_plain (by kernel_rfl) hL) (by rw [← (show Rows.laid_internal_strconv_uint64pow10 (H := Unit) = Lib.tabData .u64 Lib.pow10Tab by kernel_rfl)]; simp [Rows.deskAloneRow])
    exact ⟨ht, lt_of_cell (ht.cell (g := 1) (by kernel_rfl) 0 (by decide))⟩
  have herr : Bd.HasErr W := by
    have hlp := laid_plain (by kernel_rfl) hL
    obtain ⟨t1, p1, hs1⟩ := iface_mem (name := "strconv.ErrSyntax") (g := 4) (t := 140) (by kernel_rfl) (by kernel_rfl) Tryz.underlying140 hlp (by rw [show ("strconv.ErrSyntax", DataW.iface (H := Unit) _ _) = ("strconv.ErrSyntax", Rows.laid_strconv_ErrSyntax) from rfl]; simp [Rows.deskAloneRow])
    obtain ⟨t2, p2, hs2⟩ := iface_mem (name := "strconv.ErrRange") (g := 5) (t := 140) (by kernel_rfl) (by kernel_rfl) Tryz.underlying140 hlp (by rw [show ("strconv.ErrRange", DataW.iface (H := Unit) _ _) = ("strconv.ErrRange", Rows.laid_strconv_ErrRange) from rfl]; simp [Rows.deskAloneRow])
    exact ⟨hp10, ⟨t1, p1, hs1⟩, ⟨t2, p2, hs2⟩, lt_of_cell hs1, lt_of_cell hs2⟩
  have hmax : HasMaxL W := by
    obtain ⟨m, hm⟩ := cell_of_shapedOpen_int (g := 0) (t := 3) (zero := #[.int .i64 0]) hshape (of_decide_eq_true (by kernel_rfl)) (by kernel_rfl) rfl (by kernel_rfl) (by kernel_rfl) Tryz.underlying3
    exact ⟨⟨m, hm⟩, lt_of_cell hm⟩
  obtain ⟨v0, vs0, d0, ds0, p0, q0, hargs, rfl, rfl, h0, r0⟩ := trodAll_cons hA
  obtain ⟨v1, vs1, d1, ds1, p1, q1, rfl, rfl, rfl, h1, r1⟩ := trodAll_cons r0
  obtain ⟨rfl, rfl, rfl⟩ := trodAll_nil r1
  obtain rfl : args = #[v0, v1] := by cases args; simp_all
  obtain ⟨rfl, rfl⟩ := trodVars_none hV
  have y0 : ∀ es sp, d0 = .slice es sp → (es.length + sp.length) * 16 ≤ 140737488351232 := fun es sp hd => by have := sized_slice hsz (j := 0) rfl (by rw [hd]; rfl) Tryz.underlying69; rw [show (Tryz.prog).bytesOf 9 = 16 from by kernel_rfl] at this; simpa only [reachBytes] using this
  have x0 : ∀ es sp, d0 = .slice es sp → ∀ x ∈ es, ∀ b0, x = .lit (.string b0) → b0.length ≤ 140737488351232 := fun es sp hd => sized_ts hsz (j := 0) (sp := sp) rfl (by rw [hd]; rfl) Tryz.underlying69
  obtain ⟨a0, s0, z0, w0⟩ := open_textsr Tryz.underlying69 Tryz.underlying9 (by kernel_rfl) (hval 0 69 v0 rfl rfl) h0 y0 x0
  obtain ⟨a1, rfl, rfl, rfl, w1⟩ := open_int Tryz.underlying3 (hval 1 3 v1 rfl rfl) h1
  refine (Dk.deskAlone_walk v0 a0 a1 W s0 (wide_of w1) ⟨herr, hmax⟩).mono fun e W' ⟨he, bel⟩ => ?_
  subst he
  exact Frame.close Frame.laidOut Tryz.underlying4 rfl (by rw [Tryz.params9]; intro t ht; simp only [List.mem_cons, List.not_mem_nil, or_false] at ht; rcases ht with rfl | rfl <;> exact ⟨by kernel_rfl, of_decide_eq_true (by kernel_rfl)⟩) rfl hW' rfl rfl rfl bel

theorem deskAlone_closed : joinedFacts Tryz.pinned.checked.prog 9 Tryz.f9 (OpenSpec.ofChange Rows.deskAloneSpec).bare Rows.deskAloneRow = true := by kernel_rfl
theorem deskAlone_named : Tryz.pinned.checked.prog.funcNamed Rows.deskAloneRow.func = some 9 := by kernel_rfl
theorem deskAlone_inst : Tryz.f9.isInstance Tryz.pinned.checked.prog Rows.deskAloneRow.origin Rows.deskAloneRow.targs := of_decide_eq_true (by kernel_rfl)
theorem deskAlone_wrap : Tryz.f9.isWrapper Tryz.pinned.checked.prog Rows.deskAloneRow.wrapper Rows.deskAloneRow.mainSum := by unfold Func.isWrapper; first | (rw [if_pos (by decide +kernel)]; kernel_rfl) | (rw [if_neg (by decide +kernel)]; exact ⟨rfl, rfl⟩)
theorem deskAlone_row : Rows.DeskAloneSaid :=
  OpenClaim.holds_of_cond 9 Tryz.f9 rfl rfl rfl rfl rfl rfl rfl ⟨rfl, rfl, rfl, rfl, rfl⟩ rfl rfl rfl rfl rfl deskAlone_named Tryz.func9 deskAlone_closed deskAlone_inst deskAlone_wrap
    (fun os started H enc _ F => by rw [OpenClaim.pre_eq_preRow]; exact deskAlone_lifted os started H enc F)
theorem deskAlone_plain (f : FuncId) (fn : Func) (hf : Tryz.pinned.checked.prog.funcNamed "larder/larderkeep.DeskAlone" = some f) (hfn : Tryz.pinned.checked.prog.funcs[f]? = some fn) :
    true = Tryz.pinned.checked.prog.looks [] ∧ ∀ (j : Nat) t, fn.params[j]? = some t → Tryz.pinned.checked.prog.wantsStandIn t = false := by
  obtain rfl : f = 9 := Option.some.inj ((show Tryz.prog.funcNamed "larder/larderkeep.DeskAlone" = some 9 by kernel_rfl).symm.trans hf) |>.symm
  obtain rfl : fn = Tryz.f9 := (Option.some.inj (Tryz.func9.symm.trans hfn)).symm
  refine ⟨by kernel_rfl, fun j t ht => ?_⟩
  rw [Tryz.params9] at ht
  have hm : t ∈ [69, 3] := by simpa using Array.mem_of_getElem? ht
  have hall : ([69, 3].all fun u => !Tryz.prog.wantsStandIn u) = true := by kernel_rfl
  exact (show Tryz.prog.wantsStandIn t = false by simpa using List.all_eq_true.1 hall t hm)
theorem deskAlone_proved : Rows.DeskAloneCardSaid :=
  Claim7.holds_tied_plain_at .later [] _ _ _ _ deskAlone_row (fun _ h => by cases h) (by kernel_rfl) (fun _ h => by cases h) deskAlone_row_tie rfl ⟨rfl, rfl⟩ (by kernel_rfl) rfl deskAlone_plain (by kernel_rfl)
#print axioms deskAlone_proved
end Go.Proofs.YtgjfhgcjiglfkaaGreatDoor
