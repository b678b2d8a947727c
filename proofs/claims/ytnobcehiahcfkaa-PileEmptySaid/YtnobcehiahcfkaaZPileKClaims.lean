/- PileEmpty: the given statement: for every input the law's Go text returns true and leaves its arguments as they were. No condition. -/
import Derived.Test.YtnobcehiahcfkaaY14
import Derived.Test.YtnobcehiahcfkaaY13
import Derived.Test.YtnobcehiahcfkaaY10
import Derived.Test.YtnobcehiahcfkaaY11
namespace Go.Proofs.Ytnobcehiahcfkaa
open Go.ChangeShapes Go.WideShapes Go.ChangeAt Go.RowKit
open Go.ChangeMaps (open_string shut_string)
set_option linter.unusedVariables false


set_option maxRecDepth 100000 in
theorem pileEmpty_lifted (os : Os) (started : os.Started) (H : Type) (enc : TypeId × Value → H) :
    ReturnsInHanded {} Try.checked os 14 .any (Rows.pileEmptySpec.pre6 enc Try.prog Try.f14 Rows.pileEmptyRow.domain false) (Rows.pileEmptySpec.post enc Try.prog Try.f14 false true false false) := by
  refine returnsInHanded_of_change_sized (C := Try.checked) Frame.own started (by kernel_rfl) Try.func14
    (ChangeSpec.witness6 (enc := enc) (C := Try.checked) false ⟨#[], #[.slice none 0 0], []⟩ 8 (by kernel_rfl) (by kernel_rfl) (by kernel_rfl) (by kernel_rfl)) ?_
  intro W base args ds gs before hval0 hW hcnd hsz0 _
  have hval : ∀ (j : Nat) t v, Try.f14.params[j]? = some t → args[j]? = some v → Value.okWide Try.prog W .any base t v := hval0
  have hsz : (DataW.weightsEach Try.prog (Try.f14.params.toList ++ Rows.pileEmptySpec.plain.varTypes Try.prog) (ds ++ gs)).all (· ≤ reachBytes) = true := hsz0
  have hW' := hW
  obtain ⟨p, q, hA0, hV, rfl, hfz, hnd⟩ := hW
  have hA : DataW.TrodAll enc Try.prog W 0 (fun _ => true) true Try.f14.params.toList args.toList ds p := hA0
  rw [Try.params14] at hA hval hsz
  obtain ⟨v0, vs0, d0, ds0, p0, q0, hargs, rfl, rfl, h0, r0⟩ := trodAll_cons hA
  obtain ⟨rfl, rfl, rfl⟩ := trodAll_nil r0
  obtain rfl : args = #[v0] := by cases args; simp_all
  obtain ⟨rfl, rfl⟩ := trodVars_none hV
  have y0 : ∀ es sp, d0 = .slice es sp → (es.length + sp.length) * 336 ≤ 140737488351232 := fun es sp hd => by have := sized_slice hsz (j := 0) rfl (by rw [hd]; rfl) Try.underlying36; rw [show (Try.prog).bytesOf 70 = 336 from by kernel_rfl] at this; simpa only [reachBytes] using this
  obtain ⟨a0, s0, z0, w0, x0⟩ := open_steps (hval 0 36 v0 rfl rfl) h0
  have q0 : a0.length ≤ 418861572474 := by
    rcases x0 with h | ⟨D, sp, hd, _⟩
    · rw [h]; simp
    · have := y0 _ _ hd
      simp only [List.length_map, List.length_range] at this
      omega
  refine (pileEmpty_walk v0 a0 W s0 q0 w0).mono fun e W' ⟨he, bel⟩ => ?_
  subst he
  exact Frame.close Frame.laidOut Try.underlying4 rfl (by rw [Try.params14]; intro t ht; simp only [List.mem_cons, List.not_mem_nil, or_false] at ht; rcases ht with rfl <;> exact ⟨by kernel_rfl, of_decide_eq_true (by kernel_rfl)⟩) rfl hW' rfl rfl rfl bel

theorem pileEmpty_proved : Rows.PileEmptySaid :=
  OpenClaim.holds_of_wide 14 Try.f14 rfl rfl rfl rfl rfl rfl rfl ⟨rfl, rfl, rfl, rfl, rfl⟩ rfl rfl rfl rfl rfl (by kernel_rfl) Try.func14 (by kernel_rfl)
    (of_decide_eq_true (by kernel_rfl)) (by unfold Func.isWrapper; first | (rw [if_pos (by decide +kernel)]; kernel_rfl) | (rw [if_neg (by decide +kernel)]; exact ⟨rfl, rfl⟩))
    (fun os started H enc _ => pileEmpty_lifted os started H enc)
#print axioms pileEmpty_proved
end Go.Proofs.Ytnobcehiahcfkaa
