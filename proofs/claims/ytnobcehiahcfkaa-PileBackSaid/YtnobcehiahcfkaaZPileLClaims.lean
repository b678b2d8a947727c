/- PileBack: the given statement: for every input the law's Go text returns true and leaves its arguments as they were. No condition. -/
import Derived.Test.YtnobcehiahcfkaaY14
import Derived.Test.YtnobcehiahcfkaaY13
import Derived.Test.YtnobcehiahcfkaaY10
import Derived.Test.YtnobcehiahcfkaaY11
namespace Go.Proofs.Ytnobcehiahcfkaa
open Go.ChangeShapes Go.WideShapes Go.ChangeAt Go.RowKit
open Go.ChangeMaps (open_string shut_string)
set_option linter.unusedVariables false


set_option maxRecDepth 100000 in
theorem pileBack_lifted (os : Os) (started : os.Started) (H : Type) (enc : TypeId × Value → H) :
    ReturnsInHanded {} Try.checked os 12 .any (Rows.pileBackSpec.pre6 enc Try.prog Try.f12 Rows.pileBackRow.domain false) (Rows.pileBackSpec.post enc Try.prog Try.f12 false true false false) := by
  refine returnsInHanded_of_change_sized (C := Try.checked) Frame.own started (by kernel_rfl) Try.func12
    (ChangeSpec.witness6 (enc := enc) (C := Try.checked) false ⟨#[], #[.string ByteArray.empty, .slice none 0 0], []⟩ 8 (by kernel_rfl) (by kernel_rfl) (by kernel_rfl) (by kernel_rfl)) ?_
  intro W base args ds gs before hval0 hW hcnd hsz0 _
  have hval : ∀ (j : Nat) t v, Try.f12.params[j]? = some t → args[j]? = some v → Value.okWide Try.prog W .any base t v := hval0
  have hsz : (DataW.weightsEach Try.prog (Try.f12.params.toList ++ Rows.pileBackSpec.plain.varTypes Try.prog) (ds ++ gs)).all (· ≤ reachBytes) = true := hsz0
  have hW' := hW
  obtain ⟨p, q, hA0, hV, rfl, hfz, hnd⟩ := hW
  have hA : DataW.TrodAll enc Try.prog W 0 (fun _ => true) true Try.f12.params.toList args.toList ds p := hA0
  rw [Try.params12] at hA hval hsz
  obtain ⟨v0, vs0, d0, ds0, p0, q0, hargs, rfl, rfl, h0, r0⟩ := trodAll_cons hA
  obtain ⟨v1, vs1, d1, ds1, p1, q1, rfl, rfl, rfl, h1, r1⟩ := trodAll_cons r0
  obtain ⟨rfl, rfl, rfl⟩ := trodAll_nil r1
  obtain rfl : args = #[v0, v1] := by cases args; simp_all
  obtain ⟨rfl, rfl⟩ := trodVars_none hV
  obtain ⟨a0, rfl, rfl, rfl, w0⟩ := open_string Try.underlying9 (hval 0 9 v0 rfl rfl) h0
  have z0 : a0.size ≤ 140737488351232 := by have := sized_string hsz (j := 0) rfl rfl; simp only [reachBytes] at this; simpa using this
  have y1 : ∀ es sp, d1 = .slice es sp → (es.length + sp.length) * 336 ≤ 140737488351232 := fun es sp hd => by have := sized_slice hsz (j := 1) rfl (by rw [hd]; rfl) Try.underlying36; rw [show (Try.prog).bytesOf 70 = 336 from by kernel_rfl] at this; simpa only [reachBytes] using this
  obtain ⟨a1, s1, z1, w1, x1⟩ := open_steps (hval 1 36 v1 rfl rfl) h1
  have q1 : a1.length ≤ 418861572474 := by
    rcases x1 with h | ⟨D, sp, hd, _⟩
    · rw [h]; simp
    · have := y1 _ _ hd
      simp only [List.length_map, List.length_range] at this
      omega
  refine (pileBack_walk a0 v1 a1 W z0 s1 q1 w1).mono fun e W' ⟨he, bel⟩ => ?_
  subst he
  exact Frame.close Frame.laidOut Try.underlying4 rfl (by rw [Try.params12]; intro t ht; simp only [List.mem_cons, List.not_mem_nil, or_false] at ht; rcases ht with rfl | rfl <;> exact ⟨by kernel_rfl, of_decide_eq_true (by kernel_rfl)⟩) rfl hW' rfl rfl rfl bel

theorem pileBack_proved : Rows.PileBackSaid :=
  OpenClaim.holds_of_wide 12 Try.f12 rfl rfl rfl rfl rfl rfl rfl ⟨rfl, rfl, rfl, rfl, rfl⟩ rfl rfl rfl rfl rfl (by kernel_rfl) Try.func12 (by kernel_rfl)
    (of_decide_eq_true (by kernel_rfl)) (by unfold Func.isWrapper; first | (rw [if_pos (by decide +kernel)]; kernel_rfl) | (rw [if_neg (by decide +kernel)]; exact ⟨rfl, rfl⟩))
    (fun os started H enc _ => pileBack_lifted os started H enc)
#print axioms pileBack_proved
end Go.Proofs.Ytnobcehiahcfkaa
