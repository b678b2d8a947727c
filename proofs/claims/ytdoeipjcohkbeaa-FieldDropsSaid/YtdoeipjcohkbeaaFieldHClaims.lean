/- FieldDrops: the given statement: for every input the law's Go text returns true and leaves its arguments as they were. No condition. -/
import Derived.Test.YtdoeipjcohkbeaaFieldH
import Derived.Test.YtdoeipjcohkbeaaFrame
import Derived.Test.YtdoeipjcohkbeaaOpen
import Derived.Test.YtdoeipjcohkbeaaOpenR

namespace Go.Proofs.Ytdoeipjcohkbeaa
open Go.ChangeShapes Go.WideShapes Go.ChangeAt Go.RowKit
open Go.ChangeMaps (open_string shut_string)
set_option linter.unusedVariables false


set_option maxRecDepth 100000 in
theorem fieldDrops_lifted (os : Os) (started : os.Started) (H : Type) (enc : TypeId × Value → H) :
    ReturnsInHanded {} Try.checked os 7 .any (Rows.fieldDropsSpec.pre6 enc Try.prog Try.f7 Rows.fieldDropsRow.domain false) (Rows.fieldDropsSpec.post enc Try.prog Try.f7 false true false false) := by
  refine returnsInHanded_of_change_sized (C := Try.checked) Frame.own started (by kernel_rfl) Try.func7
    (ChangeSpec.witness6 (enc := enc) (C := Try.checked) false ⟨#[], #[.slice none 0 0, .string ByteArray.empty, .string ByteArray.empty], []⟩ 8 (by kernel_rfl) (by kernel_rfl) (by kernel_rfl) (by kernel_rfl)) ?_
  intro W base args ds gs before hval0 hW hcnd hsz0 _
  have hval : ∀ (j : Nat) t v, Try.f7.params[j]? = some t → args[j]? = some v → Value.okWide Try.prog W .any base t v := hval0
  have hsz : (DataW.weightsEach Try.prog (Try.f7.params.toList ++ Rows.fieldDropsSpec.plain.varTypes Try.prog) (ds ++ gs)).all (· ≤ reachBytes) = true := hsz0
  have hW' := hW
  obtain ⟨p, q, hA0, hV, rfl, hfz, hnd⟩ := hW
  have hA : DataW.TrodAll enc Try.prog W 0 (fun _ => true) true Try.f7.params.toList args.toList ds p := hA0
  rw [Try.params7] at hA hval hsz
  obtain ⟨v0, vs0, d0, ds0, p0, q0, hargs, rfl, rfl, h0, r0⟩ := trodAll_cons hA
  obtain ⟨v1, vs1, d1, ds1, p1, q1, rfl, rfl, rfl, h1, r1⟩ := trodAll_cons r0
  obtain ⟨v2, vs2, d2, ds2, p2, q2, rfl, rfl, rfl, h2, r2⟩ := trodAll_cons r1
  obtain ⟨rfl, rfl, rfl⟩ := trodAll_nil r2
  obtain rfl : args = #[v0, v1, v2] := by cases args; simp_all
  obtain ⟨rfl, rfl⟩ := trodVars_none hV
  have y0 : ∀ es sp, d0 = .slice es sp → (es.length + sp.length) * 32 ≤ 140737488351232 := fun es sp hd => by have := sized_slice hsz (j := 0) rfl (by rw [hd]; rfl) Try.underlying31; rw [show (Try.prog).bytesOf 38 = 32 from by kernel_rfl] at this; simpa only [reachBytes] using this
  have x0 : ∀ es sp, d0 = .slice es sp → ∀ x ∈ es, ∀ b0 b1, x = .agg [.lit (.string b0), .lit (.string b1)] → b0.length ≤ 140737488351232 ∧ b1.length ≤ 140737488351232 := fun es sp hd => sized_ss hsz (j := 0) (sp := sp) rfl (by rw [hd]; rfl) Try.underlying31 Try.underlying38
  obtain ⟨a0, s0, z0, w0⟩ := open_ssr Try.underlying31 Try.underlying38 (by kernel_rfl) (by kernel_rfl) Try.underlying9 Try.underlying9 (hval 0 31 v0 rfl rfl) h0 y0 x0
  obtain ⟨a1, rfl, rfl, rfl, w1⟩ := open_string Try.underlying9 (hval 1 9 v1 rfl rfl) h1
  have z1 : a1.size ≤ 140737488351232 := by have := sized_string hsz (j := 1) rfl rfl; simp only [reachBytes] at this; simpa using this
  obtain ⟨a2, rfl, rfl, rfl, w2⟩ := open_string Try.underlying9 (hval 2 9 v2 rfl rfl) h2
  have z2 : a2.size ≤ 140737488351232 := by have := sized_string hsz (j := 2) rfl rfl; simp only [reachBytes] at this; simpa using this
  refine (fieldDrops_walk v0 a0 a1 a2 W s0 z0 w0 z1 z2).mono fun e W' ⟨he, bel⟩ => ?_
  subst he
  exact Frame.close Frame.laidOut Try.underlying4 rfl (by rw [Try.params7]; intro t ht; simp only [List.mem_cons, List.not_mem_nil, or_false] at ht; rcases ht with rfl | rfl | rfl <;> exact ⟨by kernel_rfl, of_decide_eq_true (by kernel_rfl)⟩) rfl hW' rfl rfl rfl bel

theorem fieldDrops_proved : Rows.FieldDropsSaid :=
  OpenClaim.holds_of_wide 7 Try.f7 rfl rfl rfl rfl rfl rfl rfl ⟨rfl, rfl, rfl, rfl, rfl⟩ rfl rfl rfl rfl rfl (by kernel_rfl) Try.func7 (by kernel_rfl)
    (of_decide_eq_true (by kernel_rfl)) (by unfold Func.isWrapper; first | (rw [if_pos (by decide +kernel)]; kernel_rfl) | (rw [if_neg (by decide +kernel)]; exact ⟨rfl, rfl⟩))
    (fun os started H enc _ => fieldDrops_lifted os started H enc)
#print axioms fieldDrops_proved
end Go.Proofs.Ytdoeipjcohkbeaa
