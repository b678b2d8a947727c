/- CondNothing: the law's walk. -/
import Derived.Test.YtiijgbgknolmcaaDoorConL
namespace Go.Proofs.YtiijgbgknolmcaaDoor
set_option maxRecDepth 20000
open Go.RowKit
open Cn
set_option maxHeartbeats 6400000 in
theorem condNothing_walk (m : ByteArray) (u : Value) (l : List Fld) (there : Bool) (tag : ByteArray) (modified : Int) (w : World) (hmz : m.size ≤ 1048576) (h : SlR w e_ss u l) (hs : (l.map (fun d => d.1.size + d.2.size + 2)).sum ≤ 1048576) (ht : tag.size ≤ 1048576) (hmo : (Lit.int .i64 modified).wf = true) (hmax : HasMax w) (hp10 : HasP10 w) :
    Calls Tryd.prog 3 #[.string m, u, .bool there, .string tag, .int .i64 modified] w fun e w' => e = .returned (.bool true) ∧ Below w.heap.size w w' := by
  have hlen : l.length ≤ 1048576 := Nat.le_trans (sum_len _ (fun _ => by omega) l) hs
  have hlims : Lims l := fun f hf => by have := sum_mem (fun d : Fld => d.1.size + d.2.size + 2) hf; omega
  have hsum : (l.map (fun f => f.2.size + 2)).sum ≤ 1048576 := by
    refine Nat.le_trans ?_ hs
    clear hs hlen hlims h
    induction l with
    | nil => simp
    | cons x m ih => simp only [List.map_cons, List.sum_cons]; omega
  have hj : ∀ n ∈ [nIM, nINM, nIUS, nIMS], (joinL (selF l n) sep2).length ≤ 140737488351232 := fun n _ => Nat.le_trans (selF_join l n) (by omega)
  have HF : Hid (FOk w u l) := ⟨h, by omega, hlims⟩
  have HP := Lib.hid hp10
  have HM := Lib.hid hmax
  have HS := Lib.hid (Sel.plain l)
  have HJ := Lib.hid hj
  have HPUT := Lib.hid (fun w u hp hm hu => put_any w hp hm u hu)
  clear h hp10 hmax hmo hs hsum hj hlims
  have HN := Lib.hid (lit_fld w ⟨#[42]⟩)
  have B0 : Below w.heap.size w (w.alloc (.cells #[.string nIM, .string (⟨#[42]⟩ : ByteArray)] 25)) := (Below.refl _ _).alloc (Nat.le_refl _) _
  go_enter Tryd.func3, Tryd.ntmps3
  go_wp2_with fail
  refine (HPUT.out _ _ (HP.out.below rfl B0) (HM.out.below rfl B0) HN.out).mono ?_
  rintro e w1 ⟨rfl, b1⟩
  have B1 := B0.trans (b1.mono B0.size)
  go_wp2_with fail
  refine (eval_any m u l there tag modified _ (HF.out.below B1) (by omega) HJ.out (HP.out.below rfl B1) (HM.out.below rfl B1)).mono ?_
  rintro e w2 ⟨⟨r, rfl, ha⟩, b2⟩
  have B2 := belT B1 b2
  have hin := ans_in ha
  have H304 : Hid (r = 304 → there = true ∧ readsF m = true) := fun h => by subst h; exact ans_304 ha
  clear ha
  have HPL : Hid (∀ w', Below w.heap.size w w' → Calls Tryd.prog 14 #[u] w' fun e w'' => (∃ v, e = .returned v ∧ FOk w'' v (plainly l)) ∧ Below w'.heap.size w' w'') := fun w' hb => plainly_any u l w' (HF.out.below hb)
  have HEV : Hid (∀ v w', FOk w' v (plainly l) → HasP10 w' → HasMaxL w' → Calls Tryd.prog 13 #[.string m, v, .bool there, .string tag, .int .i64 modified] w' fun e w'' => e = .returned (.int .i64 0) ∧ Below w'.heap.size w' w'') := by
    intro v w' hf hp hm
    refine (eval_any m v (plainly l) there tag modified w' hf (by omega) (HS.out.lim Small.nil Small.nil Small.nil Small.nil) hp hm).mono ?_
    rintro e w'' ⟨⟨q, rfl, ha⟩, hb⟩
    exact ⟨by rw [ans_none ha HS.out.im HS.out.inm HS.out.ims HS.out.ius], hb⟩
  have hcs : r = 0 ∨ r = 412 ∨ (r = 304 ∧ there = true ∧ ((m.toList == [71, 69, 84]) = true ∨ ((m.toList == [71, 69, 84]) = false ∧ (m.toList == [72, 69, 65, 68]) = true))) := by
    rcases hin with h | h | h
    · exact .inl h
    · right; right
      obtain ⟨h1, h2⟩ := H304.out h
      refine ⟨h, h1, ?_⟩
      unfold readsF at h2
      cases h3 : (m.toList == [71, 69, 84])
      · rw [h3] at h2
        exact .inr ⟨rfl, by simpa using h2⟩
      · exact .inl rfl
    · exact .inr (.inl h)
  clear hin H304 hlen hmz
  rcases hcs with rfl | rfl | ⟨rfl, rfl, t1 | ⟨t1, t2⟩⟩
  all_goals
    go_wp2_with fail
    refine (HPL.out _ B2).mono ?_
    rintro e w3 ⟨⟨v, rfl, f3⟩, b3⟩
    have B3 := belT B2 b3
    have HF3 := Lib.hid f3
    clear f3
    go_wp2_with fail
    refine (HEV.out v _ HF3.out (HP.out.below rfl B3) (HM.out.below rfl B3)).mono ?_
    rintro e w4 ⟨rfl, b4⟩
    go_wp2_with fail
    go_ret
    exact ⟨rfl, belT B3 b4⟩
end Go.Proofs.YtiijgbgknolmcaaDoor
