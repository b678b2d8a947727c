/- CondStar: the law's walk. -/
import Derived.Test.YtiijgbgknolmcaaDoorConL
namespace Go.Proofs.YtiijgbgknolmcaaDoor
set_option maxRecDepth 20000
open Go.RowKit
open Cn
set_option maxHeartbeats 3200000 in
theorem condStar_walk (m : ByteArray) (u : Value) (l : List Fld) (there : Bool) (tag : ByteArray) (modified : Int) (w : World) (hmz : m.size ≤ 140737488351232) (h : SlR w e_ss u l) (hl : l.length * 32 ≤ 140737488351232) (hz : ∀ d ∈ l, d.1.size ≤ 140737488351232 ∧ d.2.size ≤ 140737488351232) (ht : tag.size ≤ 140737488351232) (hmo : (Lit.int .i64 modified).wf = true) (hmax : HasMax w) (hp10 : HasP10 w) :
    Calls Tryd.prog 4 #[.string m, u, .bool there, .string tag, .int .i64 modified] w fun e w' => e = .returned (.bool true) ∧ Below w.heap.size w w' := by
  have HF : Hid (FOk w u l) := ⟨h, by omega, fun f hf => (hz f hf).1⟩
  have HP := Lib.hid hp10
  have HM := Lib.hid hmax
  have hpl := plainly_len l
  have HS := Lib.hid (Sel.plain l)
  clear h hz hp10 hmax hmo
  generalize hPL : plainly l = P at *
  go_enter Tryd.func4, Tryd.ntmps4
  go_wp2_with fail
  refine (plainly_any u l _ HF.out).mono ?_
  rintro e w1 ⟨⟨x1, rfl, f1⟩, b1⟩
  rw [hPL] at f1
  have HF1 := Lib.hid f1
  clear f1
  go_wp2_with fail
  refine (with_any x1 P nIM ⟨#[42]⟩ _ HF1.out (by omega) (by decide)).mono ?_
  rintro e w2 ⟨⟨x2, rfl, f2⟩, b2⟩
  have HF2 := Lib.hid f2
  have B2 := belT b1 b2
  clear f2
  have S2 := Lib.hid (HS.out.withIM ⟨#[42]⟩)
  go_wp2_with fail
  refine (eval_any m x2 (P ++ [(nIM, ⟨#[42]⟩)]) there tag modified _ HF2.out ht (S2.out.lim (Small.one (by decide)) Small.nil Small.nil Small.nil) (HP.out.below rfl B2) (HM.out.below rfl B2)).mono ?_
  rintro e w3 ⟨⟨r, rfl, ha⟩, b3⟩
  have B3 := belT B2 b3
  have hr : r = if there = true then 0 else 412 := by
    obtain ⟨tagged, t, -, hr⟩ := ans_im ha S2.out.im star_list S2.out.inm S2.out.ims
    simpa using hr
  have HR := Lib.hid hr
  clear ha hr
  have HF3 := Lib.hid ((HF1.out.below b2).below b3)
  go_wp2_with fail
  refine (with_any x1 P nINM ⟨#[42]⟩ _ HF3.out (by omega) (by decide)).mono ?_
  rintro e w4 ⟨⟨x4, rfl, f4⟩, b4⟩
  have HF4 := Lib.hid f4
  have B4 := belT B3 b4
  clear f4
  have S4 := Lib.hid (HS.out.withINM ⟨#[42]⟩)
  go_wp2_with fail
  refine (eval_any m x4 (P ++ [(nINM, ⟨#[42]⟩)]) there tag modified _ HF4.out ht (S4.out.lim Small.nil (Small.one (by decide)) Small.nil Small.nil) (HP.out.below rfl B4) (HM.out.below rfl B4)).mono ?_
  rintro e w5 ⟨⟨q, rfl, ha⟩, b5⟩
  have B5 := belT B4 b5
  have hq : (there = true ∧ (q = 304 ∨ q = 412)) ∨ (there = false ∧ q = 0) := by
    obtain ⟨tagged, t, -, hq⟩ := ans_inm ha S4.out.inm star_list S4.out.im S4.out.ius
    cases there
    · right; simpa using hq
    · left
      cases hR : readsF m
      · rw [hR] at hq; exact ⟨rfl, .inr (by simpa using hq)⟩
      · rw [hR] at hq; exact ⟨rfl, .inl (by simpa using hq)⟩
  clear ha
  rcases hq with ⟨rfl, rfl | rfl⟩ | ⟨rfl, rfl⟩
  · obtain rfl : r = 0 := by simpa using HR.out
    go_wp2_with fail
    go_ret
    exact ⟨rfl, B5⟩
  · obtain rfl : r = 0 := by simpa using HR.out
    go_wp2_with fail
    go_ret
    exact ⟨rfl, B5⟩
  · obtain rfl : r = 412 := by simpa using HR.out
    go_wp2_with fail
    go_ret
    exact ⟨rfl, B5⟩
end Go.Proofs.YtiijgbgknolmcaaDoor
