/- etag's Parse, and TagBack: the law's walk. -/
import Derived.Test.YtpoaffhhkmochaaDoorEtag
import Derived.Laws.StructEq
namespace Go.Proofs.YtpoaffhhkmochaaDoor
open Go.RowKit
namespace Tg
theorem text_unique {t t' : Tag} {r r' : List UInt8} (hg : good t) (hg' : good t') (h : text t ++ r = text t' ++ r') : t = t' ∧ r = r' := by
  obtain ⟨wk, a⟩ := t
  obtain ⟨wk', a'⟩ := t'
  have key : sl a ++ 34 :: r = sl a' ++ 34 :: r' → (wk, a) = (wk, a') ∧ r = r' := fun h => by
    obtain ⟨h1, h2⟩ := split_one h (good_no hg) (good_no hg')
    rw [sl_inj h1]; exact ⟨rfl, h2⟩
  cases wk <;> cases wk' <;> simp [text] at h
  · exact key h
  · exact key h
end Tg
/-- What Parse answers. -/
def TagParse (s : ByteArray) (e : Ending) : Prop :=
  (∃ t, Tg.good t ∧ sl s = Tg.text t ∧ e = .returned (.tuple #[tagV t, .int .i64 0])) ∨
  ((∀ t, Tg.good t → sl s ≠ Tg.text t) ∧ e = .returned (.tuple #[tagV (false, ByteArray.empty), .int .i64 3]))
theorem eqlTag (a c : Bool) (b d : ByteArray) (w : World) : (binOp .eql 26 (.agg #[.bool a, .string b]) (.agg #[.bool c, .string d])).run Tryd.prog w = .ok (.bool ((a == c) && (b.toList == d.toList))) w := by
  rw [run_eql_struct, run_equalIn_agg w 9999 26 _ _ (by kernel_rfl) (by kernel_rfl)]
  simp only [Program.fieldsOf, Tryd.underlying26]
  have hus := Tryd.underlying9
  have hub := Tryd.underlying4
  cases h0 : (a == c) <;> cases h1 : (b.toList == d.toList) <;> go_simp
theorem eqGuardTag : (Tryd.prog).eqGuardType (Tryd.prog).depth 26 = false := by kernel_rfl
theorem no_empty : ∀ t : Tg.Tag, Tg.good t → sl ByteArray.empty ≠ Tg.text t := by
  rintro ⟨wk, a⟩ _ h
  cases wk <;> simp [Tg.text, sl_empty] at h
theorem text_size (t : Tg.Tag) (h : Tg.good t) : (mkS (Tg.text t)).size ≤ 104 := by
  have := h.1
  rw [mkS_size]; unfold Tg.text; split <;> simp [sl_len] <;> omega
theorem print_good (t : Tg.Tag) (h : Tg.good t) (w : World) :
    Calls Tryd.prog 5 #[.agg #[.bool t.1, .string t.2]] w fun e w' => e = .returned (.tuple #[.string (mkS (Tg.text t)), .int .i64 0]) ∧ Below w.heap.size w w' := by
  refine (tagPrint_any t.1 t.2 w (by have := h.1; omega)).mono ?_
  rintro e w' ⟨hp, hb⟩
  rcases hp with ⟨_, h1⟩ | ⟨h1, _⟩
  · exact ⟨h1, hb⟩
  · exact absurd h h1
end Go.Proofs.YtpoaffhhkmochaaDoor
