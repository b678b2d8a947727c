/- etag's Parse, and TagBack: the law's walk. -/
import Derived.Test.YtiijgbgknolmcaaDoorEtag
import Derived.Laws.StructEq
namespace Go.Proofs.YtiijgbgknolmcaaDoor
open Go.RowKit
namespace Tg
theorem text_unique {t t' : Tag} {r r' : List UInt8} (hg : good t) (hg' : good t') (h : text t ++ r = text t' ++ r') : t = t' ∧ r = r' := by
  obtain ⟨wk, a⟩ := t
  obtain ⟨wk', a'⟩ := t'
  have key : sl a ++ 34 :: r = sl a' ++ 34 :: r' → (wk, a) = (wk, a') ∧ r = r' := fun h => by
    obtain ⟨h1, h2⟩ := split_one h (good_no hg) (good_no hg')
    rw [sl_inj h1]; exact ⟨rfl, h2⟩
  cases wk <;> cases wk' <;> simp [text] at h
  · exact key h
  · exact key h
end Tg
/-- What Parse answers. -/
def TagParse (s : ByteArray) (e : Ending) : Prop :=
  (∃ t, Tg.good t ∧ sl s = Tg.text t ∧ e = .returned (.tuple #[tagV t, .int .i64 0])) ∨
  ((∀ t, Tg.good t → sl s ≠ Tg.text t) ∧ e = .returned (.tuple #[tagV (false, ByteArray.empty), .int .i64 3]))
set_option maxHeartbeats 1600000 in
theorem tagParse_any (s : ByteArray) (w : World) (hs : s.size ≤ 140737488351232) :
    Calls Tryd.prog 30 #[.string s] w fun e w' => TagParse s e ∧ Below w.heap.size w w' := by
  go_enter Tryd.func30, Tryd.ntmps30
  go_wp2_with fail
  refine (tagFirst_any s _ hs).mono ?_
  rintro e w1 ⟨hf, b1⟩
  have b01 : Below w.heap.size w w1 := ((Below.refl _ _).alloc (Nat.le_refl _) _).trans (b1.mono (by simp))
  have c00 : w1.cell? ⟨w.heap.size, 0, none⟩ = some (.bool false) := (b1.cell (by simp)).trans (by go_simp)
  have c01 : w1.cell? ⟨w.heap.size, 1, none⟩ = some (.string ByteArray.empty) := (b1.cell (by simp)).trans (by go_simp; rfl)
  have f00 : w1.frozen? ⟨w.heap.size, 0, none⟩ = false := (b1.frozen (by simp)).trans (by go_simp)
  have f01 : w1.frozen? ⟨w.heap.size, 1, none⟩ = false := (b1.frozen (by simp)).trans (by go_simp)
  have hz : w.heap.size < w1.heap.size := by have := b1.size; simp at this; omega
  have hne : w.heap.size ≠ w1.heap.size := by omega
  have hne' : w1.heap.size ≠ w.heap.size := by omega
  clear b1
  rcases hf with ⟨t, r, hg, hr, rfl⟩ | ⟨hno, rfl⟩
  · have HG := Lib.hid hg
    have HR := Lib.hid hr
    clear hg hr
    unfold tagV
    cases r with
    | nil =>
      have te : (!(mkS []).toList.isEmpty) = false := by rw [ba_toList]; rfl
      have te2 : (mkS []).toList = [] := by rw [ba_toList]; rfl
      go_wp2_with fail
      refine bodyPost_ret (v := .tuple #[tagV t, .int .i64 0]) (by simp [results, Tryd.results30, go_sem, tagV, c00, c01, hz, hne, hne']) rfl ⟨.inl ⟨t, HG.out, by rw [HR.out, List.append_nil], rfl⟩, ((b01.setCell (p := ⟨w.heap.size, 0, none⟩) (Nat.le_refl _) _).setCell (p := ⟨w.heap.size, 1, none⟩) (Nat.le_refl _) _).alloc (by simp; omega) _⟩
    | cons x r =>
      have te : (!(mkS (x :: r)).toList.isEmpty) = true := by rw [ba_toList]; rfl
      have te2 : (mkS (x :: r)).toList.isEmpty = false := by rw [ba_toList]; rfl
      have HN : Hid (∀ t, Tg.good t → sl s ≠ Tg.text t) := fun t' hg' h => by
        rw [HR.out, ← List.append_nil (Tg.text t')] at h
        have := (Tg.text_unique HG.out hg' h).2
        cases this
      go_wp2_with fail
      refine bodyPost_ret (v := .tuple #[tagV (false, ByteArray.empty), .int .i64 3]) (by simp [results, Tryd.results30, go_sem, tagV, c00, c01, hz, hne, hne']; rfl) rfl ⟨.inr ⟨HN.out, rfl⟩, ((b01.setCell (p := ⟨w.heap.size, 0, none⟩) (Nat.le_refl _) _).setCell (p := ⟨w.heap.size, 1, none⟩) (Nat.le_refl _) _).alloc (by simp; omega) _⟩
  · have HN : Hid (∀ t, Tg.good t → sl s ≠ Tg.text t) := fun t' hg' h => hno t' [] hg' (by rw [h, List.append_nil])
    clear hno
    unfold tagV
    go_wp2_with fail
    refine bodyPost_ret (v := .tuple #[tagV (false, ByteArray.empty), .int .i64 3]) (by simp [results, Tryd.results30, go_sem, tagV, c00, c01, hz, hne, hne']; rfl) rfl ⟨.inr ⟨HN.out, rfl⟩, ((b01.setCell (p := ⟨w.heap.size, 0, none⟩) (Nat.le_refl _) _).setCell (p := ⟨w.heap.size, 1, none⟩) (Nat.le_refl _) _).alloc (by simp; omega) _⟩
theorem eqlTag (a c : Bool) (b d : ByteArray) (w : World) : (binOp .eql 30 (.agg #[.bool a, .string b]) (.agg #[.bool c, .string d])).run Tryd.prog w = .ok (.bool ((a == c) && (b.toList == d.toList))) w := by
  rw [run_eql_struct, run_equalIn_agg w 9999 30 _ _ (by kernel_rfl) (by kernel_rfl)]
  simp only [Program.fieldsOf, Tryd.underlying30]
  have hus := Tryd.underlying9
  have hub := Tryd.underlying4
  cases h0 : (a == c) <;> cases h1 : (b.toList == d.toList) <;> go_simp
theorem eqGuardTag : (Tryd.prog).eqGuardType (Tryd.prog).depth 30 = false := by kernel_rfl
theorem no_empty : ∀ t : Tg.Tag, Tg.good t → sl ByteArray.empty ≠ Tg.text t := by
  rintro ⟨wk, a⟩ _ h
  cases wk <;> simp [Tg.text, sl_empty] at h
theorem parse_empty (w : World) :
    Calls Tryd.prog 30 #[.string ⟨#[]⟩] w fun e w' => e = .returned (.tuple #[tagV (false, ByteArray.empty), .int .i64 3]) ∧ Below w.heap.size w w' := by
  refine (tagParse_any ByteArray.empty w (by decide)).mono ?_
  rintro e w' ⟨h, hb⟩
  rcases h with ⟨t, hg, h, _⟩ | ⟨_, h⟩
  · exact absurd h (no_empty t hg)
  · exact ⟨h, hb⟩
theorem text_size (t : Tg.Tag) (h : Tg.good t) : (mkS (Tg.text t)).size ≤ 104 := by
  have := h.1
  rw [mkS_size]; unfold Tg.text; split <;> simp [sl_len] <;> omega
theorem print_good (t : Tg.Tag) (h : Tg.good t) (w : World) :
    Calls Tryd.prog 16 #[.agg #[.bool t.1, .string t.2]] w fun e w' => e = .returned (.tuple #[.string (mkS (Tg.text t)), .int .i64 0]) ∧ Below w.heap.size w w' := by
  refine (tagPrint_any t.1 t.2 w (by have := h.1; omega)).mono ?_
  rintro e w' ⟨hp, hb⟩
  rcases hp with ⟨_, h1⟩ | ⟨h1, _⟩
  · exact ⟨h1, hb⟩
  · exact absurd h h1
theorem parse_text (t : Tg.Tag) (h : Tg.good t) (w : World) :
    Calls Tryd.prog 30 #[.string (mkS (Tg.text t))] w fun e w' => e = .returned (.tuple #[tagV t, .int .i64 0]) ∧ Below w.heap.size w w' := by
  refine (tagParse_any _ w (by have := text_size t h; omega)).mono ?_
  rintro e w' ⟨hp, hb⟩
  rcases hp with ⟨t', hg, h1, h2⟩ | ⟨h1, _⟩
  · rw [sl_mkS] at h1
    have := (Tg.text_unique (r := []) (r' := []) h hg (by rw [h1])).1
    rw [this]; exact ⟨h2, hb⟩
  · exact absurd (by rw [sl_mkS]) (h1 t h)
end Go.Proofs.YtiijgbgknolmcaaDoor
