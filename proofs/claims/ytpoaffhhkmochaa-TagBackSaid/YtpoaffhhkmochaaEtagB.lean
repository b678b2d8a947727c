/- etag's Parse, and TagBack: the law's walk. -/
import Derived.Test.YtpoaffhhkmochaaEtag
import Derived.Laws.StructEq
namespace Go.Proofs.Ytpoaffhhkmochaa
open Go.RowKit
namespace Tg
theorem text_unique {t t' : Tag} {r r' : List UInt8} (hg : good t) (hg' : good t') (h : text t ++ r = text t' ++ r') : t = t' ∧ r = r' := by
  obtain ⟨wk, a⟩ := t
  obtain ⟨wk', a'⟩ := t'
  have key : sl a ++ 34 :: r = sl a' ++ 34 :: r' → (wk, a) = (wk, a') ∧ r = r' := fun h => by
    obtain ⟨h1, h2⟩ := split_one h (good_no hg) (good_no hg')
    rw [sl_inj h1]; exact ⟨rfl, h2⟩
  cases wk <;> cases wk' <;> simp [text] at h
  · exact key h
  · exact key h
end Tg
/-- What Parse answers. -/
def TagParse (s : ByteArray) (e : Ending) : Prop :=
  (∃ t, Tg.good t ∧ sl s = Tg.text t ∧ e = .returned (.tuple #[tagV t, .int .i64 0])) ∨
  ((∀ t, Tg.good t → sl s ≠ Tg.text t) ∧ e = .returned (.tuple #[tagV (false, ByteArray.empty), .int .i64 3]))
set_option maxHeartbeats 1600000 in
theorem tagParse_any (s : ByteArray) (w : World) (hs : s.size ≤ 140737488351232) :
    Calls Try.prog 17 #[.string s] w fun e w' => TagParse s e ∧ Below w.heap.size w w' := by
  go_enter Try.func17, Try.ntmps17
  go_wp2_with fail
  refine (tagFirst_any s _ hs).mono ?_
  rintro e w1 ⟨hf, b1⟩
  have b01 : Below w.heap.size w w1 := ((Below.refl _ _).alloc (Nat.le_refl _) _).trans (b1.mono (by simp))
  have c00 : w1.cell? ⟨w.heap.size, 0, none⟩ = some (.bool false) := (b1.cell (by simp)).trans (by go_simp)
  have c01 : w1.cell? ⟨w.heap.size, 1, none⟩ = some (.string ByteArray.empty) := (b1.cell (by simp)).trans (by go_simp; rfl)
  have f00 : w1.frozen? ⟨w.heap.size, 0, none⟩ = false := (b1.frozen (by simp)).trans (by go_simp)
  have f01 : w1.frozen? ⟨w.heap.size, 1, none⟩ = false := (b1.frozen (by simp)).trans (by go_simp)
  have hz : w.heap.size < w1.heap.size := by have := b1.size; simp at this; omega
  have hne : w.heap.size ≠ w1.heap.size := by omega
  have hne' : w1.heap.size ≠ w.heap.size := by omega
  clear b1
  rcases hf with ⟨t, r, hg, hr, rfl⟩ | ⟨hno, rfl⟩
  · have HG := Lib.hid hg
    have HR := Lib.hid hr
    clear hg hr
    unfold tagV
    cases r with
    | nil =>
      have te : (!(mkS []).toList.isEmpty) = false := by rw [ba_toList]; rfl
      have te2 : (mkS []).toList = [] := by rw [ba_toList]; rfl
      go_wp2_with fail
      refine bodyPost_ret (v := .tuple #[tagV t, .int .i64 0]) (by simp [results, Try.results17, go_sem, tagV, c00, c01, hz, hne, hne']) rfl ⟨.inl ⟨t, HG.out, by rw [HR.out, List.append_nil], rfl⟩, ((b01.setCell (p := ⟨w.heap.size, 0, none⟩) (Nat.le_refl _) _).setCell (p := ⟨w.heap.size, 1, none⟩) (Nat.le_refl _) _).alloc (by simp; omega) _⟩
    | cons x r =>
      have te : (!(mkS (x :: r)).toList.isEmpty) = true := by rw [ba_toList]; rfl
      have te2 : (mkS (x :: r)).toList.isEmpty = false := by rw [ba_toList]; rfl
      have HN : Hid (∀ t, Tg.good t → sl s ≠ Tg.text t) := fun t' hg' h => by
        rw [HR.out, ← List.append_nil (Tg.text t')] at h
        have := (Tg.text_unique HG.out hg' h).2
        cases this
      go_wp2_with fail
      refine bodyPost_ret (v := .tuple #[tagV (false, ByteArray.empty), .int .i64 3]) (by simp [results, Try.results17, go_sem, tagV, c00, c01, hz, hne, hne']; rfl) rfl ⟨.inr ⟨HN.out, rfl⟩, ((b01.setCell (p := ⟨w.heap.size, 0, none⟩) (Nat.le_refl _) _).setCell (p := ⟨w.heap.size, 1, none⟩) (Nat.le_refl _) _).alloc (by simp; omega) _⟩
  · have HN : Hid (∀ t, Tg.good t → sl s ≠ Tg.text t) := fun t' hg' h => hno t' [] hg' (by rw [h, List.append_nil])
    clear hno
    unfold tagV
    go_wp2_with fail
    refine bodyPost_ret (v := .tuple #[tagV (false, ByteArray.empty), .int .i64 3]) (by simp [results, Try.results17, go_sem, tagV, c00, c01, hz, hne, hne']; rfl) rfl ⟨.inr ⟨HN.out, rfl⟩, ((b01.setCell (p := ⟨w.heap.size, 0, none⟩) (Nat.le_refl _) _).setCell (p := ⟨w.heap.size, 1, none⟩) (Nat.le_refl _) _).alloc (by simp; omega) _⟩
theorem eqlTag (a c : Bool) (b d : ByteArray) (w : World) : (binOp .eql 23 (.agg #[.bool a, .string b]) (.agg #[.bool c, .string d])).run Try.prog w = .ok (.bool ((a == c) && (b.toList == d.toList))) w := by
  rw [run_eql_struct, run_equalIn_agg w 9999 23 _ _ (by kernel_rfl) (by kernel_rfl)]
  simp only [Program.fieldsOf, Try.underlying23]
  have hus := Try.underlying9
  have hub := Try.underlying4
  cases h0 : (a == c) <;> cases h1 : (b.toList == d.toList) <;> go_simp
theorem eqGuardTag : (Try.prog).eqGuardType (Try.prog).depth 23 = false := by kernel_rfl
theorem no_empty : ∀ t : Tg.Tag, Tg.good t → sl ByteArray.empty ≠ Tg.text t := by
  rintro ⟨wk, a⟩ _ h
  cases wk <;> simp [Tg.text, sl_empty] at h
theorem parse_empty (w : World) :
    Calls Try.prog 17 #[.string ⟨#[]⟩] w fun e w' => e = .returned (.tuple #[tagV (false, ByteArray.empty), .int .i64 3]) ∧ Below w.heap.size w w' := by
  refine (tagParse_any ByteArray.empty w (by decide)).mono ?_
  rintro e w' ⟨h, hb⟩
  rcases h with ⟨t, hg, h, _⟩ | ⟨_, h⟩
  · exact absurd h (no_empty t hg)
  · exact ⟨h, hb⟩
theorem text_size (t : Tg.Tag) (h : Tg.good t) : (mkS (Tg.text t)).size ≤ 104 := by
  have := h.1
  rw [mkS_size]; unfold Tg.text; split <;> simp [sl_len] <;> omega
theorem print_good (t : Tg.Tag) (h : Tg.good t) (w : World) :
    Calls Try.prog 16 #[.agg #[.bool t.1, .string t.2]] w fun e w' => e = .returned (.tuple #[.string (mkS (Tg.text t)), .int .i64 0]) ∧ Below w.heap.size w w' := by
  refine (tagPrint_any t.1 t.2 w (by have := h.1; omega)).mono ?_
  rintro e w' ⟨hp, hb⟩
  rcases hp with ⟨_, h1⟩ | ⟨h1, _⟩
  · exact ⟨h1, hb⟩
  · exact absurd h h1
theorem parse_text (t : Tg.Tag) (h : Tg.good t) (w : World) :
    Calls Try.prog 17 #[.string (mkS (Tg.text t))] w fun e w' => e = .returned (.tuple #[tagV t, .int .i64 0]) ∧ Below w.heap.size w w' := by
  refine (tagParse_any _ w (by have := text_size t h; omega)).mono ?_
  rintro e w' ⟨hp, hb⟩
  rcases hp with ⟨t', hg, h1, h2⟩ | ⟨h1, _⟩
  · rw [sl_mkS] at h1
    have := (Tg.text_unique (r := []) (r' := []) h hg (by rw [h1])).1
    rw [this]; exact ⟨h2, hb⟩
  · exact absurd (by rw [sl_mkS]) (h1 t h)
set_option maxRecDepth 100000 in
set_option maxHeartbeats 3200000 in
theorem tagBack_walk (wk : Bool) (x : ByteArray) (s : ByteArray) (w : World) (hx : x.size ≤ 9223372036854775807) (hs : s.size ≤ 140737488351232) :
    Calls Try.prog 4 #[.agg #[.bool wk, .string x], .string s] w fun e w' => e = .returned (.bool true) ∧ Below w.heap.size w w' := by
  have b0 : Below w.heap.size w (w.alloc (.cells #[.bool wk, .string x] 23)) := (Below.refl _ _).alloc (Nat.le_refl _) _
  have c00 : (w.alloc (.cells #[.bool wk, .string x] 23)).cell? ⟨w.heap.size, 0, none⟩ = some (.bool wk) := by go_simp
  have c01 : (w.alloc (.cells #[.bool wk, .string x] 23)).cell? ⟨w.heap.size, 1, none⟩ = some (.string x) := by go_simp
  have hsz0 : w.heap.size < (w.alloc (.cells #[.bool wk, .string x] 23)).heap.size := by simp
  go_enter Try.func4, Try.ntmps4
  go_wp2_with fail
  refine (tagPrint_any wk x _ hx).mono ?_
  rintro e w1 ⟨hpr, b1⟩
  have b01 := b0.trans (b1.mono (by simp))
  have d00 := (b1.cell hsz0).trans c00
  have d01 := (b1.cell hsz0).trans c01
  have hsz1 := Nat.lt_of_lt_of_le hsz0 b1.size
  clear b1 b0 c00 c01
  obtain ⟨a, c, rfl, ha⟩ : ∃ (a : ByteArray) (c : Int), e = .returned (.tuple #[.string a, .int .i64 c]) ∧ ((Tg.good (wk, x) ∧ c = 0 ∧ a = mkS (Tg.text (wk, x))) ∨ (c ≠ 0 ∧ a = ByteArray.empty)) := by
    rcases hpr with ⟨hg, rfl⟩ | ⟨_, c, hc1, _, rfl⟩
    · exact ⟨_, _, rfl, .inl ⟨hg, rfl, rfl⟩⟩
    · exact ⟨_, _, rfl, .inr ⟨by omega, rfl⟩⟩
  have HA := Lib.hid ha
  clear hpr ha
  go_wp2_with fail
  refine (tagParse_any s _ hs).mono ?_
  rintro e w2 ⟨hps, b2⟩
  have b02 := b01.trans (b2.mono b01.size)
  have e00 := (b2.cell hsz1).trans d00
  have e01 := (b2.cell hsz1).trans d01
  have hsz2 := Nat.lt_of_lt_of_le hsz1 b2.size
  clear b2 b01 d00 d01
  obtain ⟨u, f, rfl, hu⟩ : ∃ (u : Tg.Tag) (f : Int), e = .returned (.tuple #[tagV u, .int .i64 f]) ∧ ((Tg.good u ∧ f = 0 ∧ s = mkS (Tg.text u)) ∨ f = 3) := by
    rcases hps with ⟨t, hg, h1, rfl⟩ | ⟨_, rfl⟩
    · exact ⟨t, 0, rfl, .inl ⟨hg, rfl, sl_inj (by rw [sl_mkS, h1])⟩⟩
    · exact ⟨_, 3, rfl, .inr rfl⟩
  have HU := Lib.hid hu
  clear hps hu
  unfold tagV
  have b0' : Below w2.heap.size w2 (w2.alloc (.cells #[.bool u.1, .string u.2] 23)) := (Below.refl _ _).alloc (Nat.le_refl _) _
  go_wp2_with fail
  refine (parse_empty _).mono ?_
  rintro e w3 ⟨rfl, b3⟩
  have bb3 := b0'.trans (b3.mono (by simp))
  have b03 := b02.trans (bb3.mono b02.size)
  have g00 := (bb3.cell hsz2).trans e00
  have g01 := (bb3.cell hsz2).trans e01
  have g10 : w3.cell? ⟨w2.heap.size, 0, none⟩ = some (.bool u.1) := (b3.cell (by simp)).trans (by go_simp)
  have g11 : w3.cell? ⟨w2.heap.size, 1, none⟩ = some (.string u.2) := (b3.cell (by simp)).trans (by go_simp)
  have hsz3 : w2.heap.size < w3.heap.size := by have := b3.size; simp at this; omega
  have hsz3' : w.heap.size < w3.heap.size := by omega
  clear b3 bb3 b0' b02 e00 e01
  have hEnd : Hid (∀ W, Below w3.heap.size w3 W → W.cell? ⟨w.heap.size, 0, none⟩ = some (.bool wk) ∧ W.cell? ⟨w.heap.size, 1, none⟩ = some (.string x)) := fun W hW => ⟨(hW.cell hsz3').trans g00, (hW.cell hsz3').trans g01⟩
  unfold tagV
  by_cases hf : f = 0
  · have hf0 : (f == 0) = true := by rw [beq_iff_eq]; exact hf
    have hu : Tg.good u ∧ s = mkS (Tg.text u) := HU.out.elim (fun h => ⟨h.1, h.2.2⟩) (fun h => by omega)
    obtain ⟨hgu, hsu⟩ := hu
    have hss : ((mkS (Tg.text u)).toList == s.toList) = true := by rw [hsu]; simp
    have HGU := Lib.hid hgu
    clear hgu hsu hf
    go_wp2_with fail
    refine (print_good u HGU.out _).mono ?_
    rintro e w4 ⟨rfl, b4⟩
    have b34 : Below w3.heap.size w3 w4 := ((Below.refl _ _).alloc (Nat.le_refl _) _).trans (b4.mono (by simp))
    obtain ⟨k00, k01⟩ := hEnd.out _ b34
    have hsz4 : w.heap.size < w4.heap.size := Nat.lt_of_lt_of_le hsz3' b34.size
    clear g00 g01 g10 g11 b4
    rcases HA.out with ⟨hg, rfl, rfl⟩ | ⟨hc, rfl⟩
    · have HG := Lib.hid hg
      clear hg
      go_wp2_with fail
      refine (parse_text (wk, x) HG.out _).mono ?_
      rintro e w5 ⟨rfl, b5⟩
      have m00 := (b5.cell hsz4).trans k00
      have m01 := (b5.cell hsz4).trans k01
      have hsz5 : w.heap.size < w5.heap.size := Nat.lt_of_lt_of_le hsz4 b5.size
      have gq := eqGuardTag
      have eq1 := eqlTag
      unfold tagV
      go_wp2_with fail
      go_ret
      exact ⟨ret_bool (by simp), ((b03.trans (b34.mono b03.size)).trans (b5.mono (Nat.le_trans b03.size b34.size))).alloc (by omega) _⟩
    · have hc0 : (c != 0) = true := by rw [bne_iff_ne]; exact hc
      have te : ByteArray.empty.toList = [] := by rw [ba_toList]; rfl
      go_wp2_with fail
      go_ret
      exact ⟨ret_bool (by simp [te]), b03.trans (b34.mono b03.size)⟩
  · have hf0 : (f == 0) = false := by rw [beq_eq_false_iff_ne]; exact hf
    have b34 : Below w3.heap.size w3 (w3.alloc (.cells #[.bool false, .string ByteArray.empty] 23)) := (Below.refl _ _).alloc (Nat.le_refl _) _
    obtain ⟨k00, k01⟩ := hEnd.out _ b34
    have hsz4 : w.heap.size < (w3.alloc (.cells #[.bool false, .string ByteArray.empty] 23)).heap.size := Nat.lt_of_lt_of_le hsz3' b34.size
    clear hf g10 g11
    rcases HA.out with ⟨hg, rfl, rfl⟩ | ⟨hc, rfl⟩
    · have HG := Lib.hid hg
      clear hg
      go_wp2_with fail
      refine (parse_text (wk, x) HG.out _).mono ?_
      rintro e w5 ⟨rfl, b5⟩
      have m00 := (b5.cell hsz4).trans k00
      have m01 := (b5.cell hsz4).trans k01
      have hsz5 : w.heap.size < w5.heap.size := Nat.lt_of_lt_of_le hsz4 b5.size
      have gq := eqGuardTag
      have eq1 := eqlTag
      unfold tagV
      go_wp2_with fail
      go_ret
      exact ⟨ret_bool (by simp), ((b03.trans (b34.mono b03.size)).trans (b5.mono (Nat.le_trans b03.size b34.size))).alloc (by omega) _⟩
    · have hc0 : (c != 0) = true := by rw [bne_iff_ne]; exact hc
      have te : ByteArray.empty.toList = [] := by rw [ba_toList]; rfl
      go_wp2_with fail
      go_ret
      exact ⟨ret_bool (by simp [te]), b03.trans (b34.mono b03.size)⟩
end Go.Proofs.Ytpoaffhhkmochaa
