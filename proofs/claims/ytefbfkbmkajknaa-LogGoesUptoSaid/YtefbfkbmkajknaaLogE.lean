/- LogBack: the law's walk. -/
import Derived.Test.YtefbfkbmkajknaaLogD
namespace Go.Proofs.Ytefbfkbmkajknaa
open Go.RowKit
/-- The first elements of a list that is read. -/
theorem SlR.take_ {α : Type} {w : World} {en : α → List Value} {A : Option Addr} {n c : Nat} {xs : List α} (h : SlR w en (.slice A n c) xs) (k : Nat) (hk : k ≤ xs.length) : SlR w en (.slice A k c) (xs.take k) := by
  obtain ⟨A', c', hv, hc, hx⟩ := h
  obtain ⟨rfl, rfl, rfl⟩ : A = A' ∧ n = xs.length ∧ c = c' := by injection hv with h1 h2 h3; exact ⟨h1, h2, h3⟩
  have hl : (xs.take k).length = k := by simp; omega
  refine ⟨A, c, by rw [hl], by omega, fun hn => ?_⟩
  obtain ⟨b, off, hA, hb, hcell⟩ := hx (by omega)
  refine ⟨b, off, hA, hb, fun j u hu => hcell j u ?_⟩
  have e : xs.flatMap en = (xs.take k).flatMap en ++ (xs.drop k).flatMap en := by rw [← List.flatMap_append, List.take_append_drop]
  rw [e, List.getElem?_append_left]
  · exact hu
  · rcases Nat.lt_or_ge j ((xs.take k).flatMap en).length with h | h
    · exact h
    · rw [List.getElem?_eq_none h] at hu; cases hu
theorem SlR.form {α : Type} {w : World} {en : α → List Value} {v : Value} {xs : List α} (h : SlR w en v xs) : ∃ A c, v = .slice A xs.length c ∧ xs.length ≤ c := by
  obtain ⟨A, c, hv, hc, _⟩ := h
  exact ⟨A, c, hv, hc⟩
theorem jour_len (l : List ByteArray) : (jour l).length ≤ 1008 * l.length := by
  have := Lg.writeL_len (lens (recs l)) 0 (fun s hs => by
    obtain ⟨x, hx, rfl⟩ := List.mem_map.1 hs
    rw [sl_len]; exact recs_le l x hx)
  simpa [jour, lens, recs] using this
theorem lens_mkS (l : List ByteArray) : (lens l).map mkS = l := by
  unfold lens; rw [List.map_map]
  exact (List.map_congr_left (fun a _ => mkS_sl a)).trans (List.map_id _)
theorem lens_recs_le (l : List ByteArray) : ∀ s ∈ lens (recs l), s.length ≤ 1000 := by
  intro s hs
  obtain ⟨x, hx, rfl⟩ := List.mem_map.1 hs
  rw [sl_len]; exact recs_le l x hx
theorem same_refl (l : List ByteArray) : SameTexts l l = true := by unfold SameTexts; simp
set_option maxRecDepth 100000 in
set_option maxHeartbeats 1600000 in
theorem logBack_walk (v : Value) (l : List ByteArray) (rest : ByteArray) (w : World) (h : SlR w es v l) (hs : (l.map (fun s => s.size + 1)).sum ≤ 1048576) (hz : rest.size ≤ 1048576) :
    Calls Try.prog 4 #[v, .string rest] w fun e w' => e = .returned (.bool true) ∧ Below w.heap.size w w' := by
  have hl : l.length ≤ 1048576 := Nat.le_trans (sum_len _ (fun _ => by omega) l) hs
  go_enter Try.func4, Try.ntmps4
  go_wp2_with fail
  refine (logged_any v l _ h hl).mono ?_
  rintro e w1 ⟨⟨v1, rfl, o1⟩, b1⟩
  have O1 := Lib.hid o1
  clear o1
  have hjl := jour_len l
  have hrl : (recs l).length = l.length := by simp [recs]
  obtain ⟨j, hj, hjs, HJ⟩ : ∃ j : ByteArray, mkS (jour l) = j ∧ j.size ≤ 1073741824 ∧ Hid (sl j = jour l) := ⟨_, rfl, by rw [mkS_size]; omega, sl_mkS _⟩
  rw [hj]
  clear hj hjl
  have HB := Lib.hid (Lg.recAll_back _ (lens_recs_le l))
  go_wp2_with fail
  refine (recover_any j _ (by omega)).mono ?_
  rintro e w2 ⟨hr, b2⟩
  have hr2 : recN (lens (recs l), j.size) w1.heap.size e w2 := by
    have e1 : Lg.recAll 0 (sl j) = (lens (recs l), j.size) := by rw [HJ.out]; exact HB.out.trans (by rw [← sl_len j, HJ.out]; rfl)
    rw [e1] at hr; exact hr
  obtain ⟨v2, rfl, o2⟩ := hr2
  rw [show (lens (recs l), j.size).1.map mkS = recs l from lens_mkS _] at o2
  have O2 := Lib.hid o2
  clear o2 hr
  go_wp2_with fail
  refine (eqStr_any v1 v2 (recs l) (recs l) _ ((SlR.of_owns O1.out).below b2) (SlR.of_owns O2.out) (by omega) (by omega)).mono ?_
  rintro e w' ⟨rfl, rfl⟩
  rw [same_refl]
  go_wp2_with fail
  obtain ⟨M, N, hMN⟩ : ∃ M N, Lg.recAll 0 (sl (j ++ rest)) = (lens (recs l) ++ M, j.size + N) := by
    refine ⟨(Lg.recAll (0 + (lens (recs l)).length) (sl rest)).1, (Lg.recAll (0 + (lens (recs l)).length) (sl rest)).2, ?_⟩
    rw [sl_append, HJ.out]
    exact (Lg.recAll_write (lens (recs l)) 0 (sl rest) (lens_recs_le l)).trans (by rw [← sl_len j, HJ.out]; rfl)
  have HMN := Lib.hid hMN
  clear hMN
  refine (recover_any (j ++ rest) _ (by rw [ByteArray.size_append]; omega)).mono ?_
  rintro e w3 ⟨hr, b3⟩
  rw [HMN.out] at hr
  obtain ⟨v3, rfl, o3⟩ := hr
  rw [show (lens (recs l) ++ M, j.size + N).1.map mkS = recs l ++ M.map mkS from by rw [List.map_append, lens_mkS]] at o3
  have h3 := SlR.of_owns o3
  have h1 := ((SlR.of_owns O1.out).below b2).below b3
  obtain ⟨A, c, rfl, hc⟩ := h3.form
  obtain ⟨A1, c1, rfl, hc1⟩ := h1.form
  have hk := h3.take_ (recs l).length (by simp)
  rw [List.take_left' rfl] at hk
  rw [List.length_append, List.length_map] at hc
  rw [List.length_append, List.length_map]
  have H1 := Lib.hid h1
  have HK := Lib.hid hk
  have bb := belT (belT b1 b2) b3
  clear h1 hk h3 o3
  generalize hm : M.length = m at *
  clear hm
  rw [hrl] at H1 HK hc hc1 ⊢
  clear hrl
  have g1 : decide ((j.size : Int) ≤ (j.size : Int) + (N : Int)) = true := by rw [decide_eq_true_eq]; omega
  have g2 : decide ((l.length : Int) ≤ (l.length : Int) + (m : Int)) = true := by rw [decide_eq_true_eq]; omega
  go_wp2_with fail
  refine (eqStr_any _ _ (recs l) (recs l) _ HK.out H1.out (by simp [recs]; omega) (by simp [recs]; omega)).mono ?_
  rintro e w' ⟨rfl, rfl⟩
  rw [same_refl]
  go_wp2_with fail
  go_ret
  exact ⟨rfl, bb⟩
end Go.Proofs.Ytefbfkbmkajknaa
