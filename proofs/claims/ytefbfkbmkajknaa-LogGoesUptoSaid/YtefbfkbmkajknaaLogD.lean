/- What the journal's Write computes, and 'logged'. -/
import Derived.Test.YtefbfkbmkajknaaLogC
import Derived.Test.YtefbfkbmkajknaaBuilder
namespace Go.Proofs.Ytefbfkbmkajknaa
open Go.RowKit
namespace Lg
theorem writeL_snoc : ∀ (l : List (List UInt8)) (k : Nat) (s : List UInt8), writeL k (l ++ [s]) = writeL k l ++ frame (k + l.length) s
  | [], k, s => by simp [writeL]
  | x :: l, k, s => by simp only [List.cons_append, writeL, writeL_snoc l (k + 1) s, List.append_assoc, List.length_cons, show k + 1 + l.length = k + (l.length + 1) from by omega]
theorem writeL_len : ∀ (l : List (List UInt8)) (k : Nat), (∀ s ∈ l, s.length ≤ 1000) → (writeL k l).length ≤ 1008 * l.length
  | [], k, _ => by simp [writeL]
  | x :: l, k, h => by
    have h1 := h x (by simp)
    have h2 := writeL_len l (k + 1) (fun s hs => h s (by simp [hs]))
    simp only [writeL, List.length_append, frame_len, List.length_cons]; omega
end Lg
def lens (l : List ByteArray) : List (List UInt8) := l.map sl
theorem lens_take (l : List ByteArray) (k : Nat) (h : k < l.length) : lens (l.take (k + 1)) = lens (l.take k) ++ [sl l[k]] := by
  unfold lens; rw [List.take_add_one, List.getElem?_eq_getElem h, List.map_append]; rfl
theorem lens_le {l : List ByteArray} (h : ∀ s ∈ l, s.size ≤ 1000) (k : Nat) : ∀ s ∈ lens (l.take k), s.length ≤ 1000 := by
  intro s hs
  obtain ⟨x, hx, rfl⟩ := List.mem_map.1 hs
  rw [sl_len]; exact h x (List.mem_of_mem_take hx)
set_option maxRecDepth 100000 in
set_option maxHeartbeats 1600000 in
theorem write_any (v : Value) (l : List ByteArray) (w : World) (hr : SlR w es v l) (hl : l.length ≤ 1048576) (hz : ∀ s ∈ l, s.size ≤ 1000) :
    Calls Try.prog 37 #[v] w fun e w' => e = .returned (.tuple #[.string (mkS (Lg.writeL 0 (lens l))), .int .i64 0]) ∧ Below w.heap.size w w' := by
  have h2 := Lib.hid (fun hn => hr.texts hn)
  obtain ⟨A, c, rfl, hc, -⟩ := hr
  go_enter Try.func37, Try.ntmps37
  go_wp2_with fail
  go_loopw [11] (fun i wr => ∃ k : Nat, k ≤ l.length ∧ i = .int .i64 k ∧ Bld w.heap.size w.heap.size (Lg.writeL 0 (lens (l.take k))) wr ∧ Below w.heap.size w wr) (fun i _ => l.length - (intOf i).toNat)
  case atStart => exact ⟨0, by omega, rfl, bld_new _ w (Nat.le_refl _), (Below.refl _ _).alloc (Nat.le_refl _) _⟩
  case round =>
    obtain ⟨k, hk, rfl, hbld, hbel⟩ := hrel
    have HB := Lib.hid hbld
    clear hbld
    by_cases hlt : k < l.length
    · obtain ⟨b, o, c', he, -, hb, hcell⟩ := h2.out (by omega)
      obtain ⟨rfl, rfl⟩ : A = some ⟨b, o, none⟩ ∧ c = c' := by injection he with h1 h2 h3; exact ⟨h1, h3⟩
      have c0 := (hbel.cell (p := ⟨b, o + k, none⟩) hb).trans (hcell k hlt)
      have hs := hz l[k] (List.getElem_mem hlt)
      have HS := Lib.hid (lens_take l k hlt)
      generalize l[k] = s at c0 hs HS
      clear hcell h2 he
      go_wp2_with fail
      refine (frame_any k s _ (by omega) hs).mono ?_
      rintro e w1 ⟨rfl, b1⟩
      go_wp2_with fail
      have hbb := hbel.trans (b1.mono hbel.size)
      have hB1 := Lib.hid (HB.out.below b1)
      have hle := Lg.writeL_len _ 0 (lens_le hz k)
      have hlk : (lens (l.take k)).length = k := by simp [lens]; omega
      have hfz : (mkS (Lg.frame k (sl s))).size = s.size + 8 := by rw [mkS_size, Lg.frame_len, sl_len]
      have HW : Hid (Lg.writeL 0 (lens (l.take k)) ++ sl (mkS (Lg.frame k (sl s))) = Lg.writeL 0 (lens (l.take (k + 1)))) := by
        show _ = _
        rw [HS.out, Lg.writeL_snoc, hlk, Nat.zero_add, sl_mkS]
      refine (writeString_any w.heap.size w.heap.size _ (mkS (Lg.frame k (sl s))) _ hB1.out (by omega) hbb.size).mono ?_
      clear hle hlk hfz
      rintro e w2 ⟨rfl, hb2, bel2⟩
      have HB2 := Lib.hid hb2
      clear hb2
      go_wp2_with fail
      go_roundw
      case rel => exact ⟨k + 1, by omega, by go_num, by rw [← HW.out]; exact HB2.out, hbb.trans bel2⟩
      case measure => simp [intOf]; omega
    · have HE : Hid (l.take k = l) := List.take_of_length_le (by omega)
      go_wp2_with fail
      refine (string_any w.heap.size w.heap.size _ _ HB.out hbel.size).mono ?_
      rintro e w1 ⟨rfl, b1⟩
      go_wp2_with fail
      go_ret2
      exact ⟨ret_si (by rw [HE.out]) rfl, hbel.trans b1⟩
/-! ### logged -/
def trunc (s : ByteArray) : ByteArray := s.extract 0 (min s.size 1000)
theorem trunc_size (s : ByteArray) : (trunc s).size ≤ 1000 := by unfold trunc; rw [ext_size _ _ _ (by omega)]; omega
theorem trunc_take (l : List ByteArray) (k : Nat) (h : k < l.length) : (l.take (k + 1)).map trunc = (l.take k).map trunc ++ [trunc l[k]] := by
  rw [List.take_add_one, List.getElem?_eq_getElem h, List.map_append]; rfl
/-- Records that are short enough, and the bytes of them all. -/
def recs (l : List ByteArray) : List ByteArray := l.map trunc
theorem recs_le (l : List ByteArray) : ∀ s ∈ recs l, s.size ≤ 1000 := by
  intro s hs; obtain ⟨x, _, rfl⟩ := List.mem_map.1 hs; exact trunc_size x
def jour (l : List ByteArray) : List UInt8 := Lg.writeL 0 (lens (recs l))
def LoggedAns (l : List ByteArray) (base : Nat) (e : Ending) (w' : World) : Prop :=
  ∃ v, e = .returned (.tuple #[v, .string (mkS (jour l)), .bool true]) ∧ Owns w' base 9 1 es v (recs l)
set_option maxRecDepth 100000 in
set_option maxHeartbeats 1600000 in
theorem logged_any (v : Value) (l : List ByteArray) (w : World) (hr : SlR w es v l) (hl : l.length ≤ 1048576) :
    Calls Try.prog 16 #[v] w fun e w' => LoggedAns l w.heap.size e w' ∧ Below w.heap.size w w' := by
  have h2 := Lib.hid (fun hn => hr.texts hn)
  obtain ⟨A, c, rfl, hc, -⟩ := hr
  go_enter Try.func16, Try.ntmps16
  go_wp2_with fail
  go_loopw [5, 14] (fun v i wr => ∃ k : Nat, k ≤ l.length ∧ i = .int .i64 k ∧ Owns wr w.heap.size 9 1 es v ((l.take k).map trunc) ∧ Below w.heap.size w wr) (fun _ i _ => l.length - (intOf i).toNat)
  case atStart => exact ⟨0, by omega, rfl, Owns.nil .., Below.refl _ _⟩
  case round =>
    obtain ⟨k, hk, rfl, hown, hbel⟩ := hrel
    have HO := Lib.hid hown
    by_cases hlt : k < l.length
    · obtain ⟨b, o, c', he, -, hb, hcell⟩ := h2.out (by omega)
      obtain ⟨rfl, rfl⟩ : A = some ⟨b, o, none⟩ ∧ c = c' := by injection he with h1 h2 h3; exact ⟨h1, h3⟩
      have c0 := (hbel.cell (p := ⟨b, o + k, none⟩) hb).trans (hcell k hlt)
      have HS := Lib.hid (trunc_take l k hlt)
      generalize l[k] = s at c0 HS
      have hlk : ((l.take k).map trunc).length ≤ 1048576 := by simp; omega
      clear hcell h2 he hown
      have hmin : s.extract 0 (min (s.size : Int) 1000).toNat = trunc s := by
        unfold trunc; rw [show (min (s.size : Int) 1000).toNat = min s.size 1000 from by omega]
      generalize trunc s = t at hmin HS
      go_wp2_with (at_builtin; go_must (refine wpList_append_owns rfl (.tmp 18) (.tmp 24) _ rfl w.heap.size 9 (.string ByteArray.empty) 1 16 es Try.underlying25 stringInfo' rfl (by decide) _ _ rfl (HO.out.alloc _) ⟨wr.heap.size, 0, none⟩ 1 1 [t] rfl rfl rfl (new_cells _ [.string t] _) (es_one [t]) (by simp only [maxLen]; omega) (by omega) (bel_size hbel (Nat.le_refl _) _) ?_); intro v1 w1 hown1 hg1)
      go_roundw
      case rel => exact ⟨k + 1, by omega, by go_num, by rw [HS.out]; exact hown1, bel_append hbel (Nat.le_refl _) HO.out hg1⟩
      case measure => simp [intOf]; omega
    · have HE : Hid ((l.take k).map trunc = recs l) := by show _ = _; rw [List.take_of_length_le (by omega)]; rfl
      have hR := SlR.of_owns hown
      rw [HE.out] at hR
      have HR := Lib.hid hR
      clear hR hown
      go_wp2_with fail
      refine (write_any _ (recs l) _ HR.out (by simp [recs]; omega) (recs_le l)).mono ?_
      rintro e w1 ⟨rfl, b1⟩
      go_wp2_with fail
      refine (frame_neg _ _).mono ?_
      rintro e w2 ⟨rfl, rfl⟩
      go_wp2_with fail
      go_ret3
      refine ⟨⟨_, rfl, ?_⟩, hbel.trans (b1.mono hbel.size)⟩
      rw [← HE.out]
      exact HO.out.below b1
end Go.Proofs.Ytefbfkbmkajknaa
