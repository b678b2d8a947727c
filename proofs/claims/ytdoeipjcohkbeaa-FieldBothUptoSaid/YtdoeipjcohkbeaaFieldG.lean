/- FieldBoth: the law's walk. -/
import Derived.Test.YtdoeipjcohkbeaaFieldF
namespace Go.Proofs.Ytdoeipjcohkbeaa
open Go.RowKit
theorem join_both : ∀ (xs ys : List (List UInt8)) (sep : List UInt8), xs ≠ [] → ys ≠ [] → Lib.join (xs ++ ys) sep = Lib.join xs sep ++ sep ++ Lib.join ys sep
  | [], _, _, h, _ => absurd rfl h
  | x :: xs, [], _, _, h => absurd rfl h
  | x :: xs, y :: ys, sep, _, _ => by
    rw [List.cons_append, Lib.join_cons, Lib.join_cons, Lib.join_cons]
    simp [Lib.joinTail]
theorem joinS_both (xs ys : List ByteArray) (sep : ByteArray) (hx : xs ≠ []) (hy : ys ≠ []) : joinS (xs ++ ys) sep = joinS xs sep ++ sep ++ joinS ys sep := by
  apply sl_inj
  simp only [joinS, joinL, sl_append, sl_mkS, List.map_append]
  exact join_both _ _ _ (by simpa using hx) (by simpa using hy)
theorem copyFld_any (v : Value) (l : List Fld) (w : World) (h : SlR w e_ss v l) (hl : l.length * 32 ≤ 140737488355328) :
    Calls Try.prog 20 #[v] w fun e w' => RetFlds w.heap.size l e w' ∧ Below w.heap.size w w' := by
  go_enter Try.func20, Try.ntmps20
  go_wp2_with (at_builtin; go_must (refine wpList_append_slr rfl (.const (.slice none 0 0)) (.tmp 3) _ rfl w.heap.size 38 (.agg #[.string ByteArray.empty, .string ByteArray.empty]) 2 32 e_ss Try.underlying31 fldInfo rfl (by decide) (fun _ => rfl) _ [] rfl (Owns.nil w w.heap.size 38 2 e_ss) _ l rfl h (ss_one l) (by simp [maxLen]; omega) (by simp; omega) (by simp) ?_); intro v' w2 hown' hgrow)
  go_ret
  exact ⟨⟨_, rfl, hown'⟩, (Below.refl _ _).grown hgrow (Nat.le_refl _) (fun k hk => by have hk' : (none : Option Nat) = some k := hk; cases hk')⟩
theorem selF_xy : selF [(⟨#[120]⟩, ⟨#[121]⟩)] ⟨#[88]⟩ = [⟨#[121]⟩] := by kernel_rfl
/-- Get(Set(nil, "x", "y"), "X"). -/
theorem set_xy (w : World) :
    Calls Try.prog 15 #[.slice none 0 0, .string ⟨#[120]⟩, .string ⟨#[121]⟩] w fun e w' => RetFlds w.heap.size [(⟨#[120]⟩, ⟨#[121]⟩)] e w' ∧ Below w.heap.size w w' := by
  refine (set_any _ [] ⟨#[120]⟩ ⟨#[121]⟩ w (SlR.nil w e_ss) (by decide) (fun _ hf => by cases hf) (by decide)).mono ?_
  rintro e w' ⟨h, hb⟩
  exact ⟨h, hb⟩
theorem get_xy (v : Value) (w : World) (h : SlR w e_ss v [(⟨#[120]⟩, ⟨#[121]⟩)]) :
    Calls Try.prog 16 #[v, .string ⟨#[88]⟩] w fun e w' => e = .returned (.tuple #[.string ⟨#[121]⟩, .bool true]) ∧ Below w.heap.size w w' :=
  get_one v _ _ _ w h (by decide) (fun f hf => by rw [List.mem_singleton.1 hf]; decide) (by decide) selF_xy (by decide)
set_option maxRecDepth 100000 in
set_option maxHeartbeats 6400000 in
theorem fieldBoth_core (v u : Value) (l m : List Fld) (n : ByteArray) (w : World) (h : SlR w e_ss v l) (hu : SlR w e_ss u m) (hl : l.length ≤ 1048576) (hm : m.length ≤ 1048576) (hz : Lims l) (hmz : Lims m) (hj : (l.map (fun f => f.2.size + 2)).sum ≤ 1048576) (hmj : (m.map (fun f => f.2.size + 2)).sum ≤ 1048576) (hn : n.size ≤ 1048576) :
    Calls Try.prog 8 #[v, u, .string n] w fun e w' => e = .returned (.bool true) ∧ Below w.heap.size w w' := by
  have HL := Lib.hid h
  have HM := Lib.hid hu
  have hlz : Lims (l ++ m) := fun f hf => (List.mem_append.1 hf).elim (hz f) (hmz f)
  have j1 := selF_join l n
  have j2 := selF_join m n
  have j3 := selF_join (l ++ m) n
  rw [List.map_append, List.sum_append] at j3
  have SA := Lib.hid (selF_append l m n)
  have hsx : (joinS (selF l n) sep2).size ≤ 1048576 := by unfold joinS; rw [mkS_size]; omega
  have hsy : (joinS (selF m n) sep2).size ≤ 1048576 := by unfold joinS; rw [mkS_size]; omega
  have hJ := Lib.hid (fun hx hy => joinS_both (selF l n) (selF m n) sep2 hx hy)
  clear h hu
  go_enter Try.func8, Try.ntmps8
  go_wp2_with fail
  refine (get_any v l n _ HL.out (by omega) hz (by omega) (by omega)).mono ?_
  rintro e w1 ⟨rfl, b1⟩
  go_wp2_with fail
  refine (get_any u m n _ (HM.out.below b1) (by omega) hmz (by omega) (by omega)).mono ?_
  rintro e w2 ⟨rfl, b2⟩
  have B2 := belT b1 b2
  go_wp2_with fail
  refine (copyFld_any v l _ (HL.out.below B2) (by omega)).mono ?_
  rintro e w3 ⟨⟨u3, rfl, o3⟩, b3⟩
  have B3 := belT B2 b3
  have O3 := Lib.hid o3
  have HM3 := Lib.hid (HM.out.below B3)
  clear o3
  go_wp2_with (at_builtin; go_must (refine wpList_append_slr rfl (.tmp 29) (.tmp 30) _ rfl w2.heap.size 38 (.agg #[.string ByteArray.empty, .string ByteArray.empty]) 2 32 e_ss Try.underlying31 fldInfo rfl (by decide) (fun _ => rfl) _ l rfl O3.out _ m rfl HM3.out (ss_one m) (by simp only [maxLen]; omega) (by omega) b3.size ?_); intro v4 w4 o4 g4)
  have B4 : Below w.heap.size w w4 := B3.grown g4 B3.size (fun k hk => Nat.le_trans B2.size (O3.out.lt k hk).1)
  have HA := Lib.hid (SlR.of_owns o4)
  clear o4
  refine (get_any v4 (l ++ m) n _ HA.out (by simp; omega) hlz (by omega) (by omega)).mono ?_
  rintro e w5 ⟨rfl, b5⟩
  rw [SA.out]
  go_wp2_with fail
  refine (set_xy _).mono ?_
  rintro e w6 ⟨⟨u6, rfl, o6⟩, b6⟩
  go_wp2_with fail
  refine (get_xy u6 _ (SlR.of_owns o6)).mono ?_
  rintro e w7 ⟨rfl, b7⟩
  have B7 := B4.trans (((b5.mono B4.size).trans (b6.mono (Nat.le_trans B4.size b5.size))).trans (b7.mono (Nat.le_trans (Nat.le_trans B4.size b5.size) b6.size)))
  have t0 : ((⟨#[121]⟩ : ByteArray).toList != (⟨#[121]⟩ : ByteArray).toList) = false := by simp
  clear o6 b1 b2 b3 b5 b6 b7 B2 B3 B4 j1 j2 j3
  have hcs : ∃ (p q r : Bool), decide (0 < (selF l n).length) = p ∧ decide (0 < (selF m n).length) = q ∧ decide (0 < (selF l n).length + (selF m n).length) = r ∧
      ((p = true ∧ q = true ∧ r = true ∧ joinS (selF l n ++ selF m n) sep2 = joinS (selF l n) sep2 ++ sep2 ++ joinS (selF m n) sep2) ∨ (p = true ∧ q = false ∧ r = true ∧ joinS (selF l n ++ selF m n) sep2 = joinS (selF l n) sep2) ∨ (p = false ∧ q = true ∧ r = true ∧ joinS (selF l n ++ selF m n) sep2 = joinS (selF m n) sep2) ∨ (p = false ∧ q = false ∧ r = false ∧ joinS (selF l n ++ selF m n) sep2 = ByteArray.empty)) := by
    have hjj := hJ.out
    generalize selF l n = X at *
    generalize selF m n = Y at *
    cases X with
    | nil =>
      cases Y with
      | nil => exact ⟨_, _, _, rfl, rfl, rfl, .inr (.inr (.inr ⟨rfl, rfl, rfl, rfl⟩))⟩
      | cons y Y => exact ⟨_, _, _, rfl, rfl, rfl, .inr (.inr (.inl ⟨rfl, by simp, by simp, rfl⟩))⟩
    | cons x X =>
      cases Y with
      | nil => exact ⟨_, _, _, rfl, rfl, rfl, .inr (.inl ⟨by simp, rfl, by simp, by rw [List.append_nil]⟩)⟩
      | cons y Y => exact ⟨_, _, _, rfl, rfl, rfl, .inl ⟨by simp, by simp, by simp; omega, hjj (by simp) (by simp)⟩⟩
  obtain ⟨p, q, r, hp, hq, hr, hcs⟩ := hcs
  generalize joinS (selF l n ++ selF m n) sep2 = c at *
  generalize joinS (selF l n) sep2 = a at *
  generalize joinS (selF m n) sep2 = b at *
  clear hJ
  rcases hcs with ⟨rfl, rfl, rfl, hc⟩ | ⟨rfl, rfl, rfl, hc⟩ | ⟨rfl, rfl, rfl, hc⟩ | ⟨rfl, rfl, rfl, hc⟩
  · have t1 : (c.toList == (a ++ (⟨#[44, 32]⟩ : ByteArray) ++ b).toList) = true := by rw [toList_inj, hc]; exact decide_eq_true rfl
    have s1 : (a ++ (⟨#[44, 32]⟩ : ByteArray)).size + b.size ≤ 9223372036854775807 := by
      rw [ByteArray.size_append]; have : (⟨#[44, 32]⟩ : ByteArray).size = 2 := rfl; omega
    clear hc
    go_wp2_with fail
    go_ret
    exact ⟨rfl, B7⟩
  · have t1 : (c.toList == a.toList) = true := by rw [hc]; simp
    clear hc
    go_wp2_with fail
    go_ret
    exact ⟨rfl, B7⟩
  · have t1 : (c.toList == b.toList) = true := by rw [hc]; simp
    clear hc
    go_wp2_with fail
    go_ret
    exact ⟨rfl, B7⟩
  · have t1 : (c.toList == (⟨#[]⟩ : ByteArray).toList) = true := by rw [hc, toList_inj]; exact decide_eq_true rfl
    have t2 : c.toList = [] := by rw [hc, ba_toList]; rfl
    clear hc
    go_wp2_with fail
    go_ret
    exact ⟨rfl, B7⟩
theorem fieldBoth_walk (v : Value) (l : List Fld) (u : Value) (m : List Fld) (n : ByteArray) (w : World) (h : SlR w e_ss v l) (hs : (l.map (fun d => d.1.size + d.2.size + 2)).sum ≤ 1048576) (hu : SlR w e_ss u m) (hms : (m.map (fun d => d.1.size + d.2.size + 2)).sum ≤ 1048576) (hn : n.size ≤ 1048576) :
    Calls Try.prog 8 #[v, u, .string n] w fun e w' => e = .returned (.bool true) ∧ Below w.heap.size w w' := by
  have key : ∀ m : List Fld, (m.map (fun f => f.2.size + 2)).sum ≤ (m.map (fun d => d.1.size + d.2.size + 2)).sum := by
    intro m
    induction m with
    | nil => simp
    | cons x m ih => simp only [List.map_cons, List.sum_cons]; omega
  have lim : ∀ m : List Fld, (m.map (fun d => d.1.size + d.2.size + 2)).sum ≤ 1048576 → Lims m := fun m hm f hf => by have := sum_mem (fun d : Fld => d.1.size + d.2.size + 2) hf; omega
  exact fieldBoth_core v u l m n w h hu (Nat.le_trans (sum_len _ (fun _ => by omega) l) hs) (Nat.le_trans (sum_len _ (fun _ => by omega) m) hms) (lim l hs) (lim m hms) (Nat.le_trans (key l) hs) (Nat.le_trans (key m) hms) hn
end Go.Proofs.Ytdoeipjcohkbeaa
