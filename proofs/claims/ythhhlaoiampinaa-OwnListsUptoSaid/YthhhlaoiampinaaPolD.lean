/- policy's Strip and Freshen: what they answer. -/
import Derived.Test.YthhhlaoiampinaaPolC
namespace Go.Proofs.Ythhhlaoiampinaa
set_option maxRecDepth 20000
open Go.RowKit
namespace Pol
theorem hops_len (l : List Fld) : (hopsF l).length ≤ 27 := by
  unfold hopsF
  have := parts_len l
  rw [List.length_append, List.length_map, show hop7.length = 7 from rfl]
  omega
theorem strip_any (u : Value) (l : List Fld) (w : World) (h : FOk w u l) :
    Calls Try.prog 14 #[u] w fun e w' => RetFlds w.heap.size (stripF l) e w' ∧ Below w.heap.size w w' := by
  have hh := hops_len l
  go_enter Try.func14, Try.ntmps14
  go_wp2_with fail
  refine (hops_any u l _ h).mono ?_
  rintro e w1 ⟨⟨v, rfl, o1⟩, b1⟩
  have HS := Lib.hid (SlR.of_owns o1)
  clear o1
  go_wp2_with fail
  refine (without_any u v l (hopsF l) _ (h.below b1) HS.out (by omega)).mono ?_
  rintro e w2 ⟨⟨y, rfl, o2⟩, b2⟩
  have HO2 := Lib.hid (o2.mono b1.size)
  clear o2
  go_wp2_with fail
  go_ret
  exact ⟨⟨_, rfl, HO2.out⟩, belT b1 b2⟩
theorem names_take {l : List Fld} {k : Nat} (h : k < l.length) : namesF (l.take (k + 1)) = namesF (l.take k) ++ (if hasB below4 (lowS l[k].1) = true then [] else [lowS l[k].1]) := by
  unfold namesF
  rw [List.take_add_one, List.getElem?_eq_getElem h, List.map_append, List.filter_append]
  congr 1
  simp only [Option.toList_some, List.map_cons, List.map_nil, List.filter_cons, List.filter_nil]
  cases hasB below4 (lowS l[k].1) <;> simp
theorem names_len (l : List Fld) : (namesF l).length ≤ l.length := by
  unfold namesF
  exact Nat.le_trans (List.length_filter_le ..) (by rw [List.length_map]; exact Nat.le_refl _)
set_option maxHeartbeats 3200000 in
theorem freshen_any (u v : Value) (old now : List Fld) (w : World) (h : FOk w u old) (hv : FOk w v now) (hs : wt old + wt now ≤ 4398046511104) :
    Calls Try.prog 15 #[u, v] w fun e w' => RetFlds w.heap.size (freshF old now) e w' ∧ Below w.heap.size w w' := by
  have HB0 : Hid (SlR (w.alloc (.cells #[.string ⟨#[99, 111, 110, 116, 101, 110, 116, 45, 108, 101, 110, 103, 116, 104]⟩, .string ⟨#[99, 111, 110, 116, 101, 110, 116, 45, 114, 97, 110, 103, 101]⟩, .string ⟨#[99, 111, 110, 116, 101, 110, 116, 45, 101, 110, 99, 111, 100, 105, 110, 103]⟩, .string ⟨#[99, 111, 110, 116, 101, 110, 116, 45, 116, 121, 112, 101]⟩] 9)) es (.slice (some ⟨w.heap.size, 0, none⟩) 4 4) below4) := SlR.lit (enc := es) w [.string ⟨#[99, 111, 110, 116, 101, 110, 116, 45, 108, 101, 110, 103, 116, 104]⟩, .string ⟨#[99, 111, 110, 116, 101, 110, 116, 45, 114, 97, 110, 103, 101]⟩, .string ⟨#[99, 111, 110, 116, 101, 110, 116, 45, 101, 110, 99, 111, 100, 105, 110, 103]⟩, .string ⟨#[99, 111, 110, 116, 101, 110, 116, 45, 116, 121, 112, 101]⟩] 9 below4 rfl
  have b0 : Below w.heap.size w (w.alloc (.cells #[.string ⟨#[99, 111, 110, 116, 101, 110, 116, 45, 108, 101, 110, 103, 116, 104]⟩, .string ⟨#[99, 111, 110, 116, 101, 110, 116, 45, 114, 97, 110, 103, 101]⟩, .string ⟨#[99, 111, 110, 116, 101, 110, 116, 45, 101, 110, 99, 111, 100, 105, 110, 103]⟩, .string ⟨#[99, 111, 110, 116, 101, 110, 116, 45, 116, 121, 112, 101]⟩] 9)) := (Below.refl _ _).alloc (Nat.le_refl _) _
  have HU := Lib.hid (h.below b0)
  have HV := Lib.hid (hv.below b0)
  have hfl := hv.lims
  have hln := hv.len
  have hlo := h.len
  have hwl1 := wt_len old
  have hwl2 := wt_len now
  have H2 := Lib.hid (fun hn => fld_two (hv.sl.below b0) hn)
  obtain ⟨A, c, rfl, -⟩ := hv.sl.form
  clear h hv
  go_enter Try.func15, Try.ntmps15
  go_wp2_with fail
  generalize w.alloc (.cells #[.string ⟨#[99, 111, 110, 116, 101, 110, 116, 45, 108, 101, 110, 103, 116, 104]⟩, .string ⟨#[99, 111, 110, 116, 101, 110, 116, 45, 114, 97, 110, 103, 101]⟩, .string ⟨#[99, 111, 110, 116, 101, 110, 116, 45, 101, 110, 99, 111, 100, 105, 110, 103]⟩, .string ⟨#[99, 111, 110, 116, 101, 110, 116, 45, 116, 121, 112, 101]⟩] 9) = w0 at *
  go_loopw [6, 13] (fun t i wr => ∃ k : Nat, k ≤ now.length ∧ i = .int .i64 k ∧ Owns wr w0.heap.size 9 1 es t (namesF (now.take k)) ∧ Below w0.heap.size w0 wr) (fun _ i _ => now.length - (intOf i).toNat)
  case atStart => exact ⟨0, by omega, rfl, Owns.nil .., Below.refl _ _⟩
  case round =>
    obtain ⟨k, hk, rfl, hown, hbel⟩ := hrel
    have HO := Lib.hid hown
    by_cases hlt : k < now.length
    · obtain ⟨A1, c1, hv1⟩ := hown.slice
      have hnl : (namesF (now.take k)).length ≤ now.length := Nat.le_trans (names_len _) (by simp; omega)
      obtain ⟨b, o, c', he, hb, hcell⟩ := H2.out (by omega)
      obtain ⟨rfl, rfl⟩ : A = some ⟨b, o, none⟩ ∧ c = c' := by injection he with h1 h2 h3; exact ⟨h1, h3⟩
      obtain ⟨q0, q1⟩ := hcell k hlt
      have c0 := (hbel.cell (p := ⟨b, o + k * 2, none⟩) hb).trans q0
      have c1 := (hbel.cell (p := ⟨b, o + k * 2 + 1, none⟩) hb).trans q1
      have HT := Lib.hid (names_take hlt)
      have hf := hfl _ (List.getElem_mem hlt)
      clear hcell q0 q1 he hown
      generalize now[k] = f at *
      obtain ⟨fn, fv⟩ := f
      dsimp only at c0 c1 hf
      have bA : Below wr.heap.size wr (wr.alloc (.cells #[.string fn, .string fv] 31)) := (Below.refl _ _).alloc (Nat.le_refl _) _
      have BA := belT hbel bA
      have HLO := Lib.hid (fun w => lower_any fn w hf)
      have HOA := Lib.hid (HO.out.below bA)
      rw [show mkS (Tok.low (sl fn)) = lowS fn from rfl] at HLO
      dsimp only at HT
      generalize namesF (now.take k) = N at *
      subst hv1
      generalize lowS fn = n at *
      go_wp2_with fail
      refine (HLO.out _).mono ?_
      rintro e w1 ⟨rfl, b1⟩
      have B1 := belT BA b1
      have HO1 := Lib.hid (HOA.out.below b1)
      go_wp2_with fail
      refine (containsB_any _ below4 n _ (HB0.out.below B1) (by decide)).mono ?_
      rintro e w2 ⟨rfl, b2⟩
      have B2 := belT B1 b2
      have HO2 := Lib.hid (HO1.out.below b2)
      cases hq : hasB below4 n
      · rw [hq] at HT
        go_wp2_with (at_builtin; go_must (refine wpList_append_owns rfl (.tmp 24) (.tmp 26) _ rfl w0.heap.size 9 (.string ByteArray.empty) 1 16 es Try.underlying42 stringInfo rfl (by decide) _ _ rfl (HO2.out.alloc _) ⟨w2.heap.size, 0, none⟩ 1 1 [n] rfl rfl rfl (new_cells _ [.string n] _) (es_one [n]) (by simp only [maxLen]; omega) (by omega) (bel_size B2 (Nat.le_refl _) _) ?_); intro v5 w5 hown5 hg5)
        go_roundw
        case rel => exact ⟨k + 1, by omega, by go_num, by rw [HT.out, if_neg (by simp)]; exact hown5, bel_append B2 (Nat.le_refl _) HO2.out hg5⟩
        case measure => simp [intOf]; omega
      · rw [hq] at HT
        go_wp2_with fail
        go_roundw
        case rel => exact ⟨k + 1, by omega, by go_num, by rw [HT.out, if_pos trivial, List.append_nil]; exact HO2.out, B2⟩
        case measure => simp [intOf]; omega
    · have hE : now.take k = now := List.take_of_length_le (by omega)
      rw [hE] at HO
      have hnl := names_len now
      obtain ⟨A1, c1, hv1⟩ := HO.out.slice
      have HN := Lib.hid (SlR.of_owns HO.out)
      have HR : Hid (freshF old now = keepW (namesF now) old ++ keepW below4 (stripF now)) := rfl
      have hk1 : wt (keepW (namesF now) old) ≤ wt old := wt_filter _ _
      have hk2 : wt (stripF now) ≤ wt now := wt_filter _ _
      have hk3 : wt (keepW below4 (stripF now)) ≤ wt (stripF now) := wt_filter _ _
      have hk4 := wt_len (keepW (namesF now) old)
      have hk5 := wt_len (keepW below4 (stripF now))
      have hst : wt (stripF now) ≤ 4398046511104 := by omega
      have HUr := Lib.hid (HU.out.below hbel)
      have HVr := Lib.hid (HV.out.below hbel)
      have HBr := Lib.hid (HB0.out.below hbel)
      have hB := b0.trans (hbel.mono b0.size)
      generalize hX3 : keepW below4 (stripF now) = X3 at *
      generalize hX1 : keepW (namesF now) old = X1 at *
      generalize namesF now = N at *
      subst hv1
      go_wp2_with fail
      refine (without_any u _ old N _ HUr.out HN.out (by omega)).mono ?_
      rintro e w1 ⟨⟨x1, rfl, o1⟩, b1⟩
      rw [hX1] at o1
      have B1 := belT hB b1
      go_wp2_with fail
      refine (strip_any _ now _ (HVr.out.below b1)).mono ?_
      rintro e w2 ⟨⟨x2, rfl, o2⟩, b2⟩
      have B2 := belT B1 b2
      have HF2 : Hid (FOk w2 x2 (stripF now)) := ⟨SlR.of_owns o2, hst⟩
      clear o2
      go_wp2_with fail
      refine (without_any x2 _ (stripF now) below4 _ HF2.out ((HBr.out.below b1).below b2) (by decide)).mono ?_
      rintro e w3 ⟨⟨x3, rfl, o3⟩, b3⟩
      rw [hX3] at o3
      have B3 := belT B2 b3
      have HO1 := Lib.hid ((o1.below b2).below b3)
      have HS3 := Lib.hid (SlR.of_owns o3)
      clear o1 o3
      go_wp2_with (at_builtin; go_must (refine wpList_append_slr rfl (.tmp 31) (.tmp 35) _ rfl wr.heap.size 31 (.agg #[.string ByteArray.empty, .string ByteArray.empty]) 2 32 e_ss Try.underlying29 fldInfoB rfl (by decide) (fun _ => rfl) _ X1 rfl HO1.out _ X3 rfl HS3.out (ss_oneB _) (by simp only [maxLen]; omega) (by omega) (belT (belT b1 b2) b3).size ?_); intro v4 w4 o4 g4)
      rw [← HR.out] at o4
      have HO4 := Lib.hid (o4.mono hB.size)
      have B4 := B3.grown g4 B3.size (fun k hk => Nat.le_trans hB.size (HO1.out.lt k hk).1)
      clear o4 g4
      go_wp2_with fail
      go_ret
      exact ⟨⟨v4, rfl, HO4.out⟩, B4⟩
end Pol
end Go.Proofs.Ythhhlaoiampinaa
