/- What field's Drop, Get and Set compute. -/
import Derived.Test.YthhhlaoiampinaaFieldC
import Derived.Test.YthhhlaoiampinaaJoin
namespace Go.Proofs.Ythhhlaoiampinaa
open Go.RowKit
/-- Drop. -/
def dropF (l : List Fld) (n : ByteArray) : List Fld := keepN (lowS n) l
theorem dropF_len (l : List Fld) (n : ByteArray) : (dropF l n).length ≤ l.length := List.length_filter_le ..
theorem dropF_lims {l : List Fld} (n : ByteArray) (h : Lims l) : Lims (dropF l n) := fun f hf => h f (List.mem_filter.1 hf).1
set_option maxHeartbeats 800000 in
theorem drop_any (v : Value) (l : List Fld) (n : ByteArray) (w : World) (h : SlR w e_ss v l) (hl : l.length * 32 ≤ 140737488355328) (hz : Lims l) (hn : n.size ≤ 140737488351232) :
    Calls Try.prog 13 #[v, .string n] w fun e w' => RetFlds w.heap.size (dropF l n) e w' ∧ Below w.heap.size w w' := by
  go_enter Try.func13, Try.ntmps13
  go_wp2_with fail
  refine (cloneFld_any v l _ h hl).mono ?_
  rintro e w1 ⟨⟨u, rfl, o1⟩, b1⟩
  go_wp2_with fail
  refine (named_any n _ hn).mono ?_
  rintro e w2 ⟨rfl, hz2, hc2, b2⟩
  have O2 := Lib.hid (o1.below b2)
  have hne : u.ownBlock ≠ some w1.heap.size := fun e => by have := (o1.lt _ e).2; omega
  clear o1
  go_wp2_with fail
  refine (deleteFld_any u l w.heap.size w1.heap.size (lowS n) _ O2.out (by omega) hz ⟨hz2, hc2⟩ hne).mono ?_
  rintro e w3 ⟨⟨u3, rfl, o3⟩, g3⟩
  go_wp2_with fail
  go_ret
  exact ⟨⟨_, rfl, o3⟩, (belT b1 b2).grown g3 (belT b1 b2).size (fun k hk => (O2.out.lt k hk).1)⟩
/-! ### Get -/
def selF (l : List Fld) (n : ByteArray) : List ByteArray := (l.filter (isN (lowS n))).map Prod.snd
def sep2 : ByteArray := ⟨#[44, 32]⟩
theorem selF_take {l : List Fld} {n : ByteArray} {k : Nat} (h : k < l.length) : selF (l.take (k + 1)) n = selF (l.take k) n ++ (if isN (lowS n) l[k] = true then [l[k].2] else []) := by
  unfold selF
  rw [List.take_add_one, List.getElem?_eq_getElem h, List.filter_append, List.map_append]
  congr 1
  cases hq : isN (lowS n) l[k] <;> simp [hq]
theorem selF_len (l : List Fld) (n : ByteArray) : (selF l n).length ≤ l.length := by unfold selF; rw [List.length_map]; exact List.length_filter_le ..
set_option maxHeartbeats 1600000 in
theorem get_any (v : Value) (l : List Fld) (n : ByteArray) (w : World) (h : SlR w e_ss v l) (hl : l.length * 32 ≤ 140737488355328) (hz : Lims l) (hn : n.size ≤ 140737488351232) (hj : (joinL (selF l n) sep2).length ≤ 140737488351232) :
    Calls Try.prog 17 #[v, .string n] w fun e w' => e = .returned (.tuple #[.string (joinS (selF l n) sep2), .bool (decide (0 < (selF l n).length))]) ∧ Below w.heap.size w w' := by
  have HS := Lib.hid h
  obtain ⟨A, c, rfl, hcc, -⟩ := h
  go_enter Try.func17, Try.ntmps17
  go_wp2_with fail
  refine (named_any n _ hn).mono ?_
  rintro e w1 ⟨rfl, hz1, hc1, b1⟩
  have HC := Lib.hid (show Cap w1 w.heap.size (lowS n) from ⟨hz1, hc1⟩)
  have h2 := Lib.hid (fun hn => fld_two (HS.out.below b1) hn)
  clear hc1
  unfold nfn
  go_wp2_with fail
  go_loopw [6, 14] (fun u i wr => ∃ k : Nat, k ≤ l.length ∧ i = .int .i64 k ∧ Owns wr w1.heap.size 9 1 es u (selF (l.take k) n) ∧ Below w1.heap.size w1 wr) (fun _ i _ => l.length - (intOf i).toNat)
  case atStart => exact ⟨0, by omega, rfl, Owns.nil .., Below.refl _ _⟩
  case round =>
    obtain ⟨k, hk, rfl, hown, hbel⟩ := hrel
    have HO := Lib.hid hown
    clear hown
    by_cases hlt : k < l.length
    · obtain ⟨b, o, c', he, hb, hcell⟩ := h2.out (by omega)
      obtain ⟨rfl, rfl⟩ : A = some ⟨b, o, none⟩ ∧ c = c' := by injection he with h1 h2 h3; exact ⟨h1, h3⟩
      obtain ⟨q0, q1⟩ := hcell k hlt
      have c0 := (hbel.cell (p := ⟨b, o + k * 2, none⟩) hb).trans q0
      have c1 := (hbel.cell (p := ⟨b, o + k * 2 + 1, none⟩) hb).trans q1
      clear hcell h2 q0 q1 he
      have HT := Lib.hid (selF_take (n := n) hlt)
      have hsl : (selF (l.take k) n).length ≤ l.length := Nat.le_trans (selF_len _ _) (by simp; omega)
      have hf := hz _ (List.getElem_mem hlt)
      generalize l[k] = f at c0 c1 HT hf
      have b0 : Below wr.heap.size wr (wr.alloc (.cells #[.string f.1, .string f.2] 31)) := (Below.refl _ _).alloc (Nat.le_refl _) _
      have HCr := Lib.hid ((HC.out.below hbel).below b0)
      cases hq : isN (lowS n) f
      all_goals
        have HQ := Lib.hid hq
        clear hq
        go_wp2_with fail
        refine (named1_any f w.heap.size (lowS n) _ HCr.out.1 HCr.out.2 hf).mono ?_
        rintro e w2 ⟨rfl, b2⟩
        rw [HQ.out]
        have bw := b0.trans (b2.mono (by simp))
        have hbb := hbel.trans (bw.mono hbel.size)
        have HO2 := Lib.hid (HO.out.below bw)
        have HT2 := HT.out
        rw [HQ.out] at HT2
        have HT3 := Lib.hid HT2
        clear HT2
      · go_wp2_with fail
        go_roundw
        case rel => exact ⟨k + 1, by omega, by go_num, by rw [HT3.out, if_neg (by decide), List.append_nil]; exact HO2.out, hbb⟩
        case measure => simp [intOf]; omega
      · have e1 : w2.cell? ⟨wr.heap.size, 1, none⟩ = some (.string f.2) := (b2.cell (by simp)).trans (by go_simp)
        go_wp2_with (at_builtin; go_must (refine wpList_append_owns rfl (.tmp 21) (.tmp 24) _ rfl w1.heap.size 9 (.string ByteArray.empty) 1 16 es Try.underlying42 stringInfo rfl (by decide) _ _ rfl (HO2.out.alloc _) ⟨w2.heap.size, 0, none⟩ 1 1 [f.2] rfl rfl rfl (new_cells _ [.string f.2] _) (es_one [f.2]) (by simp only [maxLen]; omega) (by omega) (bel_size hbb (Nat.le_refl _) _) ?_); intro v5 w5 hown5 hg5)
        go_roundw
        case rel => exact ⟨k + 1, by omega, by go_num, by rw [HT3.out, if_pos trivial]; exact hown5, bel_append hbb (Nat.le_refl _) HO2.out hg5⟩
        case measure => simp [intOf]; omega
    · have hE : l.take k = l := List.take_of_length_le (by omega)
      rw [hE] at HO
      have hsl : (selF l n).length ≤ l.length := selF_len _ _
      have HF := Lib.hid (SlR.of_owns HO.out)
      obtain ⟨A2, c2, hv, -⟩ := HF.out
      subst hv
      clear hE
      go_wp2_with fail
      refine (join_any _ (selF l n) sep2 _ HF.out (by omega) hj).mono ?_
      rintro e w2 ⟨rfl, b2⟩
      go_wp2_with fail
      go_ret2
      exact ⟨by rfl, (b1.trans (hbel.mono b1.size)).trans (b2.mono (Nat.le_trans b1.size hbel.size))⟩
end Go.Proofs.Ythhhlaoiampinaa
