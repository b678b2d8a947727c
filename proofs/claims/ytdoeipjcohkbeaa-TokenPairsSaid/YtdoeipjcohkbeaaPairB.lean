/- token.Params, where it answers a value and its parameters. -/
import Derived.Test.YtdoeipjcohkbeaaPairA
namespace Go.Proofs.Ytdoeipjcohkbeaa
open Go.RowKit
theorem parInfo : ElemInfo Try.prog 49 (.agg #[.string ByteArray.empty, .string ByteArray.empty]) 2 32 := by unfold ElemInfo; kernel_rfl
abbrev Trip := ByteArray × ByteArray × ByteArray
theorem pp_one (l : List (ByteArray × ByteArray)) : ∀ u ∈ l.flatMap e_ss, u.oneCell' = true := by
  intro u hu
  obtain ⟨d, _, hd⟩ := List.mem_flatMap.1 hu
  simp only [e_ss, List.mem_cons, List.not_mem_nil, or_false] at hd
  rcases hd with rfl | rfl <;> rfl
def parP (t : Trip) : ByteArray × ByteArray := (lowT t.2.1, t.2.2)
set_option maxHeartbeats 1600000 in
theorem params_any (s : ByteArray) (w : World) (ps : List (List UInt8)) (a : ByteArray) (ts : List Trip) (hs : s.size ≤ 1000) (hc : Tok.cutL 59 false [] (sl s) = some ps) (hp : ps.map Tok.partS = a :: ts.map (·.1)) (ha : Tok.ne a = true) (ht : ∀ t ∈ ts, Piece t.1 t.2.1 t.2.2 ∧ Tok.ne t.1 = true) (hn : ts.length ≤ 20) :
    Calls Try.prog 25 #[.string s] w fun e w' => (∃ v, e = .returned (.tuple #[.string a, v, .int .i64 0]) ∧ Owns w' w.heap.size 49 2 e_ss v (ts.map parP)) ∧ Below w.heap.size w w' := by
  have HT := Lib.hid ht
  have HC := Lib.hid (cut_any s 59)
  have hxl : (a :: ts.map (·.1)).length = ts.length + 1 := by simp
  have HX : Hid (∀ k, (h : k < ts.length) → (a :: ts.map (·.1))[k + 1]? = some ts[k].1) := fun k h => by simp [h]
  have HX0 : Hid ((a :: ts.map (·.1))[0]? = some a) := rfl
  have HA := Lib.hid ha
  clear ht ha
  have HCC := Lib.hid hc
  have HP := Lib.hid hp
  clear hc hp
  go_enter Try.func25, Try.ntmps25
  go_wp2_with fail
  refine (HC.out _ (by omega)).mono ?_
  rintro e w1 ⟨hans, hb1⟩
  rcases hans with ⟨h1, _⟩ | ⟨ps', v, h1, _, rfl, hown⟩
  · rw [HCC.out] at h1; cases h1
  · rw [HCC.out] at h1
    injection h1 with h1
    subst h1
    rw [HP.out] at hown
    generalize a :: ts.map (·.1) = xs at *
    have hr := SlR.of_owns hown
    clear hown
    obtain ⟨b, off, c, rfl, hcap, hbb, hcell⟩ := hr.texts (by omega)
    have hcell0 : w1.cell? ⟨b, off, none⟩ = some (.string (xs[0]'(by omega))) := hcell 0 (by omega)
    obtain ⟨x0, hx0⟩ : ∃ x0, xs[0]'(by omega) = x0 := ⟨_, rfl⟩
    have hxa : x0 = a := by rw [← hx0]; have := HX0.out; rw [List.getElem?_eq_getElem (by omega)] at this; exact Option.some.inj this
    rw [hx0, hxa] at hcell0
    clear hx0 hxa
    have hA0 : 0 < ts.length → (if c = 1 then (some ⟨b, off, none⟩ : Option Addr) else some ⟨b, off + 1, none⟩) = some ⟨b, off + 1, none⟩ := by intro h; rw [if_neg (by omega)]
    obtain ⟨A', hA, hA'⟩ : ∃ A', (if c = 1 then (some ⟨b, off, none⟩ : Option Addr) else some ⟨b, off + 1, none⟩) = A' ∧ (0 < ts.length → A' = some ⟨b, off + 1, none⟩) := ⟨_, rfl, hA0⟩
    have HCELL := Lib.hid hcell
    have HA' := Lib.hid hA'
    clear hcell hA' hA0
    have hne : a.toList.isEmpty = false := by simpa [Tok.ne] using HA.out
    go_wp2_with fail
    go_loopw [7, 34] (fun o i wr => ∃ k : Nat, k ≤ ts.length ∧ i = .int .i64 k ∧ Owns wr w1.heap.size 49 2 e_ss o ((ts.take k).map parP) ∧ Below w1.heap.size w1 wr) (fun _ i _ => ts.length - (intOf i).toNat)
    case atStart => exact ⟨0, by omega, rfl, Owns.nil _ _ _ _ _, Below.refl _ _⟩
    case round =>
      obtain ⟨k, hk, rfl, hown, hbel⟩ := hrel
      by_cases hlt : k < ts.length
      · obtain rfl := HA'.out (by omega)
        have hx1 : xs[k + 1]'(by omega) = ts[k].1 := by have := HX.out k hlt; rw [List.getElem?_eq_getElem (by omega)] at this; exact Option.some.inj this
        have c0 : wr.cell? ⟨b, off + 1 + k, none⟩ = some (.string ts[k].1) := by
          rw [hbel.cell hbb, ← hx1, show off + 1 + k = off + (k + 1) from by omega]
          exact HCELL.out (k + 1) (by omega)
        have HM : Hid ((ts.take (k + 1)).map parP = (ts.take k).map parP ++ [parP ts[k]]) := by show _ = _; rw [List.take_add_one, List.getElem?_eq_getElem hlt, List.map_append]; rfl
        have hpc := HT.out ts[k] (List.getElem_mem hlt)
        have hml : ((ts.take k).map parP).length = k := by rw [List.length_map, List.length_take]; omega
        generalize ts[k] = t at c0 HM hpc
        obtain ⟨p, n, z⟩ := t
        have HPC := Lib.hid hpc.1
        have hpne : p.toList.isEmpty = false := by simpa [Tok.ne] using hpc.2
        clear hpc hx1
        generalize (ts.take k).map parP = ys at hown HM hml
        have HO := Lib.hid hown
        obtain ⟨A2, c2, hv⟩ := hown.slice
        subst hv
        clear hown
        go_wp2_with fail
        refine (param_any p n z _ HPC.out).mono ?_
        rintro e w2 ⟨rfl, b2⟩
        rw [show parV n z = .agg #[.string (lowT n), .string z] from rfl]
        have hb12 := hbel.trans (b2.mono hbel.size)
        have ho2 := HO.out.below b2
        rw [hml] at ho2
        have HO2 := Lib.hid ho2
        clear ho2
        have HNC : ∀ j u, [Value.string (lowT n), .string z][j]? = some u → ((w2.alloc (.cells #[.string (lowT n), .string z] 49)).alloc (.cells #[.string (lowT n), .string z] 49)).cell? ((⟨w2.heap.size + 1, 0, none⟩ : Addr).add j) = some u := by
          have := new_cells (w2.alloc (.cells #[.string (lowT n), .string z] 49)) [.string (lowT n), .string z] 49
          rwa [show (w2.alloc (.cells #[.string (lowT n), .string z] 49)).heap.size = w2.heap.size + 1 from by simp] at this
        have hb2 : Below w1.heap.size w1 (w2.alloc (.cells #[.string (lowT n), .string z] 49)) := hb12.alloc hb12.size _
        go_wp2_with (at_builtin; go_must (refine wpList_append_owns rfl (.tmp 47) (.tmp 49) _ rfl w1.heap.size 49 (.agg #[.string ByteArray.empty, .string ByteArray.empty]) 2 32 e_ss Try.underlying48 parInfo rfl (by decide) _ ys rfl ((HO2.out.alloc _).alloc _) ⟨w2.heap.size + 1, 0, none⟩ 1 1 [(lowT n, z)] rfl rfl rfl HNC (pp_one _) (by simp only [maxLen]; omega) (by rw [hml]; omega) (bel_size hb2 (Nat.le_refl _) _) ?_); intro v3 w3 hown3 hg3)
        go_roundw
        case rel => exact ⟨k + 1, by omega, by go_num, by rw [HM.out]; exact hown3, (hb2.alloc hb2.size _).grown hg3 (bel_size hb2 (Nat.le_refl _) _) (fun k hk => (HO2.out.lt k hk).1)⟩
        case measure => simp [intOf]; omega
      · have hE : ts.take k = ts := List.take_of_length_le (by omega)
        rw [hE] at hown
        have hml : (ts.map parP).length = ts.length := List.length_map ..
        obtain ⟨ys, HY⟩ : ∃ ys, Hid (ts.map parP = ys) := ⟨_, rfl⟩
        rw [HY.out] at hown hml
        have HO := Lib.hid hown
        obtain ⟨A2, c2, hv⟩ := hown.slice
        subst hv
        have c0 := (hbel.cell hbb).trans hcell0
        clear hown hE
        have dl : decide ((20 : Int) < (ts.length : Int)) = false := by rw [decide_eq_false_iff_not]; omega
        have dl' : decide (20 < ts.length) = false := by rw [decide_eq_false_iff_not]; omega
        go_wp2_with fail
        refine bodyPost_ret (v := .tuple #[.string a, .slice A2 ts.length c2, .int .i64 0]) (by simp [results, Try.results25, go_sem, hml]) rfl ⟨⟨_, rfl, by have := HO.out; rw [hml] at this; rw [HY.out]; exact this.mono hb1.size⟩, hb1.trans (hbel.mono hb1.size)⟩
end Go.Proofs.Ytdoeipjcohkbeaa
