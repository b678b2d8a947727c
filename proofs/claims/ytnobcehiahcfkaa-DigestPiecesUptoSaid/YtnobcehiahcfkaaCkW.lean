/- ChunkWhole: all pieces together are the text; none is empty, none longer than 128 bytes, only the last one shorter than 16. -/
import Derived.Test.YtnobcehiahcfkaaCkD
import Derived.Test.YtnobcehiahcfkaaJoin
namespace Go.Proofs.Ytnobcehiahcfkaa
set_option maxRecDepth 20000
open Go.RowKit Go.Shelf
theorem joinL_flat : ∀ xs : List ByteArray, joinL xs ByteArray.empty = (xs.map sl).flatten
  | [] => rfl
  | x :: xs => by
    unfold joinL
    rw [List.map_cons, Lib.join_cons, sl_empty, List.flatten_cons]
    congr 1
    unfold Lib.joinTail
    simp
    rfl
theorem map_sl_mkS (l : List (List UInt8)) : (l.map mkS).map sl = l := by
  rw [List.map_map]
  conv => rhs; rw [← List.map_id l]
  exact List.map_congr_left (fun x _ => sl_mkS x)
theorem cut_x : (Pc.cut gear (sl ⟨#[120]⟩)).length = 1 := by
  have : sl ⟨#[120]⟩ = [120] := rfl
  rw [this]
  simp [Pc.cut, Pc.cuts, Pc.ends, Pc.tl]
theorem cut_x_any (w : World) :
    Calls Try.prog 16 #[.string ⟨#[120]⟩] w fun e w' => (∃ A c, e = .returned (.slice A 1 c)) ∧ Below w.heap.size w w' := by
  refine (cut_any ⟨#[120]⟩ w (by decide)).mono ?_
  rintro e w' ⟨v, rfl, ho, hb⟩
  obtain ⟨A, c, hv⟩ := ho.slice
  rw [List.length_map, cut_x] at hv
  exact ⟨⟨A, c, by rw [hv]⟩, hb⟩
theorem cut_count (s : List UInt8) (h : s.length ≤ 140737488355328) : (Pc.cut gear s).length * 16 ≤ 140737488355328 := by
  have := cut_len s h
  rw [Pc.cut, List.length_append]
  exact this
set_option maxHeartbeats 1000000 in
theorem chunkWhole_walk (s : ByteArray) (w : World) (hs : s.size ≤ 140737488351232) :
    Calls Try.prog 5 #[.string s] w fun e w' => e = .returned (.bool true) ∧ Below w.heap.size w w' := by
  have HN := Lib.hid (cut_count (sl s) (by rw [sl_len]; omega))
  have HZ := Lib.hid (Pc.cut_sizes gear (sl s))
  have HJ : Hid (joinL ((Pc.cut gear (sl s)).map mkS) ByteArray.empty = sl s) := by
    show _ = _
    rw [joinL_flat, map_sl_mkS, Pc.cut_flat]
  have HL : Hid (((Pc.cut gear (sl s)).map mkS).length = (Pc.cut gear (sl s)).length) := List.length_map ..
  have HG : Hid (∀ (k : Nat) (hk : k < ((Pc.cut gear (sl s)).map mkS).length), 0 < ((Pc.cut gear (sl s)).map mkS)[k].size ∧ ((Pc.cut gear (sl s)).map mkS)[k].size ≤ 128 ∧ (k + 1 < ((Pc.cut gear (sl s)).map mkS).length → 16 ≤ ((Pc.cut gear (sl s)).map mkS)[k].size)) := by
    intro k hk
    have := HZ.out k (by rw [← HL.out]; exact hk)
    rw [List.getElem_map, mkS_size]
    exact ⟨this.1, this.2.1, fun h => this.2.2 (by rw [← HL.out]; exact h)⟩
  rw [← HL.out] at HN
  clear HZ HL
  go_enter Try.func5, Try.ntmps5
  go_wp2_with fail
  refine (cut_any s w (by omega)).mono ?_
  rintro e w1 ⟨v, rfl, ho, b1⟩
  generalize (Pc.cut gear (sl s)).map mkS = xs at *
  have hr := SlR.of_owns ho
  clear ho
  go_wp2_with fail
  refine (cut_x_any w1).mono ?_
  rintro e w2 ⟨⟨A', c', rfl⟩, b2⟩
  have hr2 := hr.below b2
  have bB := b1.trans (b2.mono b1.size)
  have HR := Lib.hid hr2
  obtain ⟨A, c, hv, -, -⟩ := hr2
  subst hv
  clear hr
  go_wp2_with fail
  have hxn : xs.length ≤ 8796093022208 := by have := HN.out; omega
  go_loop [13] (fun i => ∃ k : Nat, i = .int .i64 k ∧ k ≤ xs.length) (fun i => xs.length - (intOf i).toNat)
  case atStart => exact ⟨0, rfl, Nat.zero_le _⟩
  case round =>
    obtain ⟨k, rfl, hk⟩ := hrel
    by_cases hlt : k < xs.length
    · obtain ⟨b, off, c2, hv, hc2, hb, hcell⟩ := HR.out.texts (by omega)
      injection hv with h1 h2 h3
      subst h1 h3
      have c0 := hcell k hlt
      obtain ⟨g1, g2, g3⟩ := HG.out k hlt
      clear hcell h2
      generalize xs[k] = p at *
      have e0 : p.toList.isEmpty = false := isEmpty_no p g1
      have e1 : decide ((128 : Int) < (p.size : Int)) = false := decide_eq_false (by omega)
      have e1' : decide (128 < p.size) = false := decide_eq_false (by omega)
      by_cases h16 : p.size < 16
      · have e2 : decide ((p.size : Int) < 16) = true := decide_eq_true (by omega)
        have e2' : decide (p.size < 16) = true := decide_eq_true h16
        have e3 : decide ((k : Int) < (xs.length : Int) - 1) = false := decide_eq_false (by omega)
        clear g3
        go_wp2_with fail
        go_round
        case rel => exact ⟨k + 1, by go_num, hlt⟩
        case measure => simp [intOf]; omega
      · have e2 : decide ((p.size : Int) < 16) = false := decide_eq_false (by omega)
        have e2' : decide (p.size < 16) = false := decide_eq_false h16
        clear g3
        go_wp2_with fail
        go_round
        case rel => exact ⟨k + 1, by go_num, hlt⟩
        case measure => simp [intOf]; omega
    · go_wp2_with fail
      refine (join_any _ xs ByteArray.empty w2 HR.out (by have := HN.out; omega) (by rw [HJ.out, sl_len]; exact hs)).mono ?_
      rintro e w3 ⟨rfl, b3⟩
      have hj : joinS xs ByteArray.empty = s := by unfold joinS; rw [HJ.out, mkS_sl]
      rw [hj]
      go_wp2_with fail
      go_ret
      exact ⟨by simp, bB.trans (b3.mono bB.size)⟩
end Go.Proofs.Ytnobcehiahcfkaa
