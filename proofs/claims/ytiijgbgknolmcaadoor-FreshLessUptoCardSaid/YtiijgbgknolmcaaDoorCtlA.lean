/- What control's find, Has and Seconds compute. -/
import Derived.Test.YtiijgbgknolmcaaDoorChecked
import Derived.Test.YtiijgbgknolmcaaDoorBase
namespace Go.Proofs.YtiijgbgknolmcaaDoor
open Go.RowKit

/-- A directive: its name, whether it has an argument, the argument. -/
abbrev Drv := ByteArray × Bool × ByteArray
def ed (d : Drv) : List Value := [.string d.1, .bool d.2.1, .string d.2.2]
def zd : Drv := (ByteArray.empty, false, ByteArray.empty)
def vd (d : Drv) : Value := .agg #[.string d.1, .bool d.2.1, .string d.2.2]
/-- The first one of a name. -/
def findD (l : List Drv) (n : ByteArray) : Option Drv := l.find? (fun d => d.1.toList == n.toList)
theorem flat3 {α : Type} {en : α → List Value} (hen : ∀ x, (en x).length = 3) : ∀ (xs : List α) (k i : Nat) (x : α) (u : Value), xs[k]? = some x → i < 3 → (en x)[i]? = some u → (xs.flatMap en)[k * 3 + i]? = some u
  | [], k, i, x, u, h, _, _ => by simp at h
  | y :: ys, 0, i, x, u, h, hi, hu => by
    simp at h; subst h
    rw [List.flatMap_cons, Nat.zero_mul, Nat.zero_add, List.getElem?_append_left (by rw [hen]; exact hi)]; exact hu
  | y :: ys, k + 1, i, x, u, h, hi, hu => by
    rw [List.flatMap_cons, List.getElem?_append_right (by rw [hen]; omega), hen, show (k + 1) * 3 + i - 3 = k * 3 + i from by omega]
    exact flat3 hen ys k i x u (by simpa using h) hi hu

theorem findD_no {l : List Drv} {n : ByteArray} {k : Nat} (hN : findD (l.take k) n = none) (hlt : k < l.length) (hq : (l[k].1.toList == n.toList) = false) : findD (l.take (k + 1)) n = none := by
  unfold findD at hN ⊢
  rw [List.take_add_one, List.getElem?_eq_getElem hlt, List.find?_append, hN]
  simp only [Option.none_or, Option.toList_some, List.find?_cons, hq, List.find?_nil]
theorem findD_yes {l : List Drv} {n : ByteArray} {k : Nat} (hN : findD (l.take k) n = none) (hlt : k < l.length) (hq : (l[k].1.toList == n.toList) = true) : findD l n = some l[k] := by
  unfold findD at hN ⊢
  conv => lhs; rw [← List.take_append_drop k l, List.drop_eq_getElem_cons hlt]
  rw [List.find?_append, hN]
  simp only [Option.none_or, List.find?_cons, hq]

def FindAns (l : List Drv) (n : ByteArray) (e : Ending) : Prop :=
  (∃ d, findD l n = some d ∧ e = .returned (.tuple #[vd d, .bool true])) ∨ (findD l n = none ∧ e = .returned (.tuple #[vd zd, .bool false]))

set_option maxHeartbeats 1600000 in
theorem find_any (v : Value) (l : List Drv) (n : ByteArray) (w : World) (h : SlR w ed v l) (hl : l.length ≤ 140737488351232) :
    Calls Tryd.prog 55 #[v, .string n] w fun e w' => FindAns l n e ∧ Below w.heap.size w w' := by
  obtain ⟨A, c, rfl, hc, hA⟩ := h
  go_enter Tryd.func55, Tryd.ntmps55
  go_wp2_with fail
  go_loopw [10] (fun i wr => ∃ k : Nat, k ≤ l.length ∧ i = .int .i64 k ∧ findD (l.take k) n = none ∧ Blk wr w.heap.size 79 #[.string ByteArray.empty, .bool false, .string ByteArray.empty] ∧ Below w.heap.size w wr) (fun i _ => l.length - (intOf i).toNat)
  case atStart => exact ⟨0, by omega, rfl, rfl, Blk.new _ _ _, (Below.refl _ _).alloc (Nat.le_refl _) _⟩
  case round =>
    obtain ⟨k, hk, rfl, hN, hblk, hbel⟩ := hrel
    have HN := Lib.hid hN
    clear hN
    have c0 := hblk.cell 0
    have c1 := hblk.cell 1
    have c2 := hblk.cell 2
    have f0 := hblk.frozen 0
    have f1 := hblk.frozen 1
    have f2 := hblk.frozen 2
    simp at c0 c1 c2
    have hlt0 := hblk.lt
    have hsz0 := hbel.size
    by_cases hlt : k < l.length
    · obtain ⟨b, o, rfl, hb, hcell⟩ := hA (by omega)
      have g0 : wr.cell? ⟨b, o + k * 3, none⟩ = some (.string l[k].1) := (hbel.cell (p := ⟨b, o + (k * 3 + 0), none⟩) hb).trans (hcell (k * 3 + 0) (.string l[k].1) (flat3 (fun _ => rfl) l k 0 l[k] _ (List.getElem?_eq_getElem hlt) (by omega) rfl))
      have g1 : wr.cell? ⟨b, o + k * 3 + 1, none⟩ = some (.bool l[k].2.1) := (hbel.cell (p := ⟨b, o + (k * 3 + 1), none⟩) hb).trans (hcell (k * 3 + 1) (.bool l[k].2.1) (flat3 (fun _ => rfl) l k 1 l[k] _ (List.getElem?_eq_getElem hlt) (by omega) rfl))
      have g2 : wr.cell? ⟨b, o + k * 3 + 2, none⟩ = some (.string l[k].2.2) := (hbel.cell (p := ⟨b, o + (k * 3 + 2), none⟩) hb).trans (hcell (k * 3 + 2) (.string l[k].2.2) (flat3 (fun _ => rfl) l k 2 l[k] _ (List.getElem?_eq_getElem hlt) (by omega) rfl))
      clear hA hcell
      cases hq : (l[k].1.toList == n.toList)
      · have HT := Lib.hid (findD_no HN.out hlt hq)
        go_wp2_with fail
        go_roundw
        case rel => exact ⟨k + 1, by omega, by go_num, HT.out, hblk.alloc _, hbel.alloc hbel.size _⟩
        case measure => simp [intOf]; omega
      · have HT := Lib.hid (findD_yes HN.out hlt hq)
        go_wp2_with fail
        have B := (((hblk.set_ 0 (.string l[k].1)).set_ 1 (.bool l[k].2.1)).set_ 2 (.string l[k].2.2)).alloc (.cells #[.string l[k].1, .bool l[k].2.1, .string l[k].2.2] 79)
        have d0 := (B.cell 0 : _ = some (Value.string l[k].1))
        have d1 := (B.cell 1 : _ = some (Value.bool l[k].2.1))
        have d2 := (B.cell 2 : _ = some (Value.string l[k].2.2))
        refine bodyPost_ret (v := .tuple #[vd l[k], .bool true]) (by simp [results, Tryd.results55, go_sem, d0, d1, d2, vd]) rfl ⟨.inl ⟨_, HT.out, rfl⟩, by go_grown⟩
    · have HT : Hid (findD l n = none) := by show _ = _; have := HN.out; rwa [List.take_of_length_le (by omega)] at this
      go_wp2_with fail
      have B := (((hblk.set_ 0 (.string ⟨#[]⟩)).set_ 1 (.bool false)).set_ 2 (.string ⟨#[]⟩))
      have d0 := (B.cell 0 : _ = some (Value.string ⟨#[]⟩))
      have d1 := (B.cell 1 : _ = some (Value.bool false))
      have d2 := (B.cell 2 : _ = some (Value.string ⟨#[]⟩))
      refine bodyPost_ret (v := .tuple #[vd zd, .bool false]) (by simp [results, Tryd.results55, go_sem, d0, d1, d2, vd, zd]; try rfl) rfl ⟨.inr ⟨HT.out, rfl⟩, by go_grown⟩

theorem has_any (v : Value) (l : List Drv) (n : ByteArray) (w : World) (h : SlR w ed v l) (hl : l.length ≤ 140737488351232) :
    Calls Tryd.prog 26 #[v, .string n] w fun e w' => e = .returned (.bool (findD l n).isSome) ∧ Below w.heap.size w w' := by
  go_enter Tryd.func26, Tryd.ntmps26
  go_wp2_with fail
  refine (find_any v l n _ h hl).mono ?_
  rintro e w1 ⟨ha, hb⟩
  rcases ha with ⟨d, hf, rfl⟩ | ⟨hf, rfl⟩
  all_goals
    have HF := Lib.hid hf
    clear hf
    unfold vd
    go_wp2_with fail
    go_ret
    exact ⟨ret_bool (by rw [HF.out]; rfl), hb.alloc hb.size _⟩

/-- The seconds of an argument. -/
def secs : Nat → List UInt8 → Nat
  | n, [] => n
  | n, c :: r => if 48 ≤ c && c ≤ 57 then secs (min (10 * n + (c.toNat - 48)) 2147483648) r else 0

theorem secs_le : ∀ (l : List UInt8) (n : Nat), n ≤ 2147483648 → secs n l ≤ 2147483648
  | [], n, h => h
  | c :: r, n, h => by
    unfold secs; split
    · exact secs_le r _ (Nat.min_le_right _ _)
    · omega
theorem secs_yes {n : Nat} {c : UInt8} {r : List UInt8} (h0 : 48 ≤ (c.toNat : Int)) (h1 : (c.toNat : Int) ≤ 57) : secs n (c :: r) = secs (min (10 * n + (c.toNat - 48)) 2147483648) r := by
  rw [secs, if_pos]
  simp only [Bool.and_eq_true, decide_eq_true_eq, UInt8.le_iff_toNat_le]
  have e1 : (48 : UInt8).toNat = 48 := rfl
  have e2 : (57 : UInt8).toNat = 57 := rfl
  omega
theorem secs_no {n : Nat} {c : UInt8} {r : List UInt8} (h : (c.toNat : Int) < 48 ∨ 57 < (c.toNat : Int)) : secs n (c :: r) = 0 := by
  rw [secs, if_neg]
  simp only [Bool.and_eq_true, decide_eq_true_eq, UInt8.le_iff_toNat_le]
  have e1 : (48 : UInt8).toNat = 48 := rfl
  have e2 : (57 : UInt8).toNat = 57 := rfl
  omega
/-- What Seconds answers. -/
def secD (l : List Drv) (n : ByteArray) : Nat × Bool := match findD l n with | some d => (secs 0 (sl d.2.2), true) | none => (0, false)
theorem secD_some {l : List Drv} {n : ByteArray} {d : Drv} (h : findD l n = some d) : secD l n = (secs 0 (sl d.2.2), true) := by unfold secD; rw [h]
theorem secD_none {l : List Drv} {n : ByteArray} (h : findD l n = none) : secD l n = (0, false) := by unfold secD; rw [h]
theorem secD_le (l : List Drv) (n : ByteArray) : (secD l n).1 ≤ 2147483648 := by
  unfold secD; split
  · exact secs_le _ _ (by omega)
  · simp

set_option maxHeartbeats 1600000 in
theorem seconds_any (v : Value) (l : List Drv) (n : ByteArray) (w : World) (h : SlR w ed v l) (hl : l.length ≤ 140737488351232) (hz : ∀ d ∈ l, d.2.2.size ≤ 140737488351232) :
    Calls Tryd.prog 41 #[v, .string n] w fun e w' => e = .returned (.tuple #[.int .i64 ((secD l n).1 : Int), .bool (secD l n).2]) ∧ Below w.heap.size w w' := by
  go_enter Tryd.func41, Tryd.ntmps41
  go_wp2_with fail
  refine (find_any v l n _ h hl).mono ?_
  rintro e w1 ⟨ha, hb⟩
  have hsz0 := hb.size
  rcases ha with ⟨d, hf, rfl⟩ | ⟨hf, rfl⟩
  · have HF := Lib.hid (secD_some hf)
    have hzd : d.2.2.size ≤ 140737488351232 := hz d (List.mem_of_find?_eq_some hf)
    clear hf
    unfold vd
    obtain ⟨dn, dh, da⟩ := d
    simp only at HF hzd ⊢
    go_wp2_with fail
    go_loop [8, 20] (fun m i => ∃ k q : Nat, k ≤ da.size ∧ q ≤ 2147483648 ∧ i = .int .i64 k ∧ m = .int .i64 q ∧ secs 0 (sl da) = secs q ((sl da).drop k)) (fun _ i => da.size - (intOf i).toNat)
    case atStart => exact ⟨0, 0, by omega, by omega, rfl, rfl, rfl⟩
    case round =>
      obtain ⟨k, q, hk, hq, rfl, rfl, heq⟩ := hrel
      have HQ := Lib.hid heq
      clear heq
      by_cases hlt : k < da.size
      · have HD : Hid ((sl da).drop k = da[k] :: (sl da).drop (k + 1)) := by
          show _ = _
          rw [← sl_getElem da k hlt]; exact List.drop_eq_getElem_cons (by rw [sl_len]; exact hlt)
        have hbd : (da[k].toNat : Int) ≤ 255 := by have := da[k].toNat_lt; omega
        by_cases h48 : (da[k].toNat : Int) < 48
        · go_wp2_with fail
          go_ret2
          exact ⟨by rw [HF.out, HQ.out, HD.out, secs_no (.inl h48)]; rfl, by go_grown⟩
        · by_cases h57 : 57 < (da[k].toNat : Int)
          · go_wp2_with fail
            go_ret2
            exact ⟨by rw [HF.out, HQ.out, HD.out, secs_no (.inr h57)]; rfl, by go_grown⟩
          · have HY := Lib.hid (secs_yes (n := q) (c := da[k]) (r := (sl da).drop (k + 1)) (by omega) (by omega))
            go_wp2_with fail
            go_round
            case rel => exact ⟨k + 1, min (10 * q + (da[k].toNat - 48)) 2147483648, by omega, Nat.min_le_right _ _, by go_num, by congr 1; split <;> omega, by rw [HQ.out, HD.out, HY.out]⟩
            case measure => simp [intOf]; omega
      · have HE : Hid ((sl da).drop k = []) := by show _ = _; exact List.drop_eq_nil_of_le (by rw [sl_len]; omega)
        go_wp2_with fail
        go_ret2
        exact ⟨by rw [HF.out, HQ.out, HE.out]; rfl, by go_grown⟩
  · have HF := Lib.hid (secD_none hf)
    clear hf
    unfold vd zd
    go_wp2_with fail
    refine wp_loop_rounds 1 ?_
    rw [rounds_succ]
    go_wp2_with fail
    go_ret2
    exact ⟨by rw [HF.out]; rfl, by go_grown⟩

theorem dirInfo : ElemInfo Tryd.prog 79 (.agg #[.string ByteArray.empty, .bool false, .string ByteArray.empty]) 3 40 := by unfold ElemInfo; kernel_rfl
theorem ed_one (l : List Drv) : ∀ u ∈ l.flatMap ed, u.oneCell' = true := by
  intro u hu
  obtain ⟨d, _, hd⟩ := List.mem_flatMap.1 hu
  simp only [ed, List.mem_cons, List.not_mem_nil, or_false] at hd
  rcases hd with rfl | rfl | rfl <;> rfl
theorem findD_append (l m : List Drv) (n : ByteArray) : findD (l ++ m) n = (findD l n).or (findD m n) := List.find?_append ..
/-- The law: the first one of a name counts. -/
theorem secD_append (l m : List Drv) (n : ByteArray) : secD (l ++ m) n = if (secD l n).2 then secD l n else secD m n := by
  unfold secD
  rw [findD_append]
  cases findD l n <;> simp
theorem secD_is (l : List Drv) (n : ByteArray) : (findD l n).isSome = (secD l n).2 := by unfold secD; cases findD l n <;> rfl
def nines : ByteArray := ⟨#[57, 57, 57, 57, 57, 57, 57, 57, 57, 57, 57, 57, 57, 57, 57, 57, 57, 57, 57, 57]⟩
theorem secs_nines : secs 0 (sl nines) = 2147483648 := by kernel_rfl
theorem secD_nines : secD [(⟨#[120]⟩, true, nines)] ⟨#[120]⟩ = (2147483648, true) := by
  unfold secD findD
  simp only [List.find?_cons, beq_self_eq_true, secs_nines]

end Go.Proofs.YtiijgbgknolmcaaDoor
