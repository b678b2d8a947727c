import Derived.Test.YtgnblkmpoigejaaGreatDoorChecked
import Derived.Test.YtgnblkmpoigejaaGreatDoorU0
import Derived.Test.YtgnblkmpoigejaaGreatDoorU13
import Derived.Test.YtgnblkmpoigejaaGreatDoorU14
import Derived.Test.YtgnblkmpoigejaaGreatDoorU1
set_option linter.unusedVariables false
set_option linter.unusedSimpArgs false
namespace Go.Proofs.YtgnblkmpoigejaaGreatDoor
open Go.RowKit
abbrev Drv := ByteArray × Bool × ByteArray
def ed (d : Drv) : List Value := [.string d.1, .bool d.2.1, .string d.2.2]
def zd : Drv := (ByteArray.empty, false, ByteArray.empty)
def vd (d : Drv) : Value := .agg #[.string d.1, .bool d.2.1, .string d.2.2]
def findD (l : List Drv) (n : ByteArray) : Option Drv := l.find? (fun d => d.1.toList == n.toList)
theorem flat3 {α : Type} {en : α → List Value} (hen : ∀ x, (en x).length = 3) : ∀ (xs : List α) (k i : Nat) (x : α) (u : Value), xs[k]? = some x → i < 3 → (en x)[i]? = some u → (xs.flatMap en)[k * 3 + i]? = some u
 | [], k, i, x, u, h, _, _ => by simp at h
 | y :: ys, 0, i, x, u, h, hi, hu => by
  simp at h; subst h
  rw [List.flatMap_cons, Nat.zero_mul, Nat.zero_add, List.getElem?_append_left (by rw [hen]; exact hi)]; exact hu
 | y :: ys, k + 1, i, x, u, h, hi, hu => by
  rw [List.flatMap_cons, List.getElem?_append_right (by rw [hen]; omega), hen, show (k + 1) * 3 + i - 3 = k * 3 + i from by omega]
  exact flat3 hen ys k i x u (by simpa using h) hi hu
theorem findD_no {l : List Drv} {n : ByteArray} {k : Nat} (hN : findD (l.take k) n = none) (hlt : k < l.length) (hq : (l[k].1.toList == n.toList) = false) : findD (l.take (k + 1)) n = none := by
 unfold findD at hN ⊢
 rw [List.take_add_one, List.getElem?_eq_getElem hlt, List.find?_append, hN]
 simp only [Option.none_or, Option.toList_some, List.find?_cons, hq, List.find?_nil]
theorem findD_yes {l : List Drv} {n : ByteArray} {k : Nat} (hN : findD (l.take k) n = none) (hlt : k < l.length) (hq : (l[k].1.toList == n.toList) = true) : findD l n = some l[k] := by
 unfold findD at hN ⊢
 conv => lhs; rw [← List.take_append_drop k l, List.drop_eq_getElem_cons hlt]
 rw [List.find?_append, hN]
 simp only [Option.none_or, List.find?_cons, hq]
def FindAns (l : List Drv) (n : ByteArray) (e : Ending) : Prop :=
 (∃ d, findD l n = some d ∧ e = .returned (.tuple #[vd d, .bool true])) ∨ (findD l n = none ∧ e = .returned (.tuple #[vd zd, .bool false]))
set_option maxHeartbeats 1600000 in
theorem find_any (v : Value) (l : List Drv) (n : ByteArray) (w : World) (h : SlR w ed v l) (hl : l.length ≤ 140737488351232) :
  Calls Tryz.prog 97 #[v, .string n] w fun e w' => FindAns l n e ∧ Below w.heap.size w w' := by
 obtain ⟨A, c, rfl, hc, hA⟩ := h
 go_enter Tryz.func97, Tryz.ntmps97
 go_wp2_with fail
 go_loopw [10] (fun i wr => ∃ k : Nat, k ≤ l.length ∧ i = .int .i64 k ∧ findD (l.take k) n = none ∧ Blk wr w.heap.size 151 #[.string ByteArray.empty, .bool false, .string ByteArray.empty] ∧ Below w.heap.size w wr) (fun i _ => l.length - (intOf i).toNat)
 case atStart => exact ⟨0, by omega, rfl, rfl, Blk.new _ _ _, (Below.refl _ _).alloc (Nat.le_refl _) _⟩
 case round =>
  obtain ⟨k, hk, rfl, hN, hblk, hbel⟩ := hrel
  have HN := Lib.hid hN
  clear hN
  have c0 := hblk.cell 0
  have c1 := hblk.cell 1
  have c2 := hblk.cell 2
  have f0 := hblk.frozen 0
  have f1 := hblk.frozen 1
  have f2 := hblk.frozen 2
  simp at c0 c1 c2
  have hlt0 := hblk.lt
  have hsz0 := hbel.size
  by_cases hlt : k < l.length
  ·obtain ⟨b, o, rfl, hb, hcell⟩ := hA (by omega)
   have g0 : wr.cell? ⟨b, o + k * 3, none⟩ = some (.string l[k].1) := (hbel.cell (p := ⟨b, o + (k * 3 + 0), none⟩) hb).trans (hcell (k * 3 + 0) (.string l[k].1) (flat3 (fun _ => rfl) l k 0 l[k] _ (List.getElem?_eq_getElem hlt) (by omega) rfl))
   have g1 : wr.cell? ⟨b, o + k * 3 + 1, none⟩ = some (.bool l[k].2.1) := (hbel.cell (p := ⟨b, o + (k * 3 + 1), none⟩) hb).trans (hcell (k * 3 + 1) (.bool l[k].2.1) (flat3 (fun _ => rfl) l k 1 l[k] _ (List.getElem?_eq_getElem hlt) (by omega) rfl))
   have g2 : wr.cell? ⟨b, o + k * 3 + 2, none⟩ = some (.string l[k].2.2) := (hbel.cell (p := ⟨b, o + (k * 3 + 2), none⟩) hb).trans (hcell (k * 3 + 2) (.string l[k].2.2) (flat3 (fun _ => rfl) l k 2 l[k] _ (List.getElem?_eq_getElem hlt) (by omega) rfl))
   clear hA hcell
   cases hq : (l[k].1.toList == n.toList)
   ·have HT := Lib.hid (findD_no HN.out hlt hq)
    go_wp2_with fail
    go_roundw
    case rel => exact ⟨k + 1, by omega, by go_num, HT.out, hblk.alloc _, hbel.alloc hbel.size _⟩
    case measure => simp [intOf]; omega
   ·have HT := Lib.hid (findD_yes HN.out hlt hq)
    go_wp2_with fail
    have B := (((hblk.set_ 0 (.string l[k].1)).set_ 1 (.bool l[k].2.1)).set_ 2 (.string l[k].2.2)).alloc (.cells #[.string l[k].1, .bool l[k].2.1, .string l[k].2.2] 151)
    have d0 := (B.cell 0 : _ = some (Value.string l[k].1))
    have d1 := (B.cell 1 : _ = some (Value.bool l[k].2.1))
    have d2 := (B.cell 2 : _ = some (Value.string l[k].2.2))
    refine bodyPost_ret (v := .tuple #[vd l[k], .bool true]) (by simp [results, Tryz.results97, go_sem, d0, d1, d2, vd]) rfl ⟨.inl ⟨_, HT.out, rfl⟩, by go_grown⟩
  ·have HT : Hid (findD l n = none) := by show _ = _; have := HN.out; rwa [List.take_of_length_le (by omega)] at this
   go_wp2_with fail
   have B := (((hblk.set_ 0 (.string ⟨#[]⟩)).set_ 1 (.bool false)).set_ 2 (.string ⟨#[]⟩))
   have d0 := (B.cell 0 : _ = some (Value.string ⟨#[]⟩))
   have d1 := (B.cell 1 : _ = some (Value.bool false))
   have d2 := (B.cell 2 : _ = some (Value.string ⟨#[]⟩))
   refine bodyPost_ret (v := .tuple #[vd zd, .bool false]) (by simp [results, Tryz.results97, go_sem, d0, d1, d2, vd, zd]; try rfl) rfl ⟨.inr ⟨HT.out, rfl⟩, by go_grown⟩
theorem has_any (v : Value) (l : List Drv) (n : ByteArray) (w : World) (h : SlR w ed v l) (hl : l.length ≤ 140737488351232) :
  Calls Tryz.prog 52 #[v, .string n] w fun e w' => e = .returned (.bool (findD l n).isSome) ∧ Below w.heap.size w w' := by
 go_enter Tryz.func52, Tryz.ntmps52
 go_wp2_with fail
 refine (find_any v l n _ h hl).mono ?_
 rintro e w1 ⟨ha, hb⟩
 rcases ha with ⟨d, hf, rfl⟩ | ⟨hf, rfl⟩
 all_goals
  have HF := Lib.hid hf
  clear hf
  unfold vd
  go_wp2_with fail
  go_ret
  exact ⟨ret_bool (by rw [HF.out]; rfl), hb.alloc hb.size _⟩
def secs : Nat → List UInt8 → Nat
 | n, [] => n
 | n, c :: r => if 48 ≤ c && c ≤ 57 then secs (min (10 * n + (c.toNat - 48)) 2147483648) r else 0
theorem secs_le : ∀ (l : List UInt8) (n : Nat), n ≤ 2147483648 → secs n l ≤ 2147483648
 | [], n, h => h
 | c :: r, n, h => by
  unfold secs; split
  ·exact secs_le r _ (Nat.min_le_right _ _)
  ·omega
theorem secs_yes {n : Nat} {c : UInt8} {r : List UInt8} (h0 : 48 ≤ (c.toNat : Int)) (h1 : (c.toNat : Int) ≤ 57) : secs n (c :: r) = secs (min (10 * n + (c.toNat - 48)) 2147483648) r := by
 rw [secs, if_pos]
 simp only [Bool.and_eq_true, decide_eq_true_eq, UInt8.le_iff_toNat_le]
 have e1 : (48 : UInt8).toNat = 48 := rfl
 have e2 : (57 : UInt8).toNat = 57 := rfl
 omega
theorem secs_no {n : Nat} {c : UInt8} {r : List UInt8} (h : (c.toNat : Int) < 48 ∨ 57 < (c.toNat : Int)) : secs n (c :: r) = 0 := by
 rw [secs, if_neg]
 simp only [Bool.and_eq_true, decide_eq_true_eq, UInt8.le_iff_toNat_le]
 have e1 : (48 : UInt8).toNat = 48 := rfl
 have e2 : (57 : UInt8).toNat = 57 := rfl
 omega
def secD (l : List Drv) (n : ByteArray) : Nat × Bool := match findD l n with | some d => (secs 0 (sl d.2.2), true) | none => (0, false)
theorem secD_some {l : List Drv} {n : ByteArray} {d : Drv} (h : findD l n = some d) : secD l n = (secs 0 (sl d.2.2), true) := by unfold secD; rw [h]
theorem secD_none {l : List Drv} {n : ByteArray} (h : findD l n = none) : secD l n = (0, false) := by unfold secD; rw [h]
theorem secD_le (l : List Drv) (n : ByteArray) : (secD l n).1 ≤ 2147483648 := by
 unfold secD; split
 ·exact secs_le _ _ (by omega)
 ·simp
set_option maxHeartbeats 1600000 in
theorem seconds_any (v : Value) (l : List Drv) (n : ByteArray) (w : World) (h : SlR w ed v l) (hl : l.length ≤ 140737488351232) (hz : ∀ d ∈ l, d.2.2.size ≤ 140737488351232) :
  Calls Tryz.prog 53 #[v, .string n] w fun e w' => e = .returned (.tuple #[.int .i64 ((secD l n).1 : Int), .bool (secD l n).2]) ∧ Below w.heap.size w w' := by
 go_enter Tryz.func53, Tryz.ntmps53
 go_wp2_with fail
 refine (find_any v l n _ h hl).mono ?_
 rintro e w1 ⟨ha, hb⟩
 have hsz0 := hb.size
 rcases ha with ⟨d, hf, rfl⟩ | ⟨hf, rfl⟩
 ·have HF := Lib.hid (secD_some hf)
  have hzd : d.2.2.size ≤ 140737488351232 := hz d (List.mem_of_find?_eq_some hf)
  clear hf
  unfold vd
  obtain ⟨dn, dh, da⟩ := d
  simp only at HF hzd ⊢
  go_wp2_with fail
  go_loop [8, 20] (fun m i => ∃ k q : Nat, k ≤ da.size ∧ q ≤ 2147483648 ∧ i = .int .i64 k ∧ m = .int .i64 q ∧ secs 0 (sl da) = secs q ((sl da).drop k)) (fun _ i => da.size - (intOf i).toNat)
  case atStart => exact ⟨0, 0, by omega, by omega, rfl, rfl, rfl⟩
  case round =>
   obtain ⟨k, q, hk, hq, rfl, rfl, heq⟩ := hrel
   have HQ := Lib.hid heq
   clear heq
   by_cases hlt : k < da.size
   ·have HD : Hid ((sl da).drop k = da[k] :: (sl da).drop (k + 1)) := by
     show _ = _
     rw [← sl_getElem da k hlt]; exact List.drop_eq_getElem_cons (by rw [sl_len]; exact hlt)
    have hbd : (da[k].toNat : Int) ≤ 255 := by have := da[k].toNat_lt; omega
    by_cases h48 : (da[k].toNat : Int) < 48
    ·go_wp2_with fail
     go_ret2
     exact ⟨by rw [HF.out, HQ.out, HD.out, secs_no (.inl h48)]; rfl, by go_grown⟩
    ·by_cases h57 : 57 < (da[k].toNat : Int)
     ·go_wp2_with fail
      go_ret2
      exact ⟨by rw [HF.out, HQ.out, HD.out, secs_no (.inr h57)]; rfl, by go_grown⟩
     ·have HY := Lib.hid (secs_yes (n := q) (c := da[k]) (r := (sl da).drop (k + 1)) (by omega) (by omega))
      go_wp2_with fail
      go_round
      case rel => exact ⟨k + 1, min (10 * q + (da[k].toNat - 48)) 2147483648, by omega, Nat.min_le_right _ _, by go_num, by congr 1; first | omega | (split <;> omega), by rw [HQ.out, HD.out, HY.out]⟩
      case measure => simp [intOf]; omega
   ·have HE : Hid ((sl da).drop k = []) := by show _ = _; exact List.drop_eq_nil_of_le (by rw [sl_len]; omega)
    go_wp2_with fail
    go_ret2
    exact ⟨by rw [HF.out, HQ.out, HE.out]; rfl, by go_grown⟩
 ·have HF := Lib.hid (secD_none hf)
  clear hf
  unfold vd zd
  go_wp2_with fail
  refine wp_loop_rounds 1 ?_
  rw [rounds_succ]
  go_wp2_with fail
  go_ret2
  exact ⟨by rw [HF.out]; rfl, by go_grown⟩
set_option maxRecDepth 20000
namespace Dp
def txt (l : List Fld) (n : ByteArray) : ByteArray := joinS (selF l n) sep2
def isR (l : List Fld) (n : ByteArray) : Bool := decide (0 < (selF l n).length)
def allSome {α : Type} : List (Option α) → Option (List α)
 | [] => some []
 | none :: _ => none
 | some x :: l => match allSome l with | some r => some (x :: r) | none => none
theorem allSome_map {α : Type} : ∀ (ds : List α), allSome (ds.map some) = some ds
 | [] => rfl
 | d :: ds => by rw [List.map_cons, allSome, allSome_map ds]
theorem allSome_some {α : Type} : ∀ {l : List (Option α)} {ds : List α}, allSome l = some ds → l = ds.map some
 | [], ds, h => by simp only [allSome, Option.some.injEq] at h; subst h; rfl
 | none :: l, ds, h => by simp [allSome] at h
 | some x :: l, ds, h => by
  rw [allSome] at h
  cases hl : allSome l with
  | none => rw [hl] at h; cases h
  | some r =>
   rw [hl] at h
   simp only [Option.some.injEq] at h
   subst h
   rw [List.map_cons, allSome_some hl]
theorem dirD_size {p : ByteArray} {d : Dr} (h : dirD p = some d) : d.1.size ≤ p.size ∧ d.2.2.size ≤ p.size := by
 have hb : ∀ (l a b : List UInt8), cutAt 61 l = some (a, b) → a.length ≤ l.length ∧ b.length ≤ l.length := by
  intro l
  induction l with
  | nil => intro a b h; cases h
  | cons c l ih =>
   intro a b h
   unfold cutAt at h
   split at h
   ·injection h with h; injection h with h1 h; subst h1; subst h; simp
   ·obtain ⟨⟨x, y⟩, hx, he⟩ := Option.map_eq_some_iff.1 h
    injection he with h1 he; subst he; subst h1
    have := ih _ _ hx
    simp only [List.length_cons]; omega
 have hl : ∀ n : ByteArray, (lowT n).size = n.size := fun n => by unfold lowT; rw [mkS_size, Tok.low_len, sl_len]
 unfold dirD at h
 cases hc : cutAt 61 (sl p) with
 | none =>
  rw [hc] at h
  dsimp only at h
  split at h
  ·injection h with h; subst h
   exact ⟨Nat.le_of_eq (hl p), Nat.zero_le _⟩
  ·cases h
 | some ab =>
  obtain ⟨a, b⟩ := ab
  rw [hc] at h
  dsimp only at h
  have hz := hb _ _ _ hc
  rw [sl_len] at hz
  split at h
  ·split at h
   ·injection h with h; subst h
    dsimp only
    rw [hl, mkS_size, mkS_size]; exact hz
   ·obtain ⟨u, hu, rfl⟩ := Option.map_eq_some_iff.1 h
    have h1 := (Tok.unquote_some hu).1
    have h2 := escs_ge u
    simp [Tok.quoteL] at h1
    dsimp only
    rw [hl, mkS_size, mkS_size]; omega
  ·cases h
theorem mem_dirs {ps : List ByteArray} {ds : List Dr} (h : ps.map dirD = ds.map some) (n : Nat) (hp : ∀ p ∈ ps, p.size ≤ n) : ∀ d ∈ ds, d.1.size ≤ n ∧ d.2.2.size ≤ n := by
 intro d hd
 have : some d ∈ ds.map some := List.mem_map.2 ⟨d, hd, rfl⟩
 rw [← h] at this
 obtain ⟨p, hpp, hpd⟩ := List.mem_map.1 this
 have h1 := dirD_size hpd
 have h2 := hp p hpp
 omega
def dirsOf (s : ByteArray) : Option (List Dr) := match Tok.splitL (sl s) with | .error _ => none | .ok ps => allSome ((ps.map mkS).map dirD)
def nCC : ByteArray := ⟨#[67, 97, 99, 104, 101, 45, 67, 111, 110, 116, 114, 111, 108]⟩
def nMA : ByteArray := ⟨#[109, 97, 120, 45, 97, 103, 101]⟩
def dirsD (s : ByteArray) : List Dr := match dirsOf s with | some ds => ds | none => []
def dirsF (l : List Fld) : List Dr := dirsD (txt l nCC)
theorem dirsD_ok (s : ByteArray) : (dirsD s).length ≤ 20 ∧ ∀ d ∈ dirsD s, d.1.size ≤ 1000 ∧ d.2.2.size ≤ 1000 := by
 unfold dirsD
 split
 ·rename_i ds h
  unfold dirsOf at h
  split at h
  ·cases h
  ·rename_i ps hp
   obtain ⟨h1, h2, -⟩ := Tok.split_short hp
   have h3 := allSome_some h
   refine ⟨?_, ?_⟩
   ·have := congrArg List.length h3
    simp only [List.length_map] at this
    omega
   ·exact mem_dirs h3 1000 (fun p hpp => by
     obtain ⟨q, hq, rfl⟩ := List.mem_map.1 hpp
     rw [mkS_size]; exact h1 q hq)
 ·exact ⟨by simp, by simp⟩
def hasD (l : List Dr) (n : ByteArray) : Bool := (findD l n).isSome
theorem parseD_any (s : ByteArray) (w : World) (hs : s.size ≤ 140737488351232) :
  Calls Tryz.prog 82 #[.string s] w fun e w' => (∃ v c, e = .returned (.tuple #[v, .int .i64 c]) ∧ SlR w' e_sbs v (dirsD s) ∧ (c = 0 ↔ ∃ ds, dirsOf s = some ds)) ∧ Below w.heap.size w w' := by
 refine (parse_any s w hs).mono ?_
 rintro e w' ⟨ha, hb⟩
 refine ⟨?_, hb⟩
 rcases ha with ⟨ps, ds, v, h1, h2, rfl, ho⟩ | ⟨c, hc1, hc2, rfl, h3, h4⟩
 ·have hd : dirsOf s = some ds := by unfold dirsOf; rw [h1]; dsimp only; rw [h2, allSome_map]
  refine ⟨v, 0, rfl, ?_, fun _ => ⟨ds, hd⟩, fun _ => rfl⟩
  unfold dirsD
  rw [hd]
  exact SlR.of_owns ho
 ·have hd : dirsOf s = none := by
   unfold dirsOf
   cases hsp : Tok.splitL (sl s) with
   | error c' => rfl
   | ok ps =>
    dsimp only
    cases has : allSome ((ps.map mkS).map dirD) with
    | none => rfl
    | some ds => exact absurd (allSome_some has) (fun h => h3 ps ds hsp h)
  refine ⟨_, c, rfl, ?_, ?_⟩
  ·unfold dirsD
   rw [hd]
   exact SlR.nil _ _
  ·rw [hd]
   constructor
   ·intro h; omega
   ·rintro ⟨ds, h⟩; cases h
end Dp
set_option maxRecDepth 20000
namespace Dp
def wt (l : List Fld) : Nat := (l.map (fun f => f.1.size + f.2.size + 2)).sum
structure LOk (w : World) (u : Value) (l : List Fld) : Prop where
 sl : SlR w e_ss u l
 sum : wt l ≤ 4398046511104
theorem LOk.below {w w' : World} {u : Value} {l : List Fld} (h : LOk w u l) (hb : Below w.heap.size w w') : LOk w' u l := ⟨h.sl.below hb, h.sum⟩
theorem wt_len (l : List Fld) : l.length ≤ wt l := sum_len _ (fun _ => by omega) l
theorem wt_sum (l : List Fld) : (l.map (fun f => f.2.size + 2)).sum ≤ wt l := by
 unfold wt
 induction l with
 | nil => simp
 | cons x m ih => simp only [List.map_cons, List.sum_cons]; omega
theorem LOk.len {w : World} {u : Value} {l : List Fld} (h : LOk w u l) : l.length * 32 ≤ 140737488355328 := by have := wt_len l; have := h.sum; omega
theorem LOk.lims {w : World} {u : Value} {l : List Fld} (h : LOk w u l) : Lims l := fun f hf => by have := sum_mem (fun d : Fld => d.1.size + d.2.size + 2) hf; have := h.sum; unfold wt at this; omega
theorem LOk.join {w : World} {u : Value} {l : List Fld} (h : LOk w u l) (n : ByteArray) : (joinL (selF l n) sep2).length ≤ 140737488351232 := Nat.le_trans (selF_join l n) (by have := wt_sum l; have := h.sum; omega)
theorem LOk.txt {w : World} {u : Value} {l : List Fld} (h : LOk w u l) (n : ByteArray) : (txt l n).size ≤ 140737488351232 := by unfold Dp.txt joinS; rw [mkS_size]; exact h.join n
structure CapH (w : World) (g : Nat) (ds : List Dr) : Prop where
 lt : g < w.heap.size
 cell : ∃ v, w.cell? ⟨g, 0, none⟩ = some v ∧ SlR w e_sbs v ds
theorem CapH.below {w w' : World} {g : Nat} {ds : List Dr} (h : CapH w g ds) (hb : Below w.heap.size w w') : CapH w' g ds :=
 ⟨Nat.lt_of_lt_of_le h.lt hb.size, by obtain ⟨v, h1, h2⟩ := h.cell; exact ⟨v, (hb.cell h.lt).trans h1, h2.below hb⟩⟩
def fnH (g : Nat) : Value := .func (.func 89) #[] #[.pointer (some ⟨g, 0, none⟩)]
theorem oneH_any (n : ByteArray) (g : Nat) (ds : List Dr) (w : World) (h : CapH w g ds) (hn : n.size ≤ 140737488351232) (hds : ds.length ≤ 20) :
  Calls Tryz.prog 89 #[.string n, .pointer (some ⟨g, 0, none⟩)] w fun e w' => e = .returned (.bool (hasD ds n)) ∧ Below w.heap.size w w' := by
 obtain ⟨v, hc, hv⟩ := h.cell
 have HH : Hid (Calls Tryz.prog 52 #[v, .string n] w fun e w' => e = .returned (.bool (hasD ds n)) ∧ Below w.heap.size w w') := has_any v ds n w hv (by omega)
 have hg := h.lt
 clear h hv
 go_enter Tryz.func89, Tryz.ntmps89
 go_wp2_with fail
 refine HH.out.mono ?_
 rintro e w1 ⟨rfl, b1⟩
 go_wp2_with fail
 go_ret
 exact ⟨rfl, b1⟩
set_option maxHeartbeats 1600000 in
theorem indexH_any (v : Value) (xs : List ByteArray) (g : Nat) (ds : List Dr) (w : World) (h : SlR w es v xs) (hl : xs.length ≤ 140737488351232) (hx : ∀ x ∈ xs, x.size ≤ 140737488351232) (hc : CapH w g ds) (hds : ds.length ≤ 20) :
  Calls Tryz.prog 112 #[v, fnH g] w fun e w' => ((xs.any (fun n => hasD ds n) = true ∧ ∃ k : Nat, k < xs.length ∧ e = .returned (.int .i64 k)) ∨ (xs.any (fun n => hasD ds n) = false ∧ e = .returned (.int .i64 (-1)))) ∧ Below w.heap.size w w' := by
 have h2 := Lib.hid (fun hn => h.texts hn)
 obtain ⟨A, c, rfl, hcc, -⟩ := h
 have HC := Lib.hid hc
 clear hc
 unfold fnH
 go_enter Tryz.func112, Tryz.ntmps112
 go_wp2_with fail
 go_loopw [8] (fun i wr => ∃ k : Nat, k ≤ xs.length ∧ i = .int .i64 k ∧ (xs.take k).any (fun n => hasD ds n) = false ∧ Below w.heap.size w wr) (fun i _ => xs.length - (intOf i).toNat)
 case atStart => exact ⟨0, by omega, rfl, rfl, Below.refl _ _⟩
 case round =>
  obtain ⟨k, hk, rfl, hN, hbel⟩ := hrel
  have HN := Lib.hid hN
  clear hN
  by_cases hlt : k < xs.length
  ·obtain ⟨b, o, c', he, _, hb, hcell⟩ := h2.out (by omega)
   obtain ⟨rfl, rfl⟩ : A = some ⟨b, o, none⟩ ∧ c = c' := by injection he with h1 h2 h3; exact ⟨h1, h3⟩
   have c0 := (hbel.cell (p := ⟨b, o + k, none⟩) hb).trans (hcell k hlt)
   have hxk := hx _ (List.getElem_mem hlt)
   have HT : Hid ((xs.take (k + 1)).any (fun n => hasD ds n) = (fun n => hasD ds n) xs[k]) := by
    show _ = _; rw [List.take_add_one, List.getElem?_eq_getElem hlt, List.any_append, HN.out]; simp
   have HA : Hid ((fun n => hasD ds n) xs[k] = true → xs.any (fun n => hasD ds n) = true) := fun hq => List.any_eq_true.2 ⟨xs[k], List.getElem_mem hlt, hq⟩
   clear hcell h2 he
   generalize xs[k] = n at *
   dsimp only at HT HA
   have HP := Lib.hid (fun w h => oneH_any n g ds w h hxk hds)
   cases hq : hasD ds n
   all_goals
    have HQ := Lib.hid hq
    clear hq
    go_wp2_with fail
    refine (HP.out _ (HC.out.below hbel)).mono ?_
    rintro e w1 ⟨rfl, b1⟩
    rw [HQ.out]
    go_wp2_with fail
   ·go_roundw
    case rel => exact ⟨k + 1, by omega, by go_num, by rw [HT.out, HQ.out], hbel.trans (b1.mono hbel.size)⟩
    case measure => simp [intOf]; omega
   ·go_ret
    exact ⟨.inl ⟨HA.out HQ.out, k, hlt, rfl⟩, hbel.trans (b1.mono hbel.size)⟩
  ·have HA : Hid (xs.any (fun n => hasD ds n) = false) := by show _ = _; have := HN.out; rwa [List.take_of_length_le (by omega)] at this
   go_wp2_with fail
   go_ret
   exact ⟨.inr ⟨HA.out, rfl⟩, hbel⟩
theorem containsH_any (v : Value) (xs : List ByteArray) (g : Nat) (ds : List Dr) (w : World) (h : SlR w es v xs) (hl : xs.length ≤ 140737488351232) (hx : ∀ x ∈ xs, x.size ≤ 140737488351232) (hc : CapH w g ds) (hds : ds.length ≤ 20) :
  Calls Tryz.prog 88 #[v, fnH g] w fun e w' => e = .returned (.bool (xs.any (fun n => hasD ds n))) ∧ Below w.heap.size w w' := by
 have HI := Lib.hid (indexH_any v xs g ds w h hl hx hc hds)
 unfold fnH at *
 go_enter Tryz.func88, Tryz.ntmps88
 go_wp2_with fail
 refine HI.out.mono ?_
 rintro e w1 ⟨ha, b1⟩
 rcases ha with ⟨hm, k, hk, rfl⟩ | ⟨hm, rfl⟩
 all_goals
  have HM := Lib.hid hm
  clear hm
  go_wp2_with fail
  go_ret
  exact ⟨ret_bool (by rw [HM.out]; try simp), b1⟩
theorem has_pol (u v : Value) (ds : List Dr) (xs : List ByteArray) (w : World) (hu : SlR w e_sbs u ds) (h : SlR w es v xs) (hl : xs.length ≤ 140737488351232) (hx : ∀ x ∈ xs, x.size ≤ 140737488351232) (hds : ds.length ≤ 20) :
  Calls Tryz.prog 45 #[u, v] w fun e w' => e = .returned (.bool (xs.any (fun n => hasD ds n))) ∧ Below w.heap.size w w' := by
 have b0 : Below w.heap.size w (w.alloc (.cells #[u] 90)) := (Below.refl _ _).alloc (Nat.le_refl _) _
 have hc : CapH (w.alloc (.cells #[u] 90)) w.heap.size ds := ⟨by simp, ⟨u, by go_simp, hu.below b0⟩⟩
 have HC := Lib.hid (containsH_any v xs w.heap.size ds _ (h.below b0) hl hx hc hds)
 obtain ⟨A, c, rfl, -⟩ := h.form
 obtain ⟨A2, c2, rfl, -⟩ := (hu).form
 clear h hc hu
 unfold fnH at HC
 go_enter Tryz.func45, Tryz.ntmps45
 go_wp2_with fail
 refine HC.out.mono ?_
 rintro e w1 ⟨rfl, b1⟩
 go_wp2_with fail
 go_ret
 exact ⟨rfl, b0.trans (b1.mono b0.size)⟩
structure CapT (w : World) (g : Nat) (ds : List Fld) : Prop where
 lt : g < w.heap.size
 cell : ∃ v, w.cell? ⟨g, 0, none⟩ = some v ∧ LOk w v ds
theorem CapT.below {w w' : World} {g : Nat} {ds : List Fld} (h : CapT w g ds) (hb : Below w.heap.size w w') : CapT w' g ds :=
 ⟨Nat.lt_of_lt_of_le h.lt hb.size, by obtain ⟨v, h1, h2⟩ := h.cell; exact ⟨v, (hb.cell h.lt).trans h1, h2.below hb⟩⟩
def fnT (g : Nat) : Value := .func (.func 90) #[] #[.pointer (some ⟨g, 0, none⟩)]
theorem oneT_any (n : ByteArray) (g : Nat) (ds : List Fld) (w : World) (h : CapT w g ds) (hn : n.size ≤ 140737488351232) :
  Calls Tryz.prog 90 #[.string n, .pointer (some ⟨g, 0, none⟩)] w fun e w' => e = .returned (.bool (isR ds n)) ∧ Below w.heap.size w w' := by
 obtain ⟨v, hc, hv⟩ := h.cell
 have HH : Hid (Calls Tryz.prog 61 #[v, .string n] w fun e w' => e = .returned (.tuple #[.string (txt ds n), .bool (isR ds n)]) ∧ Below w.heap.size w w') := get_any v ds n w hv.sl hv.len hv.lims hn (hv.join n)
 have hg := h.lt
 clear h hv
 generalize txt ds n = T at *
 generalize isR ds n = q at *
 go_enter Tryz.func90, Tryz.ntmps90
 go_wp2_with fail
 refine HH.out.mono ?_
 rintro e w1 ⟨rfl, b1⟩
 go_wp2_with fail
 go_ret
 exact ⟨rfl, b1⟩
set_option maxHeartbeats 1600000 in
theorem indexT_any (v : Value) (xs : List ByteArray) (g : Nat) (ds : List Fld) (w : World) (h : SlR w es v xs) (hl : xs.length ≤ 140737488351232) (hx : ∀ x ∈ xs, x.size ≤ 140737488351232) (hc : CapT w g ds) :
  Calls Tryz.prog 112 #[v, fnT g] w fun e w' => ((xs.any (fun n => isR ds n) = true ∧ ∃ k : Nat, k < xs.length ∧ e = .returned (.int .i64 k)) ∨ (xs.any (fun n => isR ds n) = false ∧ e = .returned (.int .i64 (-1)))) ∧ Below w.heap.size w w' := by
 have h2 := Lib.hid (fun hn => h.texts hn)
 obtain ⟨A, c, rfl, hcc, -⟩ := h
 have HC := Lib.hid hc
 clear hc
 unfold fnT
 go_enter Tryz.func112, Tryz.ntmps112
 go_wp2_with fail
 go_loopw [8] (fun i wr => ∃ k : Nat, k ≤ xs.length ∧ i = .int .i64 k ∧ (xs.take k).any (fun n => isR ds n) = false ∧ Below w.heap.size w wr) (fun i _ => xs.length - (intOf i).toNat)
 case atStart => exact ⟨0, by omega, rfl, rfl, Below.refl _ _⟩
 case round =>
  obtain ⟨k, hk, rfl, hN, hbel⟩ := hrel
  have HN := Lib.hid hN
  clear hN
  by_cases hlt : k < xs.length
  ·obtain ⟨b, o, c', he, _, hb, hcell⟩ := h2.out (by omega)
   obtain ⟨rfl, rfl⟩ : A = some ⟨b, o, none⟩ ∧ c = c' := by injection he with h1 h2 h3; exact ⟨h1, h3⟩
   have c0 := (hbel.cell (p := ⟨b, o + k, none⟩) hb).trans (hcell k hlt)
   have hxk := hx _ (List.getElem_mem hlt)
   have HT : Hid ((xs.take (k + 1)).any (fun n => isR ds n) = (fun n => isR ds n) xs[k]) := by
    show _ = _; rw [List.take_add_one, List.getElem?_eq_getElem hlt, List.any_append, HN.out]; simp
   have HA : Hid ((fun n => isR ds n) xs[k] = true → xs.any (fun n => isR ds n) = true) := fun hq => List.any_eq_true.2 ⟨xs[k], List.getElem_mem hlt, hq⟩
   clear hcell h2 he
   generalize xs[k] = n at *
   dsimp only at HT HA
   have HP := Lib.hid (fun w h => oneT_any n g ds w h hxk)
   cases hq : isR ds n
   all_goals
    have HQ := Lib.hid hq
    clear hq
    go_wp2_with fail
    refine (HP.out _ (HC.out.below hbel)).mono ?_
    rintro e w1 ⟨rfl, b1⟩
    rw [HQ.out]
    go_wp2_with fail
   ·go_roundw
    case rel => exact ⟨k + 1, by omega, by go_num, by rw [HT.out, HQ.out], hbel.trans (b1.mono hbel.size)⟩
    case measure => simp [intOf]; omega
   ·go_ret
    exact ⟨.inl ⟨HA.out HQ.out, k, hlt, rfl⟩, hbel.trans (b1.mono hbel.size)⟩
  ·have HA : Hid (xs.any (fun n => isR ds n) = false) := by show _ = _; have := HN.out; rwa [List.take_of_length_le (by omega)] at this
   go_wp2_with fail
   go_ret
   exact ⟨.inr ⟨HA.out, rfl⟩, hbel⟩
theorem containsT_any (v : Value) (xs : List ByteArray) (g : Nat) (ds : List Fld) (w : World) (h : SlR w es v xs) (hl : xs.length ≤ 140737488351232) (hx : ∀ x ∈ xs, x.size ≤ 140737488351232) (hc : CapT w g ds) :
  Calls Tryz.prog 88 #[v, fnT g] w fun e w' => e = .returned (.bool (xs.any (fun n => isR ds n))) ∧ Below w.heap.size w w' := by
 have HI := Lib.hid (indexT_any v xs g ds w h hl hx hc)
 unfold fnT at *
 go_enter Tryz.func88, Tryz.ntmps88
 go_wp2_with fail
 refine HI.out.mono ?_
 rintro e w1 ⟨ha, b1⟩
 rcases ha with ⟨hm, k, hk, rfl⟩ | ⟨hm, rfl⟩
 all_goals
  have HM := Lib.hid hm
  clear hm
  go_wp2_with fail
  go_ret
  exact ⟨ret_bool (by rw [HM.out]; try simp), b1⟩
theorem there_pol (u v : Value) (ds : List Fld) (xs : List ByteArray) (w : World) (hu : LOk w u ds) (h : SlR w es v xs) (hl : xs.length ≤ 140737488351232) (hx : ∀ x ∈ xs, x.size ≤ 140737488351232) :
  Calls Tryz.prog 46 #[u, v] w fun e w' => e = .returned (.bool (xs.any (fun n => isR ds n))) ∧ Below w.heap.size w w' := by
 have b0 : Below w.heap.size w (w.alloc (.cells #[u] 23)) := (Below.refl _ _).alloc (Nat.le_refl _) _
 have hc : CapT (w.alloc (.cells #[u] 23)) w.heap.size ds := ⟨by simp, ⟨u, by go_simp, hu.below b0⟩⟩
 have HC := Lib.hid (containsT_any v xs w.heap.size ds _ (h.below b0) hl hx hc)
 obtain ⟨A, c, rfl, -⟩ := h.form
 obtain ⟨A2, c2, rfl, -⟩ := (hu.sl).form
 clear h hc hu
 unfold fnT at HC
 go_enter Tryz.func46, Tryz.ntmps46
 go_wp2_with fail
 refine HC.out.mono ?_
 rintro e w1 ⟨rfl, b1⟩
 go_wp2_with fail
 go_ret
 exact ⟨rfl, b0.trans (b1.mono b0.size)⟩
end Dp
set_option maxRecDepth 20000
open Go.RowKit Go.Maps
namespace Vy
def namesSC (s : ByteArray) : Bool × Int := ((nmF s).2.1, (nmF s).2.2)
theorem names_any (u : Value) (l : List Fld) (w : World) (h : LOk w u l) :
  Calls Tryz.prog 43 #[u] w fun e w' => (∃ v, e = .returned (.tuple #[v, .bool (namesSC (txt l nVary)).1, .int .i64 (namesSC (txt l nVary)).2])) ∧ Below w.heap.size w w' := by
 refine (names_all u l w h).mono ?_
 rintro e w' ⟨⟨v, xs, rfl, -⟩, hb⟩
 exact ⟨⟨v, rfl⟩, hb⟩
end Vy
end Go.Proofs.YtgnblkmpoigejaaGreatDoor
namespace Go.Proofs.YtgnblkmpoigejaaGreatDoor
set_option maxRecDepth 20000
open Go.RowKit
namespace Dp
def lNS : List ByteArray := [⟨#[110, 111, 45, 115, 116, 111, 114, 101]⟩]
def lNSP : List ByteArray := [⟨#[110, 111, 45, 115, 116, 111, 114, 101]⟩, ⟨#[112, 114, 105, 118, 97, 116, 101]⟩]
def lAuth : List ByteArray := [⟨#[65, 117, 116, 104, 111, 114, 105, 122, 97, 116, 105, 111, 110]⟩]
def lMR : List ByteArray := [⟨#[109, 117, 115, 116, 45, 114, 101, 118, 97, 108, 105, 100, 97, 116, 101]⟩, ⟨#[112, 117, 98, 108, 105, 99]⟩, ⟨#[115, 45, 109, 97, 120, 97, 103, 101]⟩]
def lPub : List ByteArray := [⟨#[112, 117, 98, 108, 105, 99]⟩, ⟨#[109, 97, 120, 45, 97, 103, 101]⟩, ⟨#[115, 45, 109, 97, 120, 97, 103, 101]⟩]
def lExp : List ByteArray := [⟨#[69, 120, 112, 105, 114, 101, 115]⟩, ⟨#[76, 97, 115, 116, 45, 77, 111, 100, 105, 102, 105, 101, 100]⟩, ⟨#[69, 84, 97, 103]⟩]
def codes : List Int := [200, 203, 204, 300, 301, 308, 404, 405, 410, 414, 501]
def mayF (m : ByteArray) (l : List Fld) (code : Int) (k : List Fld) : Bool :=
 if (m.toList == [71, 69, 84]) = false ∨ codes.contains code = false then false else
 if lNS.any (fun n => hasD (dirsF l) n) = true ∨ lNSP.any (fun n => hasD (dirsF k) n) = true then false else
 if lAuth.any (fun n => isR l n) = true ∧ lMR.any (fun n => hasD (dirsF k) n) = false then false else
 if (Vy.namesSC (Vy.txt k Vy.nVary)).1 = true ∨ (Vy.namesSC (Vy.txt k Vy.nVary)).2 ≠ 0 then false else
 (lPub.any (fun n => hasD (dirsF k) n) || lExp.any (fun n => isR k n))
theorem directivesP_any (u : Value) (l : List Fld) (w : World) (h : LOk w u l) :
  Calls Tryz.prog 42 #[u] w fun e w' => (∃ v, e = .returned v ∧ SlR w' e_sbs v (dirsF l)) ∧ Below w.heap.size w w' := by
 have HP := Lib.hid (fun w => parseD_any (txt l nCC) w (h.txt nCC))
 have HR : Hid (dirsF l = dirsD (txt l nCC)) := rfl
 have HG : Hid (Calls Tryz.prog 61 #[u, .string nCC] w fun e w' => e = .returned (.tuple #[.string (txt l nCC), .bool (isR l nCC)]) ∧ Below w.heap.size w w') := get_any u l nCC w h.sl h.len h.lims (by decide) (h.join nCC)
 generalize dirsD (txt l nCC) = ds at *
 generalize txt l nCC = T at *
 generalize isR l nCC = q at *
 go_enter Tryz.func42, Tryz.ntmps42
 go_wp2_with fail
 refine HG.out.mono ?_
 rintro e w1 ⟨rfl, b1⟩
 go_wp2_with fail
 refine (HP.out _).mono ?_
 rintro e w2 ⟨⟨v, c, rfl, hs, -⟩, b2⟩
 have HS := Lib.hid hs
 clear hs
 go_wp2_with fail
 go_ret
 exact ⟨⟨v, rfl, by rw [HR.out]; exact HS.out⟩, belT b1 b2⟩
theorem codes_cell (w : World) : ∀ j, j < codes.length → (w.alloc (.cells #[.int .i64 200, .int .i64 203, .int .i64 204, .int .i64 300, .int .i64 301, .int .i64 308, .int .i64 404, .int .i64 405, .int .i64 410, .int .i64 414, .int .i64 501] 3)).cell? ⟨w.heap.size, 0 + j, none⟩ = some (.int .i64 (codes.getD j 0)) := by
 intro j hj
 have h := new_cells w (codes.map (Value.int .i64)) 3 j (.int .i64 (codes.getD j 0)) (by rw [List.getElem?_map, List.getD_eq_getElem?_getD, List.getElem?_eq_getElem hj]; rfl)
 have e : ((⟨w.heap.size, 0, none⟩ : Addr).add j) = ⟨w.heap.size, 0 + j, none⟩ := by unfold Addr.add; split <;> simp_all
 rw [e] at h
 exact h
def rqv (m t : ByteArray) (rf : Value) (rb : ByteArray) : Value := .agg #[.string m, .string t, rf, .string rb]
def rsv (code : Int) (rs : ByteArray) (u : Value) (bd : ByteArray) : Value := .agg #[.int .i64 code, .string rs, u, .string bd]
set_option maxHeartbeats 12800000 in
theorem may_any (m t : ByteArray) (rf : Value) (rb : ByteArray) (l : List Fld) (code : Int) (rs : ByteArray) (u : Value) (bd : ByteArray) (k : List Fld) (w : World) (hl : LOk w rf l) (hk : LOk w u k) :
  Calls Tryz.prog 13 #[rqv m t rf rb, rsv code rs u bd] w fun e w' => e = .returned (.bool (mayF m l code k)) ∧ Below w.heap.size w w' := by
 have b0 : Below w.heap.size w ((w.alloc (.cells #[.string m, .string t, rf, .string rb] 25)).alloc (.cells #[.int .i64 code, .string rs, u, .string bd] 27)) := ((Below.refl _ _).alloc (Nat.le_refl _) _).alloc (by simp) _
 have hz0 : ((w.alloc (.cells #[.string m, .string t, rf, .string rb] 25)).alloc (.cells #[.int .i64 code, .string rs, u, .string bd] 27)).heap.size = w.heap.size + 2 := by simp
 have q0 : ((w.alloc (.cells #[.string m, .string t, rf, .string rb] 25)).alloc (.cells #[.int .i64 code, .string rs, u, .string bd] 27)).cell? ⟨w.heap.size, 0, none⟩ = some (.string m) := by go_simp
 have q2 : ((w.alloc (.cells #[.string m, .string t, rf, .string rb] 25)).alloc (.cells #[.int .i64 code, .string rs, u, .string bd] 27)).cell? ⟨w.heap.size, 2, none⟩ = some rf := by go_simp
 have p0 : ((w.alloc (.cells #[.string m, .string t, rf, .string rb] 25)).alloc (.cells #[.int .i64 code, .string rs, u, .string bd] 27)).cell? ⟨w.heap.size + 1, 0, none⟩ = some (.int .i64 code) := by go_simp
 have p2 : ((w.alloc (.cells #[.string m, .string t, rf, .string rb] 25)).alloc (.cells #[.int .i64 code, .string rs, u, .string bd] 27)).cell? ⟨w.heap.size + 1, 2, none⟩ = some u := by go_simp
 have HK := Lib.hid hk
 have HL := Lib.hid hl
 have hd1 := (dirsD_ok (txt l nCC)).1
 have hd2 := (dirsD_ok (txt k nCC)).1
 have HHA := Lib.hid (fun v1 v xs w (h1 : SlR w e_sbs v1 (dirsF l)) (h : SlR w es v xs) hl hx => has_pol v1 v (dirsF l) xs w h1 h hl hx hd1)
 have HHS := Lib.hid (fun v1 v xs w (h1 : SlR w e_sbs v1 (dirsF k)) (h : SlR w es v xs) hl hx => has_pol v1 v (dirsF k) xs w h1 h hl hx hd2)
 have HN := Lib.hid (fun w (h : LOk w u k) => Vy.names_any u k w ⟨h.sl, h.sum⟩)
 have HR : Hid (mayF m l code k = if (m.toList == [71, 69, 84]) = false ∨ codes.contains code = false then false else
   if lNS.any (fun n => hasD (dirsF l) n) = true ∨ lNSP.any (fun n => hasD (dirsF k) n) = true then false else
   if lAuth.any (fun n => isR l n) = true ∧ lMR.any (fun n => hasD (dirsF k) n) = false then false else
   if (Vy.namesSC (Vy.txt k Vy.nVary)).1 = true ∨ (Vy.namesSC (Vy.txt k Vy.nVary)).2 ≠ 0 then false else
   (lPub.any (fun n => hasD (dirsF k) n) || lExp.any (fun n => isR k n))) := rfl
 have H1 := Lib.hid (fun v1 v w h1 h => HHA.out v1 v lNS w h1 h (by decide) (by decide))
 have H2 := Lib.hid (fun v1 v w h1 h => HHS.out v1 v lNSP w h1 h (by decide) (by decide))
 have H3 := Lib.hid (fun v w (h1 : LOk w rf l) h => there_pol rf v l lAuth w h1 h (by decide) (by decide))
 have H4 := Lib.hid (fun v1 v w h1 h => HHS.out v1 v lMR w h1 h (by decide) (by decide))
 have H5 := Lib.hid (fun v1 v w h1 h => HHS.out v1 v lPub w h1 h (by decide) (by decide))
 have H6 := Lib.hid (fun v w (h1 : LOk w u k) h => there_pol u v k lExp w h1 h (by decide) (by decide))
 have HD0 := Lib.hid (fun w h => directivesP_any rf l w h)
 have HD1 := Lib.hid (fun w h => directivesP_any u k w h)
 clear hk hl hd1 hd2 HHA HHS
 generalize mayF m l code k = R at *
 generalize Vy.namesSC (Vy.txt k Vy.nVary) = nsc at *
 generalize lNS.any (fun n => hasD (dirsF l) n) = h1 at *
 generalize lNSP.any (fun n => hasD (dirsF k) n) = h2 at *
 generalize lAuth.any (fun n => isR l n) = h3 at *
 generalize lMR.any (fun n => hasD (dirsF k) n) = h4 at *
 generalize lPub.any (fun n => hasD (dirsF k) n) = h5 at *
 generalize lExp.any (fun n => isR k n) = h6 at *
 obtain ⟨star, ec⟩ := nsc
 obtain ⟨cc, hcc⟩ : ∃ cc, codes.contains code = cc := ⟨_, rfl⟩
 rw [hcc] at HR
 have HCO := Lib.hid hcc
 clear hcc
 generalize dirsF l = d0 at *
 generalize dirsF k = d1 at *
 unfold rqv rsv
 go_enter Tryz.func13, Tryz.ntmps13
 go_wp2_with fail
 have HX := Lib.hid (fun w' (hb : Below ((w.alloc (.cells #[.string m, .string t, rf, .string rb] 25)).alloc (.cells #[.int .i64 code, .string rs, u, .string bd] 27)).heap.size ((w.alloc (.cells #[.string m, .string t, rf, .string rb] 25)).alloc (.cells #[.int .i64 code, .string rs, u, .string bd] 27)) w') => show w'.cell? ⟨w.heap.size, 0, none⟩ = some (.string m) ∧ w'.cell? ⟨w.heap.size, 2, none⟩ = some rf ∧ w'.cell? ⟨w.heap.size + 1, 0, none⟩ = some (.int .i64 code) ∧ w'.cell? ⟨w.heap.size + 1, 2, none⟩ = some u from ⟨(hb.cell (by rw [hz0]; show w.heap.size < _; omega)).trans q0, (hb.cell (by rw [hz0]; show w.heap.size < _; omega)).trans q2, (hb.cell (by rw [hz0]; show w.heap.size + 1 < _; omega)).trans p0, (hb.cell (by rw [hz0]; show w.heap.size + 1 < _; omega)).trans p2⟩)
 have HX0 := Lib.hid (fun w' (hb : Below ((w.alloc (.cells #[.string m, .string t, rf, .string rb] 25)).alloc (.cells #[.int .i64 code, .string rs, u, .string bd] 27)).heap.size ((w.alloc (.cells #[.string m, .string t, rf, .string rb] 25)).alloc (.cells #[.int .i64 code, .string rs, u, .string bd] 27)) w') => b0.trans (hb.mono b0.size))
 clear b0 q0 q2 p0 p2 hz0
 generalize ((w.alloc (.cells #[.string m, .string t, rf, .string rb] 25)).alloc (.cells #[.int .i64 code, .string rs, u, .string bd] 27)) = wa at *
 refine wp_region_seq [(true, 0), (true, 1), (true, 3), (true, 4), (false, 2), (false, 5), (true, 6), (true, 7)] (fun w' => Below wa.heap.size wa w') (by kernel_rfl) (by kernel_rfl) (fun _ _ _ _ _ h => h) (by kernel_rfl) (by kernel_rfl) (by first | exact (Below.refl _ _).drew | exact Below.drew (by assumption)) ?_
 have bS : Below wa.heap.size wa _ := (by first | exact Below.drew (by assumption) | exact (Below.refl _ wa).drew)
 iterate 4 (first | (apply seqH_skip; (focus (simp only [List.getElem?_toArray, List.getElem?_cons_succ, List.getElem?_cons_zero]; rfl)); (focus rfl); simp only [Act.put, List.setIfInBounds_toArray, List.set_cons_zero, List.set_cons_succ]) | (apply seqH_take; (focus (simp only [List.getElem?_toArray, List.getElem?_cons_succ, List.getElem?_cons_zero]; rfl)); (focus rfl); (focus (intro w' hS; obtain ⟨x0, x1, x2, x3⟩ := HX.out _ hS; first | (go_simp; rfl) | (go_simp; done))); simp only [Act.put, List.setIfInBounds_toArray, List.set_cons_zero, List.set_cons_succ]) | (apply seqH_pass; (focus (simp only [List.getElem?_toArray, List.getElem?_cons_succ, List.getElem?_cons_zero]; rfl)); (focus rfl); (focus assumption); simp only [Act.put, List.setIfInBounds_toArray, List.set_cons_zero, List.set_cons_succ]))
 apply seqH_eff
 (focus (simp only [List.getElem?_toArray, List.getElem?_cons_succ, List.getElem?_cons_zero]; rfl))
 (focus rfl)
 intro K hK
 go_simp
 go_at_call 42
 refine (HD0.out _ (HL.out.below (HX0.out _ bS))).mono ?_
 rintro e w1 ⟨⟨v, rfl, hs1⟩, b1⟩
 refine hK _ _ (seq_next bS b1 (fun bS1 => ?_))
 clear hK K
 apply seqH_eff
 (focus (simp only [List.getElem?_toArray, List.getElem?_cons_succ, List.getElem?_cons_zero]; rfl))
 (focus rfl)
 intro K hK
 go_simp
 go_at_call 42
 refine (HD1.out _ (HK.out.below (HX0.out _ bS1))).mono ?_
 rintro e w2 ⟨⟨v2, rfl, hs2⟩, b2⟩
 refine hK _ _ (seq_next bS1 b2 (fun bS2 => ?_))
 clear hK K
 have HV1 := Lib.hid (SlR.below hs1 b2)
 have HV2 := Lib.hid hs2
 clear hs1 hs2 bS1 HD0 HD1
 iterate 2 (first | (apply seqH_skip; (focus (simp only [List.getElem?_toArray, List.getElem?_cons_succ, List.getElem?_cons_zero]; rfl)); (focus rfl); simp only [Act.put, List.setIfInBounds_toArray, List.set_cons_zero, List.set_cons_succ]) | (apply seqH_take; (focus (simp only [List.getElem?_toArray, List.getElem?_cons_succ, List.getElem?_cons_zero]; rfl)); (focus rfl); (focus (intro w' hS; skip; first | (go_simp; rfl) | (go_simp; done))); simp only [Act.put, List.setIfInBounds_toArray, List.set_cons_zero, List.set_cons_succ]) | (apply seqH_pass; (focus (simp only [List.getElem?_toArray, List.getElem?_cons_succ, List.getElem?_cons_zero]; rfl)); (focus rfl); (focus assumption); simp only [Act.put, List.setIfInBounds_toArray, List.set_cons_zero, List.set_cons_succ]))
 refine seqH_nil ?_
 have HY := Lib.hid (fun w' (hb : Below w2.heap.size w2 w') => show w'.cell? ⟨w.heap.size, 0, none⟩ = some (.string m) ∧ w'.cell? ⟨w.heap.size, 2, none⟩ = some rf ∧ w'.cell? ⟨w.heap.size + 1, 0, none⟩ = some (.int .i64 code) ∧ w'.cell? ⟨w.heap.size + 1, 2, none⟩ = some u from HX.out _ (bS2.trans (hb.mono bS2.size)))
 have BW2 := HX0.out _ bS2
 have HKw := Lib.hid (fun w' (hb : Below w2.heap.size w2 w') => HK.out.below (belT BW2 hb))
 have HLw := Lib.hid (fun w' (hb : Below w2.heap.size w2 w') => HL.out.below (belT BW2 hb))
 clear HX HX0 bS2 bS b1 b2 HK HL
 obtain ⟨x0, x1, x2, x3⟩ := HY.out _ (Below.refl _ _)
 go_wp2_with fail
 refine (HN.out _ (HKw.out _ (Below.refl _ _))).mono ?_
 rintro e w3 ⟨⟨nv, rfl⟩, c3⟩
 clear x0 x1 x2 x3
 have HCC := Lib.hid (codes_cell w3)
 have c4 : Below w2.heap.size w2 (w3.alloc (.cells #[.int .i64 200, .int .i64 203, .int .i64 204, .int .i64 300, .int .i64 301, .int .i64 308, .int .i64 404, .int .i64 405, .int .i64 410, .int .i64 414, .int .i64 501] 3)) := c3.alloc c3.size _
 obtain ⟨x0, x1, x2, x3⟩ := HY.out _ c4
 cases t1 : (m.toList == [71, 69, 84])
 ·skip
  go_wp2_with fail
  go_ret
  exact ⟨ret_bool (by rw [HR.out]; simp [t1]), belT BW2 c4⟩
 ·go_wp2_with fail
  refine (Tryz.slices_Contains_int w3.heap.size 0 11 11 codes code (w3.alloc (.cells #[.int .i64 200, .int .i64 203, .int .i64 204, .int .i64 300, .int .i64 301, .int .i64 308, .int .i64 404, .int .i64 405, .int .i64 410, .int .i64 414, .int .i64 501] 3)) (by decide) (by decide) HCC.out).mono ?_
  rintro e w' ⟨rfl, rfl⟩
  rw [show (codes.take 11) = codes from rfl, HCO.out]
  have T1 := Lib.hid t1
  clear t1 x0 x1 x2 x3 HCC HN
  cases cc
  ·skip
   go_wp2_with fail
   go_ret
   exact ⟨ret_bool (by rw [HR.out]; simp [T1.out]), belT BW2 c4⟩
  ·skip
   generalize (w3.alloc (.cells #[.int .i64 200, .int .i64 203, .int .i64 204, .int .i64 300, .int .i64 301, .int .i64 308, .int .i64 404, .int .i64 405, .int .i64 410, .int .i64 414, .int .i64 501] 3)) = w4 at *
   have a5 : Below w2.heap.size w2 (w4.alloc (.cells #[.string ⟨#[110, 111, 45, 115, 116, 111, 114, 101]⟩] 9)) := c4.alloc c4.size _
   have l5 : SlR (w4.alloc (.cells #[.string ⟨#[110, 111, 45, 115, 116, 111, 114, 101]⟩] 9)) es (.slice (some ⟨w4.heap.size, 0, none⟩) 1 1) lNS := SlR.lit (enc := es) w4 [.string ⟨#[110, 111, 45, 115, 116, 111, 114, 101]⟩] 9 lNS rfl
   go_wp2_with fail
   refine (H1.out v _ _ (HV1.out.below a5) l5).mono ?_
   rintro e w5 ⟨rfl, y5⟩
   have c5 := belT a5 y5
   cases h1
   ·skip
    have a6 : Below w2.heap.size w2 (w5.alloc (.cells #[.string ⟨#[110, 111, 45, 115, 116, 111, 114, 101]⟩, .string ⟨#[112, 114, 105, 118, 97, 116, 101]⟩] 9)) := c5.alloc c5.size _
    have l6 : SlR (w5.alloc (.cells #[.string ⟨#[110, 111, 45, 115, 116, 111, 114, 101]⟩, .string ⟨#[112, 114, 105, 118, 97, 116, 101]⟩] 9)) es (.slice (some ⟨w5.heap.size, 0, none⟩) 2 2) lNSP := SlR.lit (enc := es) w5 [.string ⟨#[110, 111, 45, 115, 116, 111, 114, 101]⟩, .string ⟨#[112, 114, 105, 118, 97, 116, 101]⟩] 9 lNSP rfl
    go_wp2_with fail
    refine (H2.out v2 _ _ (HV2.out.below a6) l6).mono ?_
    rintro e w6 ⟨rfl, y6⟩
    have c6 := belT a6 y6
    cases h2
    ·skip
     have a7 : Below w2.heap.size w2 (w6.alloc (.cells #[.string ⟨#[65, 117, 116, 104, 111, 114, 105, 122, 97, 116, 105, 111, 110]⟩] 9)) := c6.alloc c6.size _
     have l7 : SlR (w6.alloc (.cells #[.string ⟨#[65, 117, 116, 104, 111, 114, 105, 122, 97, 116, 105, 111, 110]⟩] 9)) es (.slice (some ⟨w6.heap.size, 0, none⟩) 1 1) lAuth := SlR.lit (enc := es) w6 [.string ⟨#[65, 117, 116, 104, 111, 114, 105, 122, 97, 116, 105, 111, 110]⟩] 9 lAuth rfl
     obtain ⟨x0, x1, x2, x3⟩ := HY.out _ c6
     go_wp2_with fail
     clear x0 x1 x2 x3
     refine (H3.out _ _ (HLw.out _ a7) l7).mono ?_
     rintro e w7 ⟨rfl, y7⟩
     have c7 := belT a7 y7
     cases h3
     ·skip
      cases star
      ·by_cases he : ec = 0
       ·subst he
        have a9 : Below w2.heap.size w2 (w7.alloc (.cells #[.string ⟨#[112, 117, 98, 108, 105, 99]⟩, .string ⟨#[109, 97, 120, 45, 97, 103, 101]⟩, .string ⟨#[115, 45, 109, 97, 120, 97, 103, 101]⟩] 9)) := c7.alloc c7.size _
        have l9 : SlR (w7.alloc (.cells #[.string ⟨#[112, 117, 98, 108, 105, 99]⟩, .string ⟨#[109, 97, 120, 45, 97, 103, 101]⟩, .string ⟨#[115, 45, 109, 97, 120, 97, 103, 101]⟩] 9)) es (.slice (some ⟨w7.heap.size, 0, none⟩) 3 3) lPub := SlR.lit (enc := es) w7 [.string ⟨#[112, 117, 98, 108, 105, 99]⟩, .string ⟨#[109, 97, 120, 45, 97, 103, 101]⟩, .string ⟨#[115, 45, 109, 97, 120, 97, 103, 101]⟩] 9 lPub rfl
        go_wp2_with fail
        refine (H5.out v2 _ _ (HV2.out.below a9) l9).mono ?_
        rintro e w9 ⟨rfl, y9⟩
        have c9 := belT a9 y9
        cases h5
        ·skip
         have a10 : Below w2.heap.size w2 (w9.alloc (.cells #[.string ⟨#[69, 120, 112, 105, 114, 101, 115]⟩, .string ⟨#[76, 97, 115, 116, 45, 77, 111, 100, 105, 102, 105, 101, 100]⟩, .string ⟨#[69, 84, 97, 103]⟩] 9)) := c9.alloc c9.size _
         have l10 : SlR (w9.alloc (.cells #[.string ⟨#[69, 120, 112, 105, 114, 101, 115]⟩, .string ⟨#[76, 97, 115, 116, 45, 77, 111, 100, 105, 102, 105, 101, 100]⟩, .string ⟨#[69, 84, 97, 103]⟩] 9)) es (.slice (some ⟨w9.heap.size, 0, none⟩) 3 3) lExp := SlR.lit (enc := es) w9 [.string ⟨#[69, 120, 112, 105, 114, 101, 115]⟩, .string ⟨#[76, 97, 115, 116, 45, 77, 111, 100, 105, 102, 105, 101, 100]⟩, .string ⟨#[69, 84, 97, 103]⟩] 9 lExp rfl
         obtain ⟨x0, x1, x2, x3⟩ := HY.out _ c9
         go_wp2_with fail
         clear x0 x1 x2 x3
         refine (H6.out _ _ (HKw.out _ a10) l10).mono ?_
         rintro e w10 ⟨rfl, y10⟩
         have c10 := belT a10 y10
         go_wp2_with fail
         go_ret
         exact ⟨ret_bool (by rw [HR.out]; simp [T1.out]), belT BW2 c10⟩
        ·skip
         go_wp2_with fail
         go_ret
         exact ⟨ret_bool (by rw [HR.out]; simp [T1.out]), belT BW2 c9⟩
       ·have dne : (ec != 0) = true := by rw [bne_iff_ne]; exact he
        have HE := Lib.hid he
        clear he
        go_wp2_with fail
        go_ret
        exact ⟨ret_bool (by rw [HR.out]; simp [T1.out, HE.out]), belT BW2 c7⟩
      ·skip
       go_wp2_with fail
       go_ret
       exact ⟨ret_bool (by rw [HR.out]; simp [T1.out]), belT BW2 c7⟩
     ·skip
      have a8 : Below w2.heap.size w2 (w7.alloc (.cells #[.string ⟨#[109, 117, 115, 116, 45, 114, 101, 118, 97, 108, 105, 100, 97, 116, 101]⟩, .string ⟨#[112, 117, 98, 108, 105, 99]⟩, .string ⟨#[115, 45, 109, 97, 120, 97, 103, 101]⟩] 9)) := c7.alloc c7.size _
      have l8 : SlR (w7.alloc (.cells #[.string ⟨#[109, 117, 115, 116, 45, 114, 101, 118, 97, 108, 105, 100, 97, 116, 101]⟩, .string ⟨#[112, 117, 98, 108, 105, 99]⟩, .string ⟨#[115, 45, 109, 97, 120, 97, 103, 101]⟩] 9)) es (.slice (some ⟨w7.heap.size, 0, none⟩) 3 3) lMR := SlR.lit (enc := es) w7 [.string ⟨#[109, 117, 115, 116, 45, 114, 101, 118, 97, 108, 105, 100, 97, 116, 101]⟩, .string ⟨#[112, 117, 98, 108, 105, 99]⟩, .string ⟨#[115, 45, 109, 97, 120, 97, 103, 101]⟩] 9 lMR rfl
      go_wp2_with fail
      refine (H4.out v2 _ _ (HV2.out.below a8) l8).mono ?_
      rintro e w8 ⟨rfl, y8⟩
      have c8 := belT a8 y8
      cases h4
      ·skip
       go_wp2_with fail
       go_ret
       exact ⟨ret_bool (by rw [HR.out]; simp [T1.out]), belT BW2 c8⟩
      ·skip
       cases star
       ·by_cases he : ec = 0
        ·subst he
         have a9 : Below w2.heap.size w2 (w8.alloc (.cells #[.string ⟨#[112, 117, 98, 108, 105, 99]⟩, .string ⟨#[109, 97, 120, 45, 97, 103, 101]⟩, .string ⟨#[115, 45, 109, 97, 120, 97, 103, 101]⟩] 9)) := c8.alloc c8.size _
         have l9 : SlR (w8.alloc (.cells #[.string ⟨#[112, 117, 98, 108, 105, 99]⟩, .string ⟨#[109, 97, 120, 45, 97, 103, 101]⟩, .string ⟨#[115, 45, 109, 97, 120, 97, 103, 101]⟩] 9)) es (.slice (some ⟨w8.heap.size, 0, none⟩) 3 3) lPub := SlR.lit (enc := es) w8 [.string ⟨#[112, 117, 98, 108, 105, 99]⟩, .string ⟨#[109, 97, 120, 45, 97, 103, 101]⟩, .string ⟨#[115, 45, 109, 97, 120, 97, 103, 101]⟩] 9 lPub rfl
         go_wp2_with fail
         refine (H5.out v2 _ _ (HV2.out.below a9) l9).mono ?_
         rintro e w9 ⟨rfl, y9⟩
         have c9 := belT a9 y9
         cases h5
         ·skip
          have a10 : Below w2.heap.size w2 (w9.alloc (.cells #[.string ⟨#[69, 120, 112, 105, 114, 101, 115]⟩, .string ⟨#[76, 97, 115, 116, 45, 77, 111, 100, 105, 102, 105, 101, 100]⟩, .string ⟨#[69, 84, 97, 103]⟩] 9)) := c9.alloc c9.size _
          have l10 : SlR (w9.alloc (.cells #[.string ⟨#[69, 120, 112, 105, 114, 101, 115]⟩, .string ⟨#[76, 97, 115, 116, 45, 77, 111, 100, 105, 102, 105, 101, 100]⟩, .string ⟨#[69, 84, 97, 103]⟩] 9)) es (.slice (some ⟨w9.heap.size, 0, none⟩) 3 3) lExp := SlR.lit (enc := es) w9 [.string ⟨#[69, 120, 112, 105, 114, 101, 115]⟩, .string ⟨#[76, 97, 115, 116, 45, 77, 111, 100, 105, 102, 105, 101, 100]⟩, .string ⟨#[69, 84, 97, 103]⟩] 9 lExp rfl
          obtain ⟨x0, x1, x2, x3⟩ := HY.out _ c9
          go_wp2_with fail
          clear x0 x1 x2 x3
          refine (H6.out _ _ (HKw.out _ a10) l10).mono ?_
          rintro e w10 ⟨rfl, y10⟩
          have c10 := belT a10 y10
          go_wp2_with fail
          go_ret
          exact ⟨ret_bool (by rw [HR.out]; simp [T1.out]), belT BW2 c10⟩
         ·skip
          go_wp2_with fail
          go_ret
          exact ⟨ret_bool (by rw [HR.out]; simp [T1.out]), belT BW2 c9⟩
        ·have dne : (ec != 0) = true := by rw [bne_iff_ne]; exact he
         have HE := Lib.hid he
         clear he
         go_wp2_with fail
         go_ret
         exact ⟨ret_bool (by rw [HR.out]; simp [T1.out, HE.out]), belT BW2 c8⟩
       ·skip
        go_wp2_with fail
        go_ret
        exact ⟨ret_bool (by rw [HR.out]; simp [T1.out]), belT BW2 c8⟩
    ·skip
     go_wp2_with fail
     go_ret
     exact ⟨ret_bool (by rw [HR.out]; simp [T1.out]), belT BW2 c6⟩
   ·skip
    go_wp2_with fail
    go_ret
    exact ⟨ret_bool (by rw [HR.out]; simp [T1.out]), belT BW2 c5⟩
end Dp
def IdxAns (xs : List ByteArray) (t : ByteArray) (e : Ending) : Prop :=
 (∃ k : Nat, k < xs.length ∧ t ∈ xs ∧ e = .returned (.int .i64 k)) ∨ (t ∉ xs ∧ e = .returned (.int .i64 (-1)))
set_option maxHeartbeats 400000 in
theorem indexStr_any (v : Value) (xs : List ByteArray) (t : ByteArray) (w : World) (h : SlR w es v xs) (hx : xs.length ≤ 140737488351232) :
  Calls Tryz.prog 104 #[v, .string t] w fun e w' => IdxAns xs t e ∧ w = w' := by
 obtain ⟨A, c, rfl, hc, hA⟩ := h
 go_enter Tryz.func104, Tryz.ntmps104
 go_wp2_with fail
 go_loop [8] (fun i => ∃ k : Nat, k ≤ xs.length ∧ i = .int .i64 k ∧ t ∉ xs.take k) (fun i => xs.length - (intOf i).toNat)
 case atStart => exact ⟨0, by omega, rfl, by simp⟩
 case round =>
  obtain ⟨k, hk, rfl, hN⟩ := hrel
  have HN := Lib.hid hN
  clear hN
  by_cases hlt : k < xs.length
  ·obtain ⟨b, o, rfl, hb, hcell⟩ := hA (by omega)
   have c1 := hcell k (.string xs[k]) (by rw [es_map]; simp [hlt])
   clear hA hcell
   by_cases hxy : t = xs[k]
   ·have ht : (t.toList == xs[k].toList) = true := by rw [← hxy]; simp
    have HM : Hid (t ∈ xs) := by show _; rw [hxy]; exact List.getElem_mem hlt
    clear hxy
    go_wp2_with fail
    go_ret
    exact ⟨.inl ⟨k, hlt, HM.out, rfl⟩, rfl⟩
   ·have ht : (t.toList == xs[k].toList) = false := by
     rw [ba_toList, ba_toList]; simp only [beq_eq_false_iff_ne]
     exact fun h => hxy (sl_inj h)
    have HM : Hid (t ∉ xs.take (k + 1)) := by
     show _
     rw [List.take_add_one, List.getElem?_eq_getElem hlt]
     simp only [Option.toList_some, List.mem_append, List.mem_singleton, not_or]
     exact ⟨HN.out, hxy⟩
    clear hxy
    go_wp2_with fail
    go_round
    case rel => exact ⟨k + 1, by omega, by go_num, HM.out⟩
    case measure => simp [intOf]; omega
  ·have HM : Hid (t ∉ xs) := by show _; have := HN.out; rwa [List.take_of_length_le (by omega)] at this
   go_wp2_with fail
   go_ret
   exact ⟨.inr ⟨HM.out, rfl⟩, rfl⟩
def hasB (xs : List ByteArray) (t : ByteArray) : Bool := xs.any (fun x => decide (x = t))
theorem hasB_true {xs : List ByteArray} {t : ByteArray} (h : t ∈ xs) : hasB xs t = true := by
 unfold hasB; rw [List.any_eq_true]; exact ⟨t, h, by simp⟩
theorem hasB_false {xs : List ByteArray} {t : ByteArray} (h : t ∉ xs) : hasB xs t = false := by
 unfold hasB; rw [List.any_eq_false]; intro x hx; simp; rintro rfl; exact h hx
theorem containsStr_any (v : Value) (xs : List ByteArray) (t : ByteArray) (w : World) (h : SlR w es v xs) (hx : xs.length ≤ 140737488351232) :
  Calls Tryz.prog 63 #[v, .string t] w fun e w' => e = .returned (.bool (hasB xs t)) ∧ w = w' := by
 go_enter Tryz.func63, Tryz.ntmps63
 go_wp2_with fail
 refine (indexStr_any v xs t _ h hx).mono ?_
 rintro e w' ⟨ha, rfl⟩
 rcases ha with ⟨k, hk, hm, rfl⟩ | ⟨hm, rfl⟩
 ·have HM := Lib.hid hm
  clear hm
  go_wp2_with fail
  go_ret
  exact ⟨ret_bool (hasB_true HM.out).symm, rfl⟩
 ·have HM := Lib.hid hm
  clear hm
  go_wp2_with fail
  go_ret
  exact ⟨ret_bool (hasB_false HM.out).symm, rfl⟩
set_option maxRecDepth 20000
namespace Pol
def isW (ns : List ByteArray) (f : Fld) : Bool := hasB ns (lowS f.1)
def wfn (g : Nat) : Value := .func (.func 106) #[] #[.pointer (some ⟨g, 0, none⟩)]
structure CapW (w w0 : World) (g : Nat) (ns : List ByteArray) : Prop where
 lt : g < w.heap.size
 cell : ∃ v, w.cell? ⟨g, 0, none⟩ = some v ∧ SlR w0 es v ns
 sz : w0.heap.size ≤ w.heap.size
 kept : ∀ p : Addr, p.block < w0.heap.size → w.cell? p = w0.cell? p
theorem CapW.below {w w' w0 : World} {g : Nat} {ns : List ByteArray} (h : CapW w w0 g ns) (hb : Below w.heap.size w w') : CapW w' w0 g ns :=
 ⟨Nat.lt_of_lt_of_le h.lt hb.size, by obtain ⟨v, h1, h2⟩ := h.cell; exact ⟨v, (hb.cell h.lt).trans h1, h2⟩, Nat.le_trans h.sz hb.size, fun p hp => (hb.cell (Nat.lt_of_lt_of_le hp h.sz)).trans (h.kept p hp)⟩
theorem grown_cell {w w1 : World} {g : Nat} (hg : w.grownBy w1 (some g)) {p : Addr} (hp : p.block < w.heap.size) (hne : p.block ≠ g) : w1.cell? p = w.cell? p := by
 have h := hg.block p.block hp (by intro e; injection e with e; exact hne e)
 unfold World.cell?
 rw [h]
theorem CapW.grown {w w1 w0 : World} {g gn : Nat} {ns : List ByteArray} (h : CapW w w0 gn ns) (hg : w.grownBy w1 (some g)) (hne : gn ≠ g) (hgb : w0.heap.size ≤ g) : CapW w1 w0 gn ns :=
 ⟨Nat.lt_of_lt_of_le h.lt hg.size, by obtain ⟨v, h1, h2⟩ := h.cell; exact ⟨v, (grown_cell hg h.lt hne).trans h1, h2⟩, Nat.le_trans h.sz hg.size, fun p hp => (grown_cell hg (Nat.lt_of_lt_of_le hp h.sz) (by have := hp; omega)).trans (h.kept p hp)⟩
theorem CapW.sl {w w0 : World} {g : Nat} {ns : List ByteArray} (h : CapW w w0 g ns) : ∃ v, w.cell? ⟨g, 0, none⟩ = some v ∧ SlR w es v ns := by
 obtain ⟨v, h1, h2⟩ := h.cell
 exact ⟨v, h1, h2.keep h.sz h.kept⟩
theorem containsB_any (v : Value) (xs : List ByteArray) (t : ByteArray) (w : World) (h : SlR w es v xs) (hx : xs.length ≤ 140737488351232) :
  Calls Tryz.prog 63 #[v, .string t] w fun e w' => e = .returned (.bool (hasB xs t)) ∧ Below w.heap.size w w' := by
 refine (containsStr_any v xs t w h hx).mono ?_
 rintro e w' ⟨he, rfl⟩
 exact ⟨he, Below.refl _ _⟩
set_option maxHeartbeats 1600000 in
theorem without1_any (f : Fld) (g : Nat) (ns : List ByteArray) (w w00 : World) (h : CapW w w00 g ns) (hs : f.1.size ≤ 140737488351232) (hns : ns.length ≤ 140737488351232) :
  Calls Tryz.prog 106 #[.agg #[.string f.1, .string f.2], .pointer (some ⟨g, 0, none⟩)] w fun e w' => e = .returned (.bool (isW ns f)) ∧ Below w.heap.size w w' := by
 obtain ⟨a, b⟩ := f
 have hg := h.lt
 obtain ⟨v, hc, hv⟩ := h.sl
 clear h
 go_enter Tryz.func106, Tryz.ntmps106
 go_wp2_with fail
 have b0 : Below w.heap.size w (w.alloc (.cells #[.string a, .string b] 57)) := (Below.refl _ _).alloc (Nat.le_refl _) _
 have c0 : (w.alloc (.cells #[.string a, .string b] 57)).cell? ⟨w.heap.size, 0, none⟩ = some (.string a) := by go_simp
 have c1 : (w.alloc (.cells #[.string a, .string b] 57)).cell? ⟨g, 0, none⟩ = some v := (b0.cell hg).trans hc
 have hz : w.heap.size < (w.alloc (.cells #[.string a, .string b] 57)).heap.size := by simp
 have HV := Lib.hid (hv.below b0)
 generalize w.alloc (.cells #[.string a, .string b] 57) = w0 at *
 have HC := Lib.hid (fun w' (hb : Below w0.heap.size w0 w') => show w'.cell? ⟨w.heap.size, 0, none⟩ = some (.string a) ∧ w'.cell? ⟨g, 0, none⟩ = some v from ⟨(hb.cell hz).trans c0, (hb.cell (Nat.lt_trans hg hz)).trans c1⟩)
 have HK := Lib.hid (fun w' (hb : Below w0.heap.size w0 w') => containsB_any v ns (mkS (Tok.low (sl a))) w' (HV.out.below hb) hns)
 clear c0 c1 hc hv
 refine wp_region_seq [(true, 0), (true, 1), (true, 2), (false, 3), (false, 4), (true, 5)] (fun w' => Below w0.heap.size w0 w') (by kernel_rfl) (by kernel_rfl) (fun _ _ _ _ _ h => h) (by kernel_rfl) (by kernel_rfl) (by first | exact (Below.refl _ _).drew | exact Below.drew (by assumption)) ?_
 have bS : Below w0.heap.size w0 _ := (by first | exact Below.drew (by assumption) | exact (Below.refl _ w0).drew)
 iterate 6 (first
  | (apply seqH_skip; (focus (simp only [List.getElem?_toArray, List.getElem?_cons_succ, List.getElem?_cons_zero]; rfl)); (focus rfl); simp only [Act.put, List.setIfInBounds_toArray, List.set_cons_zero, List.set_cons_succ])
  | (apply seqH_take; (focus (simp only [List.getElem?_toArray, List.getElem?_cons_succ, List.getElem?_cons_zero]; rfl)); (focus rfl); (focus (intro w' hS; obtain ⟨c0, c1⟩ := HC.out _ hS; first | (go_simp; rfl) | (go_simp; done))); simp only [Act.put, List.setIfInBounds_toArray, List.set_cons_zero, List.set_cons_succ])
  | (apply seqH_pass; (focus (simp only [List.getElem?_toArray, List.getElem?_cons_succ, List.getElem?_cons_zero]; rfl)); (focus rfl); (focus assumption); simp only [Act.put, List.setIfInBounds_toArray, List.set_cons_zero, List.set_cons_succ])
  | (apply seqH_eff; (focus (simp only [List.getElem?_toArray, List.getElem?_cons_succ, List.getElem?_cons_zero]; rfl)); (focus rfl); intro K hK; go_simp; (first | (go_at_call 62; (with_reducible refine (lower_any a _ hs).mono ?_)) | (go_at_call 63; (with_reducible refine (HK.out _ (by assumption)).mono ?_))); rintro e wN ⟨rfl, bN⟩; refine hK _ _ (seq_next (by assumption) bN (fun bS' => ?_)); clear hK K))
 refine seqH_nil ?_
 go_wp2_with fail
 go_ret
 exact ⟨rfl, b0.trans (Below.mono (by assumption) (by omega))⟩
end Pol
end Go.Proofs.YtgnblkmpoigejaaGreatDoor
