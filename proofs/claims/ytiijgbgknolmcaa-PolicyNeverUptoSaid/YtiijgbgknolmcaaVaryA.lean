/- vary's Names: what it answers, but for the names themselves. -/
import Derived.Test.YtiijgbgknolmcaaFieldG
import Derived.Test.YtiijgbgknolmcaaCtlP
import Derived.Test.YtiijgbgknolmcaaIsTok
import Derived.Test.YtiijgbgknolmcaaIter
import Derived.Maps.Own
import Derived.Maps.OwnSet
import Derived.Maps.Keyed
import Derived.StringKeys
namespace Go.Proofs.Ytiijgbgknolmcaa
set_option maxRecDepth 20000
open Go.RowKit Go.Maps
namespace Vy
def nVary : ByteArray := ⟨#[86, 97, 114, 121]⟩
def txt (l : List Fld) (n : ByteArray) : ByteArray := joinS (selF l n) sep2
def isR (l : List Fld) (n : ByteArray) : Bool := decide (0 < (selF l n).length)
def isStar (p : ByteArray) : Bool := p.toList == [42]
/-- Star and code. -/
def namesSC (s : ByteArray) : Bool × Int :=
  match Tok.splitL (sl s) with
  | .error c => (false, c)
  | .ok ps => if (ps.map mkS).all Tok.isTok = true then ((ps.map mkS).any isStar, 0) else (false, 3)
/-- A map's elements: of no matter. -/
def anyR {H : Type} : Value → Option (DataW H × List MemPlace) := fun _ => some (.lit (.bool true), [])
theorem keyS : Keyed Try.prog 9 := string_keyed Try.underlying9
theorem size_put {H : Type} {w : World} {b n : Nat} {D : DataW H} (h : w.ownsMap Try.prog 9 anyR b n D) : Maps.size D ≤ n := World.ownsMap.size_le h
set_option maxHeartbeats 3200000 in
theorem names_any (u : Value) (l : List Fld) (w : World) (hs : SlR w e_ss u l) (hl : l.length * 32 ≤ 140737488355328) (hz : Lims l) (hj : (joinL (selF l nVary) sep2).length ≤ 140737488351232) :
    Calls Try.prog 17 #[u] w fun e w' => (∃ v, e = .returned (.tuple #[v, .bool (namesSC (txt l nVary)).1, .int .i64 (namesSC (txt l nVary)).2])) ∧ Below w.heap.size w w' := by
  have HG : Hid (Calls Try.prog 12 #[u, .string nVary] w fun e w' => e = .returned (.tuple #[.string (txt l nVary), .bool (isR l nVary)]) ∧ Below w.heap.size w w') := get_any u l nVary w hs hl hz (by decide) hj
  have HT : (txt l nVary).size ≤ 140737488351232 := by unfold txt joinS; rw [mkS_size]; exact hj
  have HN : Hid (namesSC (txt l nVary) = match Tok.splitL (sl (txt l nVary)) with | .error c => (false, c) | .ok ps => if (ps.map mkS).all Tok.isTok = true then ((ps.map mkS).any isStar, 0) else (false, 3)) := rfl
  clear hs hl hz hj
  generalize namesSC (txt l nVary) = R at *
  generalize txt l nVary = T at *
  generalize isR l nVary = q at *
  obtain ⟨r1, r2⟩ := R
  go_enter Try.func17, Try.ntmps17
  go_wp2_with fail
  refine HG.out.mono ?_
  rintro e w1 ⟨rfl, b1⟩
  go_wp2_with fail
  refine (split_any T _ HT).mono ?_
  rintro e w2 ⟨hans, b2⟩
  have B2 := belT b1 b2
  unfold SplitAns at hans
  have HN2 := HN.out
  clear HN HG
  cases hsp : Tok.splitL (sl T) with
  | error c =>
    rw [hsp] at hans HN2
    dsimp only at hans HN2
    subst hans
    have hc : 2 ≤ c ∧ c ≤ 3 := by
      unfold Tok.splitL at hsp
      split at hsp
      · injection hsp with h; omega
      · split at hsp
        · injection hsp with h; omega
        · split at hsp
          · injection hsp with h; omega
          · cases hsp
    have hne : (c != 0) = true := by simp; omega
    injection HN2 with h1 h2
    subst h1 h2
    clear hsp hc
    go_wp2_with fail
    go_ret3
    exact ⟨⟨_, rfl⟩, B2⟩
  | ok ps0 =>
    rw [hsp] at hans HN2
    dsimp only at hans HN2
    obtain ⟨v, rfl, ho⟩ := hans
    have h20 : (ps0.map mkS).length ≤ 20 ∧ ∀ p ∈ ps0.map mkS, p.size ≤ 1000 := by
      obtain ⟨k1, k2, -⟩ := Tok.split_short hsp
      refine ⟨by rw [List.length_map]; exact k2, fun p hp => ?_⟩
      obtain ⟨q, hq, rfl⟩ := List.mem_map.1 hp
      rw [mkS_size]; exact k1 q hq
    generalize ps0.map mkS = ps at *
    clear hsp
    obtain ⟨hl20, hp1k⟩ := h20
    have HSL := Lib.hid (SlR.of_owns ho)
    obtain ⟨A, c, rfl, -⟩ := (SlR.of_owns ho).form
    clear ho
    have HN3 := Lib.hid HN2
    clear HN2
    have hmm := @run_makeMap Try.prog
    go_wp2_with fail
    have H2 := Lib.hid (fun hn => HSL.out.texts hn)
    go_loopw [10, 29] (fun st i wr => ∃ k : Nat, k ≤ ps.length ∧ i = .int .i64 k ∧ st = .bool ((ps.take k).any isStar) ∧ (ps.take k).all Tok.isTok = true ∧ (∃ D, wr.ownsMap Try.prog 9 (anyR (H := Unit)) w2.heap.size k D) ∧ Below w2.heap.size w2 wr) (fun _ i _ => ps.length - (intOf i).toNat)
    case atStart => exact ⟨0, by omega, rfl, rfl, rfl, ⟨_, World.ownsMap_made _ _ _ _⟩, (Below.refl _ _).alloc (Nat.le_refl _) _⟩
    case round =>
      obtain ⟨k, hk, rfl, rfl, hall, ⟨Dm, hown⟩, hbel⟩ := hrel
      have HA := Lib.hid hall
      have HO := Lib.hid hown
      clear hall hown
      have Br := B2.trans (hbel.mono B2.size)
      by_cases hlt : k < ps.length
      · obtain ⟨b, off, c', he, _, hbb, hcell⟩ := H2.out (by omega)
        obtain ⟨rfl, rfl⟩ : A = some ⟨b, off, none⟩ ∧ c = c' := by injection he with h1 h2 h3; exact ⟨h1, h3⟩
        have c0 := (hbel.cell (p := ⟨b, off + k, none⟩) hbb).trans (hcell k hlt)
        have hx := hp1k _ (List.getElem_mem hlt)
        have HT1 : Hid ((ps.take (k + 1)).any isStar = ((ps.take k).any isStar || isStar ps[k])) := by
          show _ = _; rw [List.take_add_one, List.getElem?_eq_getElem hlt, List.any_append]; simp
        have HT2 : Hid ((ps.take (k + 1)).all Tok.isTok = ((ps.take k).all Tok.isTok && Tok.isTok ps[k])) := by
          show _ = _; rw [List.take_add_one, List.getElem?_eq_getElem hlt, List.all_append]; simp
        have HT3 : Hid (Tok.isTok ps[k] = false → ps.all Tok.isTok = false) := fun h => by
          rw [List.all_eq_false]; exact ⟨ps[k], List.getElem_mem hlt, by rw [h]; simp⟩
        clear hcell he
        generalize ps[k] = x at *
        generalize hsk : (ps.take k).any isStar = sk at *
        have HTK := Lib.hid (fun w => isToken_any x w (by omega))
        go_wp2_with fail
        refine (HTK.out _).mono ?_
        rintro e w' ⟨rfl, rfl⟩
        cases hq : Tok.isTok x
        · have hr : (r1, r2) = (false, 3) := by rw [HN3.out, HT3.out hq]; simp
          injection hr with h1 h2
          subst h1 h2
          clear hq
          go_wp2_with fail
          go_ret3
          exact ⟨⟨_, rfl⟩, Br⟩
        · have HQ2 : Hid ((ps.take (k + 1)).all Tok.isTok = true) := by show _ = _; rw [HT2.out, HA.out, hq]; rfl
          clear hq HT2 HT3
          cases hst : (x.toList == [42])
          · have HS : Hid ((ps.take (k + 1)).any isStar = sk) := by show _ = _; rw [HT1.out]; unfold isStar; rw [hst]; simp
            go_wp2_with fail
            refine (lower_any x _ (by omega)).mono ?_
            rintro e w3 ⟨rfl, b3⟩
            have hB3 := belT hbel b3
            have HO3 := Lib.hid (HO.out.kept (gr_of (row := none) b3) (by simp))
            have hsz : (mkS (Tok.low (sl x))).size ≤ maxLen := by rw [mkS_size, Tok.low_len, sl_len]; simp only [maxLen]; omega
            have hkey := Go.WideMaps.keyOf_string_mk (k := 9) Try.underlying9 hsz
            clear hst
            go_wp2_with (at_mapUpdate; go_must (refine wpList_mapUpdate_own _ rfl _ _ _ 69 rfl 9 3 keyS Try.underlying69 (anyR (H := Unit)) w2.heap.size k _ rfl HO3.out (by unfold maxLen; omega) _ _ _ rfl rfl hkey _ [] rfl ?_); intro w4 hown4 hgrow4)
            go_roundw
            case rel => exact ⟨k + 1, by omega, by go_num, by rw [HS.out], HQ2.out, ⟨_, hown4⟩, hB3.grown hgrow4 hB3.size (fun j hj => by cases hj; exact Nat.le_refl _)⟩
            case measure => simp [intOf]; omega
          · have HS : Hid ((ps.take (k + 1)).any isStar = true) := by show _ = _; rw [HT1.out]; unfold isStar; rw [hst]; simp
            go_wp2_with fail
            go_roundw
            case rel => exact ⟨k + 1, by omega, by go_num, by rw [HS.out], HQ2.out, ⟨_, HO.out.mono (Nat.le_succ k)⟩, hbel⟩
            case measure => simp [intOf]; omega
      · obtain rfl : k = ps.length := by omega
        have hE : ps.take ps.length = ps := List.take_of_length_le (Nat.le_refl _)
        have hr : (r1, r2) = (ps.any isStar, 0) := by
          have := HA.out
          rw [hE] at this
          rw [HN3.out, if_pos this]
        injection hr with h1 h2
        subst h1 h2
        rw [hE]
        have hsz := size_put HO.out
        go_wp2_with fail
        refine (callsIn_wide.1 (Try.maps_Keys_33 _ _)).mono ?_
        rintro e w3 ⟨rfl, rfl⟩
        go_wp2_with fail
        refine (callsIn_wide.1 (Try.slices_Sorted_keys_32_33 w2.heap.size _ Dm _ _ HO.out (by simp only [maxLen]; omega) (by omega))).mono ?_
        rintro e w4 ⟨vs, ss, rfl, -, -, -, b4⟩
        have B4 := (Br.alloc Br.size (.cells #[.map (some w2.heap.size)] 69)).trans (b4.mono (by have := Br.size; simp; omega))
        go_wp2_with fail
        go_ret3
        exact ⟨⟨_, rfl⟩, B4⟩
end Vy
end Go.Proofs.Ytiijgbgknolmcaa
