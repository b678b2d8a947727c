/- body.New, Done, Body, Decode. -/
import Derived.Test.YtoalfjkbgeiggaaGreatDoorZDecE
namespace Go.Proofs.YtoalfjkbgeiggaaGreatDoor
set_option maxRecDepth 20000
open Go.RowKit
open Ck
theorem newD_any (w : World) :
    Calls Tryz.prog 52 #[] w fun e w' => e = .returned (.pointer (some ⟨w.heap.size, 0, none⟩)) ∧ Dec w' w.heap.size w.heap.size .head ByteArray.empty [] false ∧ Below w.heap.size w w' ∧ w'.heap.size = w.heap.size + 1 := by
  go_enter Tryz.func52, Tryz.ntmps52
  go_wp2_with fail
  go_ret
  exact ⟨rfl, ⟨0, _, Blk.new w _ _, Owns.nil .., Nat.le_refl _, by decide, fun k hk => by cases hk⟩, (Below.refl _ w).alloc (Nat.le_refl _) _, by simp⟩
theorem doneD_any (d : Nat) (b : Bool) (w : World) (h : w.cell? ⟨d, 4, none⟩ = some (.bool b)) :
    Calls Tryz.prog 54 #[.pointer (some ⟨d, 0, none⟩)] w fun e w' => e = .returned (.bool b) ∧ w' = w := by
  go_enter Tryz.func54, Tryz.ntmps54
  go_wp2_with fail
  go_ret
  exact ⟨rfl, rfl⟩
theorem Dec.c4 {w : World} {n0 d : Nat} {st : St} {R : ByteArray} {b : List UInt8} {dn : Bool} (h : Dec w n0 d st R b dn) : w.cell? ⟨d, 4, none⟩ = some (.bool dn) := by
  obtain ⟨left, v, hb, -⟩ := h
  exact hb.cell 4
theorem Bad.c4 {w : World} {d : Nat} {b : Bool} (h : Bad w d b) : w.cell? ⟨d, 4, none⟩ = some (.bool false) := by
  obtain ⟨x0, x1, x2, x3, hb⟩ := h
  exact hb.cell 4
theorem convD {W : World} {b : Nat} {v : Value} {l : List UInt8} (h : Owns W b 5 1 eb v l) : (convert 82 9 v).run Tryz.prog W = .ok (.string (mkS l)) W := by
  have hs : Tryz.prog.underlying 82 = some (.slice 5) := Tryz.underlying82
  have he : Tryz.prog.underlying 5 = some (.int .u8) := Tryz.underlying5
  have hd : Tryz.prog.underlying 9 = some .string := Tryz.underlying9
  unfold Owns at h
  rw [eb_map] at h
  exact run_string_own hs he hd h
theorem bodyD_any (n0 d : Nat) (st : St) (R : ByteArray) (b : List UInt8) (dn : Bool) (w : World) (h : Dec w n0 d st R b dn) :
    Calls Tryz.prog 55 #[.pointer (some ⟨d, 0, none⟩)] w fun e w' => e = .returned (.string (if dn then mkS b else ByteArray.empty)) ∧ w' = w := by
  obtain ⟨left, v, hb, ho, -⟩ := h
  have c3 := hb.cell 3
  have c4 := hb.cell 4
  have hcv := convD ho
  cases dn with
  | true =>
    go_enter Tryz.func55, Tryz.ntmps55
    go_wp2_with fail
    go_ret
    exact ⟨rfl, rfl⟩
  | false =>
    go_enter Tryz.func55, Tryz.ntmps55
    go_wp2_with fail
    go_ret
    exact ⟨rfl, rfl⟩
namespace Ck
def DecAns (n : Nat) (a : Res) (e : Ending) : Prop :=
  match a with
  | .short _ _ _ => e = .returned (.tuple #[.string ByteArray.empty, .int .i64 0, .int .i64 8])
  | .err c => e = .returned (.tuple #[.string ByteArray.empty, .int .i64 0, .int .i64 c])
  | .done b r => e = .returned (.tuple #[.string (mkS b), .int .i64 ((n : Int) - (r.length : Int)), .int .i64 0])
theorem run_code : ∀ (n : Nat) (st : St) (b s : List UInt8) (c : Int), run n st b s = .err c → 2 ≤ c ∧ c ≤ 7
  | 0, st, b, s, c, h => by simp [run] at h
  | n + 1, st, b, s, c, h => by
    rw [run] at h
    cases hst : Ck.step st b s with
    | short => rw [hst] at h; cases h
    | fin k => rw [hst] at h; cases h
    | go k st2 b2 => rw [hst] at h; exact run_code n _ _ _ _ h
    | err c' =>
      rw [hst] at h
      injection h with h
      subst h
      cases st with
      | head =>
        rw [step_head] at hst
        split at hst
        · injection hst with h; omega
        · split at hst
          · rcases atEnd_cases (s.drop (headEnd s)) (.err 2) with h1 | h1 | h1 <;> rw [h1] at hst
            · cases hst
            · injection hst with h; omega
            · injection hst with h; omega
          · generalize hX : Ans.go (headEnd s + 2) (if hexN (digs s) = 0 then St.trailer else St.data (hexN (digs s))) b = X at hst
            rcases atEnd_cases (s.drop (headEnd s)) X with h1 | h1 | h1 <;> rw [h1] at hst
            · cases hst
            · rw [← hX] at hst; cases hst
            · injection hst with h; omega
      | data left =>
        rw [step_data] at hst
        split at hst
        · cases hst
        · generalize hX : Ans.go (left + 2) St.head (b ++ s.take left) = X at hst
          rcases atEnd_cases (s.drop left) X with h1 | h1 | h1 <;> rw [h1] at hst
          · cases hst
          · rw [← hX] at hst; cases hst
          · injection hst with h; omega
      | trailer =>
        rw [step_trailer] at hst
        split at hst
        · rename_i c'' hp
          split at hst
          · cases hst
          · injection hst with h
            subst h
            have := parse_code _ _ _ _ hp
            omega
        · cases hst
theorem dec_code {st : St} {b s : List UInt8} {c : Int} (h : dec st b s = .err c) : 2 ≤ c ∧ c ≤ 7 := run_code _ _ _ _ _ h
end Ck
set_option maxHeartbeats 1600000 in
theorem decodeD_any (s : ByteArray) (w : World) (hs : s.size < 4294967281) (hm : HasMaxN w.heap.size w) :
    Calls Tryz.prog 34 #[.string s] w fun e w' => DecAns s.size (dec .head [] (sl s)) e ∧ Below w.heap.size w w' := by
  obtain ⟨D, hD⟩ : ∃ D, dec .head [] (sl s) = D := ⟨_, rfl⟩
  have HD := Lib.hid hD
  have HMX := Lib.hid hm
  clear hm
  rw [hD]
  clear hD
  go_enter Tryz.func34, Tryz.ntmps34
  go_wp2_with fail
  refine (newD_any w).mono ?_
  rintro e w1 ⟨rfl, hd1, b1, z1⟩
  have HW := Lib.hid (writeD_any w.heap.size w.heap.size .head s ByteArray.empty [] w1 hd1 (by simpa using hs) (HMX.out.below b1))
  rw [sl_empty, List.nil_append, HD.out] at HW
  clear hd1
  cases D with
  | short st b r =>
    go_wp2_with fail
    refine HW.out.mono ?_
    rintro e w2 ⟨⟨rfl, R, hR, hd2⟩, b2⟩
    have hc := Dec.c4 hd2
    go_wp2_with fail
    refine (doneD_any _ _ w2 hc).mono ?_
    rintro e w3 ⟨rfl, rfl⟩
    go_wp2_with fail
    go_ret3
    exact ⟨rfl, b1.trans b2⟩
  | err c =>
    have hc := dec_code HD.out
    have hne : (c != 0) = true := by rw [bne_iff_ne]; omega
    go_wp2_with fail
    refine HW.out.mono ?_
    rintro e w2 ⟨⟨rfl, hb2⟩, b2⟩
    go_wp2_with fail
    go_ret3
    exact ⟨rfl, b1.trans b2⟩
  | done b r =>
    go_wp2_with fail
    refine HW.out.mono ?_
    rintro e w2 ⟨⟨rfl, R, st, hR, hd2⟩, b2⟩
    have hc := Dec.c4 hd2
    have HD2 := Lib.hid hd2
    clear hd2
    go_wp2_with fail
    refine (doneD_any _ _ w2 hc).mono ?_
    rintro e w3 ⟨rfl, hw⟩
    have hw := hw.symm
    subst hw
    go_wp2_with fail
    refine (bodyD_any _ _ _ _ _ _ w2 HD2.out).mono ?_
    rintro e w3 ⟨rfl, hw⟩
    have hw := hw.symm
    subst hw
    go_wp2_with fail
    go_ret3
    exact ⟨rfl, b1.trans b2⟩
end Go.Proofs.YtoalfjkbgeiggaaGreatDoor
