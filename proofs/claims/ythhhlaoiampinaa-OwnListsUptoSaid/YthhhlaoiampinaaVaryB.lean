/- vary: what Names and Match answer. -/
import Derived.Test.YthhhlaoiampinaaVaryP
import Derived.Test.YthhhlaoiampinaaIter
import Derived.Test.YthhhlaoiampinaaRegion
import Derived.Maps.Own
import Derived.Maps.OwnSet
import Derived.Maps.Keyed
import Derived.StringKeys
namespace Go.Proofs.Ythhhlaoiampinaa
set_option maxRecDepth 20000
open Go.RowKit Go.Maps
namespace Vy
def anyR {H : Type} : Value → Option (DataW H × List MemPlace) := fun _ => some (.lit (.bool true), [])
theorem keyS : Keyed Try.prog 9 := string_keyed Try.underlying9
theorem size_put {H : Type} {w : World} {b n : Nat} {D : DataW H} (h : w.ownsMap Try.prog 9 anyR b n D) : Maps.size D ≤ n := World.ownsMap.size_le h
def wt (l : List Fld) : Nat := (l.map (fun f => f.1.size + f.2.size + 2)).sum
structure LOk (w : World) (u : Value) (l : List Fld) : Prop where
  sl : SlR w e_ss u l
  sum : wt l ≤ 4398046511104
theorem LOk.below {w w' : World} {u : Value} {l : List Fld} (h : LOk w u l) (hb : Below w.heap.size w w') : LOk w' u l := ⟨h.sl.below hb, h.sum⟩
theorem wt_len (l : List Fld) : l.length ≤ wt l := sum_len _ (fun _ => by omega) l
theorem wt_sum (l : List Fld) : (l.map (fun f => f.2.size + 2)).sum ≤ wt l := by
  unfold wt
  induction l with
  | nil => simp
  | cons x m ih => simp only [List.map_cons, List.sum_cons]; omega
theorem LOk.len {w : World} {u : Value} {l : List Fld} (h : LOk w u l) : l.length * 32 ≤ 140737488355328 := by have := wt_len l; have := h.sum; omega
theorem LOk.lims {w : World} {u : Value} {l : List Fld} (h : LOk w u l) : Lims l := fun f hf => by have := sum_mem (fun d : Fld => d.1.size + d.2.size + 2) hf; have := h.sum; unfold wt at this; omega
theorem LOk.join {w : World} {u : Value} {l : List Fld} (h : LOk w u l) (n : ByteArray) : (joinL (selF l n) sep2).length ≤ 140737488351232 := Nat.le_trans (selF_join l n) (by have := wt_sum l; have := h.sum; omega)
theorem txt_wt (l : List Fld) (n : ByteArray) : (txt l n).size ≤ wt l := by unfold Vy.txt joinS; rw [mkS_size]; exact Nat.le_trans (selF_join l n) (wt_sum l)
theorem LOk.txt {w : World} {u : Value} {l : List Fld} (h : LOk w u l) (n : ByteArray) : (txt l n).size ≤ 140737488351232 := by have := txt_wt l n; have := h.sum; omega
theorem getL_any (u : Value) (l : List Fld) (n : ByteArray) (w : World) (h : LOk w u l) (hn : n.size ≤ 140737488351232) :
    Calls Try.prog 17 #[u, .string n] w fun e w' => e = .returned (.tuple #[.string (txt l n), .bool (isR l n)]) ∧ Below w.heap.size w w' := get_any u l n w h.sl h.len h.lims hn (h.join n)
/-! ### The map's keys. -/
theorem strKeys_spec {H : Type} {w : World} {b n : Nat} {D : DataW H} {R : Value → Option (DataW H × List MemPlace)} (h : w.ownsMap Try.prog 9 R b n D) : (strKeys D).Nodup ∧ (∀ x, x ∈ strKeys D ↔ has D (.string x) = true) ∧ (strKeys D).length = Maps.size D := by
  obtain ⟨es, hD, hpw, _⟩ := h.entries keyS
  obtain ⟨es', hD', hko⟩ := h.keysOf
  obtain rfl : es = es' := by rw [hD] at hD'; simpa using hD'
  subst hD
  have hk : ∀ p ∈ es, ∃ x, p.1 = .string x := fun p hp => by obtain ⟨v, hv⟩ := hko p hp; obtain ⟨x, _, hx, _⟩ := Maps.keyOf_str Try.underlying9 hv; exact ⟨x, hx⟩
  refine ⟨?_, ?_, ?_⟩
  · show (es.map fun p => strOf p.1).Nodup
    refine List.pairwise_map.2 (hpw.imp_of_mem fun {p q} hp' hq' hne e => hne ?_)
    obtain ⟨a, ha⟩ := hk p hp'
    obtain ⟨b, hb⟩ := hk q hq'
    rw [ha, hb] at e ⊢
    exact congrArg _ e
  · intro x
    rw [has_eq, List.any_eq_true]
    show x ∈ es.map (fun p => strOf p.1) ↔ _
    rw [List.mem_map]
    constructor
    · rintro ⟨p, hp', rfl⟩
      obtain ⟨a, ha⟩ := hk p hp'
      exact ⟨p, hp', by rw [ha]; simp [Lit.sameKey, strOf]⟩
    · rintro ⟨p, hp', hs⟩
      obtain ⟨a, ha⟩ := hk p hp'
      rw [ha] at hs
      exact ⟨p, hp', by rw [ha]; simpa [Lit.sameKey, strOf] using hs⟩
  · show (es.map fun p => strOf p.1).length = _
    rw [List.length_map]; rfl
theorem sorted_lt {ss : List (List UInt8)} (hn : ss.Nodup) : (ss.mergeSort leB).Pairwise (· < ·) := by
  have tr : ∀ a b c : List UInt8, leB a b = true → leB b c = true → leB a c = true := fun a b c h1 h2 => by simp only [leB, decide_eq_true_eq] at *; exact List.le_trans h1 h2
  have tl : ∀ a b : List UInt8, (leB a b || leB b a) = true := fun a b => by simp only [leB, Bool.or_eq_true, decide_eq_true_eq]; exact List.le_total a b
  have h1 := List.pairwise_mergeSort tr tl ss
  have h2 : (ss.mergeSort leB).Nodup := (List.mergeSort_perm ss leB).nodup_iff.2 hn
  refine (h1.and h2).imp ?_
  rintro a b ⟨h3, h4⟩
  rcases Classical.em (a < b) with h | h
  · exact h
  · exact absurd (List.le_antisymm (of_decide_eq_true h3) (List.not_lt.1 h)) h4
/-- The names, sorted. -/
def Sorted (xs : List ByteArray) : Prop := (xs.map sl).Pairwise (· < ·)
def NamesR (L : List ByteArray) (st : Bool) (c : Int) (e : Ending) (w' : World) : Prop := ∃ v xs, e = .returned (.tuple #[v, .bool st, .int .i64 c]) ∧ SlR w' es v xs ∧ Sorted xs ∧ xs.length ≤ 20 ∧ ∀ x, x ∈ xs ↔ x ∈ L
theorem namesR_nil (w' : World) (st : Bool) (c : Int) : NamesR [] st c (.returned (.tuple #[.slice none 0 0, .bool st, .int .i64 c])) w' :=
  ⟨_, [], rfl, SlR.nil w' es, List.Pairwise.nil, Nat.zero_le _, fun _ => Iff.rfl⟩
theorem sorted_row {w' : World} {base : Nat} {v : Value} {ss : List (List UInt8)} (h : w'.ownsRow base 9 1 v ss.length ((ss.mergeSort (fun x y => decide (x ≤ y))).map encStr)) :
    SlR w' es v ((ss.mergeSort leB).map mkS) := by
  have hl : ((ss.mergeSort leB).map mkS).length = ss.length := by rw [List.length_map, List.length_mergeSort]
  refine SlR.of_owns (base := base) (e := 9) (size := 1) ?_
  unfold Owns
  rw [hl, es_map, List.map_map]
  exact h
def Has (D : DataW Unit) (L : List ByteArray) : Prop := ∀ x : List UInt8, has D (.string x) = true ↔ mkS x ∈ L
theorem has_new {D : DataW Unit} {w : World} {b n : Nat} (hown : w.ownsMap Try.prog 9 anyR b n D) {L : List ByteArray} (h : Has D L) (y : List UInt8) (hy : y.length ≤ maxLen) (d : DataW Unit) : Has (D.put (.string y) d) (L ++ [mkS y]) := by
  obtain ⟨es, hD, _⟩ := hown.keysOf
  intro x
  by_cases hx : x = y
  · subst hx
    have := has_put_same (D := D) (k := .string x) ⟨es, hD⟩ (by simp [WideAt.IsKeyLit]) d
    rw [this]; simp
  · rw [has_put_other (by intro e; apply hx; injection e) d, h x]
    have : mkS x ≠ mkS y := fun e => hx (by rw [← sl_mkS x, ← sl_mkS y, e])
    simp [this]
set_option maxHeartbeats 3200000 in
theorem names_all (u : Value) (l : List Fld) (w : World) (hl : LOk w u l) :
    Calls Try.prog 44 #[u] w fun e w' => NamesR (nmF (txt l nVary)).1 (nmF (txt l nVary)).2.1 (nmF (txt l nVary)).2.2 e w' ∧ Below w.heap.size w w' := by
  have HG : Hid (Calls Try.prog 17 #[u, .string nVary] w fun e w' => e = .returned (.tuple #[.string (txt l nVary), .bool (isR l nVary)]) ∧ Below w.heap.size w w') := getL_any u l nVary w hl (by decide)
  have HT : (txt l nVary).size ≤ 140737488351232 := hl.txt nVary
  have HN : Hid (nmF (txt l nVary) = match Tok.splitL (sl (txt l nVary)) with | .error c => ([], false, c) | .ok ps => if (ps.map mkS).all Tok.isTok = true then (lowsOf (ps.map mkS), (ps.map mkS).any isStar, 0) else ([], false, 3)) := rfl
  clear hl
  generalize nmF (txt l nVary) = R at *
  generalize txt l nVary = T at *
  generalize isR l nVary = q at *
  obtain ⟨r0, r1, r2⟩ := R
  go_enter Try.func44, Try.ntmps44
  go_wp2_with fail
  refine HG.out.mono ?_
  rintro e w1 ⟨rfl, b1⟩
  go_wp2_with fail
  refine (split_any T _ HT).mono ?_
  rintro e w2 ⟨hans, b2⟩
  have B2 := belT b1 b2
  unfold SplitAns at hans
  have HN2 := HN.out
  clear HN HG
  cases hsp : Tok.splitL (sl T) with
  | error c =>
    rw [hsp] at hans HN2
    dsimp only at hans HN2
    subst hans
    have hc := split_code hsp
    have hne : (c != 0) = true := by simp; omega
    injection HN2 with h0 h1
    injection h1 with h1 h2
    subst h0 h1 h2
    clear hsp hc
    go_wp2_with fail
    go_ret3
    exact ⟨namesR_nil _ _ _, B2⟩
  | ok ps0 =>
    rw [hsp] at hans HN2
    dsimp only at hans HN2
    obtain ⟨v, rfl, ho⟩ := hans
    have h20 : (ps0.map mkS).length ≤ 20 ∧ ∀ p ∈ ps0.map mkS, p.size ≤ 1000 := by
      obtain ⟨k1, k2, -⟩ := Tok.split_short hsp
      refine ⟨by rw [List.length_map]; exact k2, fun p hp => ?_⟩
      obtain ⟨q, hq, rfl⟩ := List.mem_map.1 hp
      rw [mkS_size]; exact k1 q hq
    generalize ps0.map mkS = ps at *
    clear hsp
    obtain ⟨hl20, hp1k⟩ := h20
    have HSL := Lib.hid (SlR.of_owns ho)
    obtain ⟨A, c, rfl, -⟩ := (SlR.of_owns ho).form
    clear ho
    have HN3 := Lib.hid HN2
    clear HN2
    have hmm := @run_makeMap Try.prog
    go_wp2_with fail
    have H2 := Lib.hid (fun hn => HSL.out.texts hn)
    go_loopw [10, 29] (fun st i wr => ∃ k : Nat, k ≤ ps.length ∧ i = .int .i64 k ∧ st = .bool ((ps.take k).any isStar) ∧ (ps.take k).all Tok.isTok = true ∧ (∃ D : DataW Unit, wr.ownsMap Try.prog 9 anyR w2.heap.size k D ∧ Has D (lowsOf (ps.take k))) ∧ Below w2.heap.size w2 wr) (fun _ i _ => ps.length - (intOf i).toNat)
    case atStart => exact ⟨0, by omega, rfl, rfl, rfl, ⟨_, World.ownsMap_made _ _ _ _, fun x => ⟨(fun h => by cases h), (fun h => by simp [lowsOf] at h)⟩⟩, (Below.refl _ _).alloc (Nat.le_refl _) _⟩
    case round =>
      obtain ⟨k, hk, rfl, rfl, hall, ⟨Dm, hown, hhas⟩, hbel⟩ := hrel
      have HA := Lib.hid hall
      have HO := Lib.hid hown
      have HH := Lib.hid hhas
      clear hall hown hhas
      have Br := B2.trans (hbel.mono B2.size)
      by_cases hlt : k < ps.length
      · obtain ⟨b, off, c', he, _, hbb, hcell⟩ := H2.out (by omega)
        obtain ⟨rfl, rfl⟩ : A = some ⟨b, off, none⟩ ∧ c = c' := by injection he with h1 h2 h3; exact ⟨h1, h3⟩
        have c0 := (hbel.cell (p := ⟨b, off + k, none⟩) hbb).trans (hcell k hlt)
        have hx := hp1k _ (List.getElem_mem hlt)
        have HT1 : Hid ((ps.take (k + 1)).any isStar = ((ps.take k).any isStar || isStar ps[k])) := by
          show _ = _; rw [List.take_add_one, List.getElem?_eq_getElem hlt, List.any_append]; simp
        have HT2 : Hid ((ps.take (k + 1)).all Tok.isTok = ((ps.take k).all Tok.isTok && Tok.isTok ps[k])) := by
          show _ = _; rw [List.take_add_one, List.getElem?_eq_getElem hlt, List.all_append]; simp
        have HT3 : Hid (Tok.isTok ps[k] = false → ps.all Tok.isTok = false) := fun h => by
          rw [List.all_eq_false]; exact ⟨ps[k], List.getElem_mem hlt, by rw [h]; simp⟩
        have HT4 : Hid (lowsOf (ps.take (k + 1)) = lowsOf (ps.take k) ++ (if isStar ps[k] = true then [] else [lowS ps[k]])) := by
          show _ = _
          unfold lowsOf
          rw [List.take_add_one, List.getElem?_eq_getElem hlt, List.filter_append, List.map_append]
          cases hi : isStar ps[k] <;> simp [hi]
        clear hcell he
        generalize ps[k] = x at *
        generalize hsk : (ps.take k).any isStar = sk at *
        have HTK := Lib.hid (fun w => isToken_any x w (by omega))
        go_wp2_with fail
        refine (HTK.out _).mono ?_
        rintro e w' ⟨rfl, rfl⟩
        cases hq : Tok.isTok x
        · have hr : (r0, r1, r2) = ([], false, 3) := by rw [HN3.out, HT3.out hq]; simp
          injection hr with h0 h1
          injection h1 with h1 h2
          subst h0 h1 h2
          clear hq
          go_wp2_with fail
          go_ret3
          exact ⟨namesR_nil _ _ _, Br⟩
        · have HQ2 : Hid ((ps.take (k + 1)).all Tok.isTok = true) := by show _ = _; rw [HT2.out, HA.out, hq]; rfl
          clear hq HT2 HT3
          cases hst : (x.toList == [42])
          · have HS : Hid ((ps.take (k + 1)).any isStar = sk) := by show _ = _; rw [HT1.out]; unfold isStar; rw [hst]; simp
            have HL : Hid (lowsOf (ps.take (k + 1)) = lowsOf (ps.take k) ++ [lowS x]) := by show _ = _; rw [HT4.out]; unfold isStar; rw [hst]; simp
            go_wp2_with fail
            refine (lower_any x _ (by omega)).mono ?_
            rintro e w3 ⟨rfl, b3⟩
            have hB3 := belT hbel b3
            have HO3 := Lib.hid (HO.out.kept (gr_of (row := none) b3) (by simp))
            have hsz : (mkS (Tok.low (sl x))).size ≤ maxLen := by rw [mkS_size, Tok.low_len, sl_len]; simp only [maxLen]; omega
            have hkey := Go.WideMaps.keyOf_string_mk (k := 9) Try.underlying9 hsz
            have HHN := Lib.hid (fun d => has_new HO3.out HH.out (Tok.low (sl x)) (by rw [← mkS_size]; exact hsz) d)
            clear hst
            go_wp2_with (at_mapUpdate; go_must (refine wpList_mapUpdate_own _ rfl _ _ _ 129 rfl 9 3 keyS Try.underlying129 (anyR (H := Unit)) w2.heap.size k _ rfl HO3.out (by unfold maxLen; omega) _ _ _ rfl rfl hkey _ [] rfl ?_); intro w4 hown4 hgrow4)
            go_roundw
            case rel => exact ⟨k + 1, by omega, by go_num, by rw [HS.out], HQ2.out, ⟨_, hown4, by rw [HL.out]; exact HHN.out _⟩, hB3.grown hgrow4 hB3.size (fun j hj => by cases hj; exact Nat.le_refl _)⟩
            case measure => simp [intOf]; omega
          · have HS : Hid ((ps.take (k + 1)).any isStar = true) := by show _ = _; rw [HT1.out]; unfold isStar; rw [hst]; simp
            have HL : Hid (lowsOf (ps.take (k + 1)) = lowsOf (ps.take k)) := by show _ = _; rw [HT4.out]; unfold isStar; rw [hst]; simp
            go_wp2_with fail
            go_roundw
            case rel => exact ⟨k + 1, by omega, by go_num, by rw [HS.out], HQ2.out, ⟨_, HO.out.mono (Nat.le_succ k), by rw [HL.out]; exact HH.out⟩, hbel⟩
            case measure => simp [intOf]; omega
      · obtain rfl : k = ps.length := by omega
        have hE : ps.take ps.length = ps := List.take_of_length_le (Nat.le_refl _)
        have hr : (r0, r1, r2) = (lowsOf ps, ps.any isStar, 0) := by
          have := HA.out
          rw [hE] at this
          rw [HN3.out, if_pos this]
        injection hr with h0 h1
        injection h1 with h1 h2
        subst h0 h1 h2
        have HHE : Hid (Has Dm (lowsOf ps)) := by have := HH.out; rw [hE] at this; exact this
        rw [hE]
        have hsz := size_put HO.out
        have HKS := Lib.hid (strKeys_spec HO.out)
        go_wp2_with fail
        refine (callsIn_wide.1 (Try.maps_Keys_75 _ _)).mono ?_
        rintro e w3 ⟨rfl, rfl⟩
        go_wp2_with fail
        refine (callsIn_wide.1 (Try.slices_Sorted_keys_64_75 w2.heap.size _ Dm _ _ HO.out (by simp only [maxLen]; omega) (by omega))).mono ?_
        rintro e w4 ⟨vs, ss, rfl, hperm, hrow, -, b4⟩
        have B4 := (Br.alloc Br.size (.cells #[.map (some w2.heap.size)] 129)).trans (b4.mono (by have := Br.size; simp; omega))
        have HSR := Lib.hid (sorted_row hrow)
        have HMem : Hid (Sorted ((ss.mergeSort leB).map mkS) ∧ ((ss.mergeSort leB).map mkS).length ≤ 20 ∧ ∀ x, x ∈ (ss.mergeSort leB).map mkS ↔ x ∈ lowsOf ps) := by
          obtain ⟨n1, n2, n3⟩ := HKS.out
          refine ⟨?_, by rw [List.length_map, List.length_mergeSort, hperm.length_eq, n3]; omega, fun x => ?_⟩
          · unfold Sorted
            have : ((ss.mergeSort leB).map mkS).map sl = ss.mergeSort leB := by
              rw [List.map_map]
              conv => rhs; rw [← List.map_id (ss.mergeSort leB)]
              exact List.map_congr_left (fun a _ => sl_mkS a)
            rw [this]
            exact sorted_lt (hperm.nodup_iff.2 n1)
          · rw [List.mem_map]
            constructor
            · rintro ⟨y, hy, rfl⟩
              exact (HHE.out y).1 ((n2 y).1 (hperm.mem_iff.1 ((List.mergeSort_perm ss leB).mem_iff.1 hy)))
            · intro hx
              refine ⟨sl x, (List.mergeSort_perm ss leB).mem_iff.2 (hperm.mem_iff.2 ((n2 _).2 ((HHE.out _).2 (by rw [mkS_sl]; exact hx)))), mkS_sl x⟩
        clear hperm hrow
        generalize (ss.mergeSort leB).map mkS = xs at HSR HMem
        obtain ⟨A4, c4, rfl, -⟩ := HSR.out.form
        go_wp2_with fail
        go_ret3
        exact ⟨⟨_, _, rfl, HSR.out, HMem.out.1, HMem.out.2.1, HMem.out.2.2⟩, B4⟩
end Vy
end Go.Proofs.Ythhhlaoiampinaa
