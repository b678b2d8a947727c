/- FreshTold: the plain law, and the digits of a number. -/
import Derived.Test.YtiijgbgknolmcaaDoorFrs
import Derived.Test.YtiijgbgknolmcaaDoorRest
import Derived.Test.YtiijgbgknolmcaaDoorFieldLaws
import Derived.Test.YtiijgbgknolmcaaDoorDatV
import Derived.Laws.Runes
namespace Go.Proofs.YtiijgbgknolmcaaDoor
set_option maxRecDepth 20000
open Go.RowKit
namespace Fr
/-- The digits of a number. -/
def digL (n : Nat) : List UInt8 := if n < 10 then [UInt8.ofNat (48 + n)] else digL (n / 10) ++ [UInt8.ofNat (48 + n % 10)]
termination_by n
decreasing_by omega
theorem digL_lt {n : Nat} (h : n < 10) : digL n = [UInt8.ofNat (48 + n)] := by rw [digL, if_pos h]
theorem digL_ge {n : Nat} (h : ¬ n < 10) : digL n = digL (n / 10) ++ [UInt8.ofNat (48 + n % 10)] := by rw [digL, if_neg h]
theorem dig_b (d : Nat) (h : d < 10) : (48 ≤ UInt8.ofNat (48 + d) && UInt8.ofNat (48 + d) ≤ 57) = true ∧ (UInt8.ofNat (48 + d)).toNat - 48 = d ∧ Tok.tokB (UInt8.ofNat (48 + d)) = true := by
  have : ∀ d : Fin 10, (48 ≤ UInt8.ofNat (48 + d.val) && UInt8.ofNat (48 + d.val) ≤ 57) = true ∧ (UInt8.ofNat (48 + d.val)).toNat - 48 = d.val ∧ Tok.tokB (UInt8.ofNat (48 + d.val)) = true := by decide +kernel
  exact this ⟨d, h⟩
theorem digL_tok (n : Nat) : (digL n).all Tok.tokB = true := by
  induction n using Nat.strongRecOn with
  | _ n ih =>
    by_cases h : n < 10
    · rw [digL_lt h, List.all_cons, (dig_b n h).2.2]; rfl
    · rw [digL_ge h, List.all_append, ih (n / 10) (by omega), List.all_cons, (dig_b (n % 10) (by omega)).2.2]; rfl
theorem digL_pos (n : Nat) : 0 < (digL n).length := by
  by_cases h : n < 10
  · rw [digL_lt h]; simp
  · rw [digL_ge h]; simp
theorem digL_len : ∀ (k n : Nat), n < 10 ^ (k + 1) → (digL n).length ≤ k + 1
  | 0, n, h => by rw [digL_lt (by simpa using h)]; simp
  | k + 1, n, h => by
    by_cases h1 : n < 10
    · rw [digL_lt h1]; simp
    · have h2 : n / 10 < 10 ^ (k + 1) := by rw [Nat.div_lt_iff_lt_mul (by omega)]; rw [Nat.pow_succ] at h; omega
      have := digL_len k (n / 10) h2
      rw [digL_ge h1, List.length_append]; simp only [List.length_cons, List.length_nil]; omega
theorem digL_5 {n : Nat} (h : n < 100000) : (digL n).length ≤ 5 := digL_len 4 n (by omega)
theorem secs_app (c : UInt8) (hc : (48 ≤ c && c ≤ 57) = true) : ∀ (l : List UInt8) (m : Nat), l.all (fun c => 48 ≤ c && c ≤ 57) = true → secs m (l ++ [c]) = min (10 * secs m l + (c.toNat - 48)) 2147483648
  | [], m, _ => by
    have e : ∀ r, secs m (c :: r) = secs (min (10 * m + (c.toNat - 48)) 2147483648) r := fun r => by rw [secs, if_pos hc]
    rw [List.nil_append, e]; rfl
  | x :: l, m, h => by
    rw [List.all_cons, Bool.and_eq_true] at h
    have e : ∀ r, secs m (x :: r) = secs (min (10 * m + (x.toNat - 48)) 2147483648) r := fun r => by rw [secs, if_pos h.1]
    rw [List.cons_append, e, e, secs_app c hc l _ h.2]
theorem digL_dig (n : Nat) : (digL n).all (fun c => 48 ≤ c && c ≤ 57) = true := by
  induction n using Nat.strongRecOn with
  | _ n ih =>
    by_cases h : n < 10
    · rw [digL_lt h, List.all_cons, (dig_b n h).1]; rfl
    · rw [digL_ge h, List.all_append, ih (n / 10) (by omega), List.all_cons, (dig_b (n % 10) (by omega)).1]; rfl
theorem secs_dig (n : Nat) (h : n ≤ 2147483647) : secs 0 (digL n) = n := by
  induction n using Nat.strongRecOn with
  | _ n ih =>
    by_cases h1 : n < 10
    · rw [digL_lt h1, secs, if_pos (dig_b n h1).1, secs, (dig_b n h1).2.1]; omega
    · rw [digL_ge h1, secs_app _ (dig_b (n % 10) (by omega)).1 _ _ (digL_dig _), ih (n / 10) (by omega) (by omega), (dig_b (n % 10) (by omega)).2.1]; omega
def digS (n : Nat) : ByteArray := mkS (digL n)
theorem digS_tok (n : Nat) : Tok.isTok (digS n) = true := by
  unfold Tok.isTok digS
  rw [sl_mkS, mkS_size, digL_tok]
  simp [digL_pos]
def maxS (a : Nat) : ByteArray := ⟨#[109, 97, 120, 45, 97, 103, 101, 61]⟩ ++ digS a
def twoS (a b : Nat) : ByteArray := maxS a ++ ⟨#[44, 32, 115, 45, 109, 97, 120, 97, 103, 101, 61]⟩ ++ digS b
def smS (b : Nat) : ByteArray := ⟨#[115, 45, 109, 97, 120, 97, 103, 101, 61]⟩ ++ digS b
theorem maxS_size {a : Nat} (h : a < 100000) : (maxS a).size ≤ 13 := by
  have := digL_5 h
  unfold maxS digS; rw [ByteArray.size_append, mkS_size]; show 8 + _ ≤ 13; omega
theorem twoS_size {a b : Nat} (h : a < 100000) (h2 : b < 100000) : (twoS a b).size ≤ 29 := by
  have := digL_5 h2
  have := maxS_size h
  unfold twoS; rw [ByteArray.size_append, ByteArray.size_append]; unfold digS; rw [mkS_size]; show _ + 11 + _ ≤ 29; omega
theorem max_dir (a : Nat) : Dir (maxS a) (nMA, true, digS a) :=
  ⟨by kernel_rfl, by kernel_rfl, .inr (.inl ⟨rfl, by unfold maxS; rw [sl_append]; rfl, digS_tok a⟩)⟩
theorem sm_dir (b : Nat) : Dir (smS b) (nSM, true, digS b) :=
  ⟨by kernel_rfl, by kernel_rfl, .inr (.inl ⟨rfl, by unfold smS; rw [sl_append]; rfl, digS_tok b⟩)⟩
theorem dirs_ts {ts : List ByteArray} {ds : List Dr} (h : ∀ t ∈ ts, ∃ d, Dir t d) (hd : ts.map dirD = ds.map some) (h20 : ts.length ≤ 20) (hz : (joinS ts commaS).size ≤ 1000) : dirsD (joinS ts commaS) = ds := by
  have e : (ts.map sl).map mkS = ts := by rw [List.map_map]; conv => rhs; rw [← List.map_id ts]
                                          exact List.map_congr_left fun x _ => mkS_sl x
  unfold dirsD dirsOf
  rw [split_dirs ts h h20 hz]
  dsimp only
  rw [e, hd, allSome_map]
theorem dirs_max {a : Nat} (h : a < 100000) : dirsD (maxS a) = [(nMA, true, digS a)] := by
  have e : joinS [maxS a] commaS = maxS a := joinS_one _ _
  have := dirs_ts (ts := [maxS a]) (ds := [(nMA, true, digS a)]) (fun t ht => by rw [List.mem_singleton.1 ht]; exact ⟨_, max_dir a⟩) (by simp [(max_dir a).read]) (by simp) (by rw [e]; have := maxS_size h; omega)
  rwa [e] at this
theorem two_join (a b : Nat) : joinS [maxS a, smS b] commaS = twoS a b := by
  apply sl_inj
  unfold joinS joinL
  rw [sl_mkS]
  unfold twoS smS
  rw [sl_append, sl_append]
  simp only [List.map_cons, List.map_nil, Lib.join_cons, Lib.joinTail, List.flatMap_cons, List.flatMap_nil, List.append_nil, sl_append]
  rw [show sl (⟨#[44, 32, 115, 45, 109, 97, 120, 97, 103, 101, 61]⟩ : ByteArray) = sl commaS ++ sl (⟨#[115, 45, 109, 97, 120, 97, 103, 101, 61]⟩ : ByteArray) from rfl]
  simp only [List.append_assoc, List.flatten_cons, List.flatten_nil, List.append_nil]
theorem dirs_two {a b : Nat} (h : a < 100000) (h2 : b < 100000) : dirsD (twoS a b) = [(nMA, true, digS a), (nSM, true, digS b)] := by
  have e := two_join a b
  have := dirs_ts (ts := [maxS a, smS b]) (ds := [(nMA, true, digS a), (nSM, true, digS b)]) (fun t ht => by
    rcases List.mem_cons.1 ht with rfl | ht
    · exact ⟨_, max_dir a⟩
    · rw [List.mem_singleton.1 ht]; exact ⟨_, sm_dir b⟩) (by simp [(max_dir a).read, (sm_dir b).read]) (by simp) (by rw [e]; have := twoS_size h h2; omega)
  rwa [e] at this
theorem ne_ma : (nMA.toList == nSM.toList) = false := by kernel_rfl
theorem ma_ma : (nMA.toList == nMA.toList) = true := by kernel_rfl
theorem sm_sm : (nSM.toList == nSM.toList) = true := by kernel_rfl
theorem told_max (D : ByteArray → Option Nat) (l : List Fld) (code came : Int) {a : Nat} (h : a < 100000) : lifeF D (setF l nCC (maxS a)) code came = (a : Int) := by
  have e : dirsF (setF l nCC (maxS a)) = [(nMA, true, digS a)] := by unfold dirsF txt; rw [selF_set_self, joinS_one, dirs_max h]
  have h1 : secD [(nMA, true, digS a)] nSM = (0, false) := secD_none (by unfold findD; rw [List.find?_cons, ne_ma]; rfl)
  have h2 : secD [(nMA, true, digS a)] nMA = (secs 0 (sl (digS a)), true) := secD_some (show findD [(nMA, true, digS a)] nMA = some (nMA, true, digS a) from by unfold findD; rw [List.find?_cons, ma_ma])
  unfold lifeF
  rw [e, h1, h2, if_neg (by simp), if_pos rfl]
  unfold digS
  rw [sl_mkS, secs_dig a (by omega)]
theorem told_two (D : ByteArray → Option Nat) (l : List Fld) (code came : Int) {a b : Nat} (h : a < 100000) (h2 : b < 100000) : lifeF D (setF l nCC (twoS a b)) code came = (b : Int) := by
  have e : dirsF (setF l nCC (twoS a b)) = [(nMA, true, digS a), (nSM, true, digS b)] := by unfold dirsF txt; rw [selF_set_self, joinS_one, dirs_two h h2]
  have h1 : secD [(nMA, true, digS a), (nSM, true, digS b)] nSM = (secs 0 (sl (digS b)), true) := secD_some (show findD [(nMA, true, digS a), (nSM, true, digS b)] nSM = some (nSM, true, digS b) from by unfold findD; rw [List.find?_cons, ne_ma]; dsimp only; rw [List.find?_cons, sm_sm])
  unfold lifeF
  rw [e, h1, if_pos rfl]
  unfold digS
  rw [sl_mkS, secs_dig b (by omega)]
theorem told_exp {D : ByteArray → Option Nat} (hD : IsDate D) (l : List Fld) (code came : Int) {n : Nat} (h : n ≤ 253402300799) : lifeF D (setF (dropF (setF l nExp (mkS (Dt.printD n))) nCC) nDate (mkS (Dt.printD n))) code came = 0 := by
  have c1 : lowS nCC ≠ lowS nDate := by decide +kernel
  have c2 : lowS nExp ≠ lowS nDate := by decide +kernel
  have c3 : lowS nExp ≠ lowS nCC := by decide +kernel
  generalize hm : setF (dropF (setF l nExp (mkS (Dt.printD n))) nCC) nDate (mkS (Dt.printD n)) = m
  have s1 : selF m nCC = [] := by rw [← hm, selF_set_other _ _ c1, selF_drop_self]
  have s2 : selF m nExp = [mkS (Dt.printD n)] := by rw [← hm, selF_set_other _ _ c2, selF_drop_other _ c3, selF_set_self]
  have s3 : selF m nDate = [mkS (Dt.printD n)] := by rw [← hm, selF_set_self]
  have e : dirsF m = [] := dirsF_no s1
  have t2 : told D m nExp = some n := by unfold told isR txt; rw [s2, joinS_one, if_pos (show decide (0 < [mkS (Dt.printD n)].length) = true from rfl), hD.print h]
  have t3 : told D m nDate = some n := by unfold told isR txt; rw [s3, joinS_one, if_pos (show decide (0 < [mkS (Dt.printD n)].length) = true from rfl), hD.print h]
  unfold lifeF
  rw [e, show secD [] nSM = (0, false) from rfl, show secD [] nMA = (0, false) from rfl, if_neg (by simp), if_neg (by simp), if_pos (by unfold isR; rw [s2]; rfl), t2]
  dsimp only
  unfold dated
  rw [t3]
  simp [within]
  try rfl
/-! ### The digits' walk. -/
theorem run_string_one {src dst e : TypeId} {P : Program} (hs : P.underlying src = some (.slice e)) (he : P.underlying e = some (.int .u8)) (hd : P.underlying dst = some .string) (w : World) (a : UInt8) :
    (convert src dst (.slice (some ⟨w.heap.size, 0, none⟩) 1 1)).run P (w.alloc (.cells #[bv a] e)) = .ok (.string (mkS [a])) (w.alloc (.cells #[bv a] e)) := by
  have h : Owns (w.alloc (.cells #[bv a] e)) w.heap.size e 1 eb (.slice (some ⟨w.heap.size, 0, none⟩) 1 1) [a] :=
    Owns.lit (size := 1) (enc := eb) w w.heap.size #[bv a] [a] (Nat.le_refl _) (by simp [maxLen]) (by rfl) (by rfl)
  unfold Owns at h
  rw [eb_map] at h
  exact run_string_own hs he hd h
theorem chr_any (b : UInt8) (w : World) :
    Calls Tryd.prog 57 #[.int .i64 (b.toNat : Int)] w fun e w' => e = .returned (.string (mkS [b])) ∧ Below w.heap.size w w' := by
  have hb : b.toNat < 256 := b.toNat_lt
  have hcv : Sem.run Tryd.prog (convert 105 9 (Value.slice (some ⟨w.heap.size, 0, none⟩) 1 1)) (w.alloc (.cells #[Value.int IntKind.u8 (b.toNat : Int)] 5)) = .ok (.string (mkS [b])) (w.alloc (.cells #[Value.int IntKind.u8 (b.toNat : Int)] 5)) :=
    run_string_one Tryd.underlying105 Tryd.underlying5 Tryd.underlying9 w b
  have b0 : Below w.heap.size w (w.alloc (.cells #[Value.int IntKind.u8 (b.toNat : Int)] 5)) := (Below.refl _ _).alloc (Nat.le_refl _) _
  go_enter Tryd.func57, Tryd.ntmps57
  go_wp2_with fail
  go_ret
  exact ⟨rfl, b0⟩
theorem digits_any (n : Nat) (w : World) (h : n ≤ 4611686018427387904) :
    Calls Tryd.prog 28 #[.int .i64 n] w fun e w' => e = .returned (.string (digS n)) ∧ Below w.heap.size w w' := by
  induction n using Nat.strongRecOn generalizing w with
  | _ n ih =>
    by_cases h1 : n < 10
    · have d : decide ((n : Int) < 10) = true := decide_eq_true (by omega)
      have hD := digL_lt h1
      have hbn : (UInt8.ofNat (48 + n)).toNat = 48 + n := by rw [UInt8.toNat_ofNat']; omega
      generalize UInt8.ofNat (48 + n) = b at *
      have hw : IntKind.i64.wrap (48 + (n : Int)) = (b.toNat : Int) := by rw [wrap_small _ (by omega) (by omega)]; omega
      have HR : Hid (mkS [b] = digS n) := by unfold digS; rw [hD]; exact rfl
      clear hD hbn ih
      go_enter Tryd.func28, Tryd.ntmps28
      go_wp2_with fail
      refine (chr_any b _).mono ?_
      rintro e w1 ⟨rfl, b1⟩
      rw [HR.out]
      go_wp2_with fail
      go_ret
      exact ⟨rfl, b1⟩
    · have d : decide ((n : Int) < 10) = false := decide_eq_false (by omega)
      have hq : (n : Int).tdiv 10 = ((n / 10 : Nat) : Int) := by rw [Int.tdiv_eq_ediv_of_nonneg (by omega)]; omega
      have hr : (n : Int).tmod 10 = ((n % 10 : Nat) : Int) := by rw [Int.tmod_eq_emod_of_nonneg (by omega)]; omega
      have hD := digL_ge h1
      have hbn : (UInt8.ofNat (48 + n % 10)).toNat = 48 + n % 10 := by rw [UInt8.toNat_ofNat']; omega
      generalize UInt8.ofNat (48 + n % 10) = b at *
      have IH := Lib.hid (fun w => ih (n / 10) (by omega) w (by omega))
      have hq10 : n / 10 ≤ 4611686018427387904 := by omega
      have hr10 : n % 10 < 10 := by omega
      have HR : Hid (digS (n / 10) ++ mkS [b] = digS n) := by
        show digS (n / 10) ++ mkS [b] = digS n
        apply sl_inj; unfold digS; rw [sl_append, sl_mkS, sl_mkS, sl_mkS, hD]
      have hs1 : (digS (n / 10)).size ≤ 19 := by unfold digS; rw [mkS_size]; exact digL_len 18 (n / 10) (by omega)
      have hs2 : (mkS [b]).size = 1 := mkS_size _
      clear hD ih
      generalize n / 10 = q at *
      generalize n % 10 = r at *
      have hw : IntKind.i64.wrap (48 + (r : Int)) = (b.toNat : Int) := by rw [wrap_small _ (by omega) (by omega)]; omega
      have hw2 : IntKind.i64.wrap (q : Int) = (q : Int) := wrap_small _ (by omega) (by omega)
      clear hbn
      go_enter Tryd.func28, Tryd.ntmps28
      go_wp2_with fail
      refine (IH.out _).mono ?_
      rintro e w1 ⟨rfl, b1⟩
      go_wp2_with fail
      refine (chr_any b _).mono ?_
      rintro e w2 ⟨rfl, b2⟩
      go_wp2_with fail
      go_ret
      exact ⟨by rw [← HR.out]; rfl, belT b1 b2⟩
end Fr
end Go.Proofs.YtiijgbgknolmcaaDoor
