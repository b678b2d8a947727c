/- The digits of a number, as the document's answer prints them. -/
import Derived.Test.YthocoplaehbncaaDoorIsTok
import Derived.Test.YthocoplaehbncaaDoorShelf
import Derived.Laws.Runes
namespace Go.Proofs.YthocoplaehbncaaDoor
set_option maxRecDepth 20000
open Go.RowKit
namespace Fr
/-- The digits of a number. -/
def digL (n : Nat) : List UInt8 := if n < 10 then [UInt8.ofNat (48 + n)] else digL (n / 10) ++ [UInt8.ofNat (48 + n % 10)]
termination_by n
decreasing_by omega
theorem digL_lt {n : Nat} (h : n < 10) : digL n = [UInt8.ofNat (48 + n)] := by rw [digL, if_pos h]
theorem digL_ge {n : Nat} (h : ¬ n < 10) : digL n = digL (n / 10) ++ [UInt8.ofNat (48 + n % 10)] := by rw [digL, if_neg h]
theorem dig_b (d : Nat) (h : d < 10) : (48 ≤ UInt8.ofNat (48 + d) && UInt8.ofNat (48 + d) ≤ 57) = true ∧ (UInt8.ofNat (48 + d)).toNat - 48 = d ∧ Tok.tokB (UInt8.ofNat (48 + d)) = true := by
  have : ∀ d : Fin 10, (48 ≤ UInt8.ofNat (48 + d.val) && UInt8.ofNat (48 + d.val) ≤ 57) = true ∧ (UInt8.ofNat (48 + d.val)).toNat - 48 = d.val ∧ Tok.tokB (UInt8.ofNat (48 + d.val)) = true := by decide +kernel
  exact this ⟨d, h⟩
theorem digL_tok (n : Nat) : (digL n).all Tok.tokB = true := by
  induction n using Nat.strongRecOn with
  | _ n ih =>
    by_cases h : n < 10
    · rw [digL_lt h, List.all_cons, (dig_b n h).2.2]; rfl
    · rw [digL_ge h, List.all_append, ih (n / 10) (by omega), List.all_cons, (dig_b (n % 10) (by omega)).2.2]; rfl
theorem digL_pos (n : Nat) : 0 < (digL n).length := by
  by_cases h : n < 10
  · rw [digL_lt h]; simp
  · rw [digL_ge h]; simp
theorem digL_len : ∀ (k n : Nat), n < 10 ^ (k + 1) → (digL n).length ≤ k + 1
  | 0, n, h => by rw [digL_lt (by simpa using h)]; simp
  | k + 1, n, h => by
    by_cases h1 : n < 10
    · rw [digL_lt h1]; simp
    · have h2 : n / 10 < 10 ^ (k + 1) := by rw [Nat.div_lt_iff_lt_mul (by omega)]; rw [Nat.pow_succ] at h; omega
      have := digL_len k (n / 10) h2
      rw [digL_ge h1, List.length_append]; simp only [List.length_cons, List.length_nil]; omega
theorem digL_5 {n : Nat} (h : n < 100000) : (digL n).length ≤ 5 := digL_len 4 n (by omega)
def digS (n : Nat) : ByteArray := mkS (digL n)
theorem digS_tok (n : Nat) : Tok.isTok (digS n) = true := by
  unfold Tok.isTok digS
  rw [sl_mkS, mkS_size, digL_tok]
  simp [digL_pos]
end Fr
open Fr
theorem run_string_one {src dst e : TypeId} {P : Program} (hs : P.underlying src = some (.slice e)) (he : P.underlying e = some (.int .u8)) (hd : P.underlying dst = some .string) (w : World) (a : UInt8) :
    (convert src dst (.slice (some ⟨w.heap.size, 0, none⟩) 1 1)).run P (w.alloc (.cells #[bv a] e)) = .ok (.string (mkS [a])) (w.alloc (.cells #[bv a] e)) := by
  have h : Owns (w.alloc (.cells #[bv a] e)) w.heap.size e 1 eb (.slice (some ⟨w.heap.size, 0, none⟩) 1 1) [a] :=
    Owns.lit (size := 1) (enc := eb) w w.heap.size #[bv a] [a] (Nat.le_refl _) (by simp [maxLen]) (by rfl) (by rfl)
  unfold Owns at h
  rw [eb_map] at h
  exact run_string_own hs he hd h
theorem chr_any (b : UInt8) (w : World) :
    Calls Tryd.prog 58 #[.int .i64 (b.toNat : Int)] w fun e w' => e = .returned (.string (mkS [b])) ∧ Below w.heap.size w w' := by
  have hb : b.toNat < 256 := b.toNat_lt
  have hcv : Sem.run Tryd.prog (convert 67 9 (Value.slice (some ⟨w.heap.size, 0, none⟩) 1 1)) (w.alloc (.cells #[Value.int IntKind.u8 (b.toNat : Int)] 5)) = .ok (.string (mkS [b])) (w.alloc (.cells #[Value.int IntKind.u8 (b.toNat : Int)] 5)) :=
    run_string_one Tryd.underlying67 Tryd.underlying5 Tryd.underlying9 w b
  have b0 : Below w.heap.size w (w.alloc (.cells #[Value.int IntKind.u8 (b.toNat : Int)] 5)) := (Below.refl _ _).alloc (Nat.le_refl _) _
  go_enter Tryd.func58, Tryd.ntmps58
  go_wp2_with fail
  go_ret
  exact ⟨rfl, b0⟩
theorem digits_any (n : Nat) (w : World) (h : n ≤ 4611686018427387904) :
    Calls Tryd.prog 25 #[.int .i64 n] w fun e w' => e = .returned (.string (digS n)) ∧ Below w.heap.size w w' := by
  induction n using Nat.strongRecOn generalizing w with
  | _ n ih =>
    by_cases h1 : n < 10
    · have d : decide ((n : Int) < 10) = true := decide_eq_true (by omega)
      have hD := digL_lt h1
      have hbn : (UInt8.ofNat (48 + n)).toNat = 48 + n := by rw [UInt8.toNat_ofNat']; omega
      generalize UInt8.ofNat (48 + n) = b at *
      have hw : IntKind.i64.wrap (48 + (n : Int)) = (b.toNat : Int) := by rw [wrap_small _ (by omega) (by omega)]; omega
      have HR : Hid (mkS [b] = digS n) := by unfold digS; rw [hD]; exact rfl
      clear hD hbn ih
      go_enter Tryd.func25, Tryd.ntmps25
      go_wp2_with fail
      refine (chr_any b _).mono ?_
      rintro e w1 ⟨rfl, b1⟩
      rw [HR.out]
      go_wp2_with fail
      go_ret
      exact ⟨rfl, b1⟩
    · have d : decide ((n : Int) < 10) = false := decide_eq_false (by omega)
      have hq : (n : Int).tdiv 10 = ((n / 10 : Nat) : Int) := by rw [Int.tdiv_eq_ediv_of_nonneg (by omega)]; omega
      have hr : (n : Int).tmod 10 = ((n % 10 : Nat) : Int) := by rw [Int.tmod_eq_emod_of_nonneg (by omega)]; omega
      have hD := digL_ge h1
      have hbn : (UInt8.ofNat (48 + n % 10)).toNat = 48 + n % 10 := by rw [UInt8.toNat_ofNat']; omega
      generalize UInt8.ofNat (48 + n % 10) = b at *
      have IH := Lib.hid (fun w => ih (n / 10) (by omega) w (by omega))
      have hq10 : n / 10 ≤ 4611686018427387904 := by omega
      have hr10 : n % 10 < 10 := by omega
      have HR : Hid (digS (n / 10) ++ mkS [b] = digS n) := by
        show digS (n / 10) ++ mkS [b] = digS n
        apply sl_inj; unfold digS; rw [sl_append, sl_mkS, sl_mkS, sl_mkS, hD]
      have hs1 : (digS (n / 10)).size ≤ 19 := by unfold digS; rw [mkS_size]; exact digL_len 18 (n / 10) (by omega)
      have hs2 : (mkS [b]).size = 1 := mkS_size _
      clear hD ih
      generalize n / 10 = q at *
      generalize n % 10 = r at *
      have hw : IntKind.i64.wrap (48 + (r : Int)) = (b.toNat : Int) := by rw [wrap_small _ (by omega) (by omega)]; omega
      have hw2 : IntKind.i64.wrap (q : Int) = (q : Int) := wrap_small _ (by omega) (by omega)
      clear hbn
      go_enter Tryd.func25, Tryd.ntmps25
      go_wp2_with fail
      refine (IH.out _).mono ?_
      rintro e w1 ⟨rfl, b1⟩
      go_wp2_with fail
      refine (chr_any b _).mono ?_
      rintro e w2 ⟨rfl, b2⟩
      go_wp2_with fail
      go_ret
      exact ⟨by rw [← HR.out]; rfl, belT b1 b2⟩
end Go.Proofs.YthocoplaehbncaaDoor
