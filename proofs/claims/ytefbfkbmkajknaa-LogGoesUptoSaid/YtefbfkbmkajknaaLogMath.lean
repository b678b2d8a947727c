/- The plain law of the journal: checksums, frames, and what is recovered, on lists of bytes. -/
import Std
namespace Go.Proofs.Ytefbfkbmkajknaa
namespace Lg
/-! ### The checksum. -/
def step (n : Nat) : Nat := (n >>> 1) ^^^ ((n &&& 1) * 2197175160)
def steps : Nat → Nat → Nat
  | 0, n => n
  | k + 1, n => step (steps k n)
def crcB (n : Nat) (c : UInt8) : Nat := steps 8 (n ^^^ c.toNat)
def reg (n : Nat) (l : List UInt8) : Nat := l.foldl crcB n
def crc (l : List UInt8) : Nat := 4294967295 - reg 4294967295 l
theorem step_lt {n : Nat} (h : n < 4294967296) : step n < 4294967296 := by
  unfold step
  have h1 : n >>> 1 < 2 ^ 32 := by rw [Nat.shiftRight_eq_div_pow]; omega
  have h2 : (n &&& 1) * 2197175160 < 2 ^ 32 := by rw [Nat.and_one_is_mod]; have := Nat.mod_lt n (y := 2) (by omega); omega
  exact Nat.xor_lt_two_pow h1 h2
theorem steps_lt {n : Nat} (h : n < 4294967296) : ∀ k, steps k n < 4294967296
  | 0 => h
  | k + 1 => step_lt (steps_lt h k)
theorem step_xor (a b : Nat) : step (a ^^^ b) = step a ^^^ step b := by
  unfold step
  have e : ((a ^^^ b) &&& 1) * 2197175160 = ((a &&& 1) * 2197175160) ^^^ ((b &&& 1) * 2197175160) := by
    rw [Nat.and_xor_distrib_right, Nat.and_one_is_mod, Nat.and_one_is_mod]
    rcases Nat.mod_two_eq_zero_or_one a with h | h <;> rcases Nat.mod_two_eq_zero_or_one b with g | g <;> rw [h, g] <;> simp
  rw [Nat.shiftRight_xor_distrib, e]
  simp only [Nat.xor_assoc]
  congr 1
  rw [← Nat.xor_assoc, ← Nat.xor_assoc, Nat.xor_comm (b >>> 1)]
theorem steps_xor (a b : Nat) : ∀ k, steps k (a ^^^ b) = steps k a ^^^ steps k b
  | 0 => rfl
  | k + 1 => by simp only [steps, steps_xor a b k, step_xor]
theorem step_zero {d : Nat} (h : d < 4294967296) (h0 : step d = 0) : d = 0 := by
  unfold step at h0
  have e : d >>> 1 = (d &&& 1) * 2197175160 := by
    have h1 := congrArg (fun x => x ^^^ ((d &&& 1) * 2197175160)) h0
    simpa [Nat.xor_assoc] using h1
  rw [Nat.and_one_is_mod, Nat.shiftRight_eq_div_pow] at e
  omega
theorem steps_zero : ∀ (k : Nat) {d : Nat}, d < 4294967296 → steps k d = 0 → d = 0
  | 0, _, _, h0 => h0
  | k + 1, _, h, h0 => steps_zero k h (step_zero (steps_lt h k) h0)
theorem steps_inj {k a b : Nat} (ha : a < 4294967296) (hb : b < 4294967296) (h : steps k a = steps k b) : a = b := by
  have h0 : steps k (a ^^^ b) = 0 := by rw [steps_xor, h, Nat.xor_self]
  have := steps_zero k (Nat.xor_lt_two_pow (n := 32) ha hb) h0
  have h1 := congrArg (fun x => x ^^^ b) this
  simpa [Nat.xor_assoc] using h1
theorem steps_add (j : Nat) (n : Nat) : ∀ k, steps (k + j) n = steps k (steps j n)
  | 0 => by rw [Nat.zero_add]; rfl
  | k + 1 => by rw [show k + 1 + j = (k + j) + 1 from by omega]; simp only [steps, steps_add j n k]
theorem byte_lt (c : UInt8) : c.toNat < 256 := c.toNat_lt
theorem crcB_lt {n : Nat} (c : UInt8) (h : n < 4294967296) : crcB n c < 4294967296 :=
  steps_lt (Nat.xor_lt_two_pow (n := 32) h (by have := byte_lt c; omega)) 8
theorem reg_lt : ∀ (l : List UInt8) {n : Nat}, n < 4294967296 → reg n l < 4294967296
  | [], _, h => h
  | c :: l, _, h => reg_lt l (crcB_lt c h)
theorem reg_append (n : Nat) (a b : List UInt8) : reg n (a ++ b) = reg (reg n a) b := List.foldl_append ..
theorem crcB_inj {n m : Nat} (c : UInt8) (hn : n < 4294967296) (hm : m < 4294967296) (h : crcB n c = crcB m c) : n = m := by
  have hb := byte_lt c
  have := steps_inj (Nat.xor_lt_two_pow (n := 32) hn (by omega)) (Nat.xor_lt_two_pow (n := 32) hm (by omega)) h
  have h1 := congrArg (fun x => x ^^^ c.toNat) this
  simpa [Nat.xor_assoc] using h1
theorem reg_inj : ∀ (l : List UInt8) {n m : Nat}, n < 4294967296 → m < 4294967296 → reg n l = reg m l → n = m
  | [], _, _, _, _, h => h
  | c :: l, _, _, hn, hm, h => crcB_inj c hn hm (reg_inj l (crcB_lt c hn) (crcB_lt c hm) h)
theorem steps8_byte (b : Nat) (h : b < 256) : steps 8 (b * 256) = b := by
  have e : ∀ n, n % 2 = 0 → step n = n / 2 := by
    intro n hn
    unfold step
    rw [Nat.and_one_is_mod, hn, Nat.shiftRight_eq_div_pow]
    simp
  have e1 : ∀ m, step (m * 2) = m := fun m => by rw [e _ (by omega)]; omega
  rw [show b * 256 = b * 2 * 2 * 2 * 2 * 2 * 2 * 2 * 2 from by omega]
  simp only [steps, e1]
/-- Two bytes side by side that were spoilt are seen. -/
theorem reg_two {n : Nat} (h : n < 4294967296) (x y a b : UInt8) (hab : a ≠ 0) : reg n [x ^^^ a, y ^^^ b] ≠ reg n [x, y] := by
  intro e
  simp only [reg, List.foldl_cons, List.foldl_nil, crcB] at e
  have ha := byte_lt a; have hb := byte_lt b; have hx := byte_lt x; have hy := byte_lt y
  have hnx : n ^^^ x.toNat < 4294967296 := Nat.xor_lt_two_pow (n := 32) h (by omega)
  have e1 := steps_inj (Nat.xor_lt_two_pow (n := 32) (steps_lt (Nat.xor_lt_two_pow (n := 32) h (by have := byte_lt (x ^^^ a); omega)) 8) (by have := byte_lt (y ^^^ b); omega)) (Nat.xor_lt_two_pow (n := 32) (steps_lt hnx 8) (by omega)) e
  rw [UInt8.toNat_xor, UInt8.toNat_xor, ← Nat.xor_assoc n, steps_xor] at e1
  have e2 : steps 8 a.toNat = b.toNat := by
    have h1 := congrArg (fun z => steps 8 (n ^^^ x.toNat) ^^^ z ^^^ y.toNat ^^^ b.toNat) e1
    have l1 : steps 8 (n ^^^ x.toNat) ^^^ (steps 8 (n ^^^ x.toNat) ^^^ steps 8 a.toNat ^^^ (y.toNat ^^^ b.toNat)) ^^^ y.toNat ^^^ b.toNat = steps 8 a.toNat := by
      generalize steps 8 (n ^^^ x.toNat) = p; generalize steps 8 a.toNat = q; generalize y.toNat = r; generalize b.toNat = s
      rw [Nat.xor_assoc p q, ← Nat.xor_assoc p p, Nat.xor_self, Nat.zero_xor, Nat.xor_assoc, Nat.xor_assoc q, Nat.xor_self, Nat.xor_zero]
    have l2 : steps 8 (n ^^^ x.toNat) ^^^ (steps 8 (n ^^^ x.toNat) ^^^ y.toNat) ^^^ y.toNat ^^^ b.toNat = b.toNat := by
      generalize steps 8 (n ^^^ x.toNat) = p; generalize y.toNat = r; generalize b.toNat = s
      rw [← Nat.xor_assoc p p, Nat.xor_self, Nat.zero_xor, Nat.xor_self, Nat.zero_xor]
    rw [l1, l2] at h1
    exact h1
  rw [← steps8_byte b.toNat hb] at e2
  have e3 := steps_inj (by omega) (by omega) e2
  have : a.toNat ≠ 0 := by
    intro h0; apply hab; exact UInt8.toNat_inj.1 (by simpa using h0)
  omega
theorem reg_one {n : Nat} (h : n < 4294967296) (x a : UInt8) (hab : a ≠ 0) : reg n [x ^^^ a] ≠ reg n [x] := by
  intro e
  apply reg_two h x 0 a 0 hab
  have := congrArg (fun m => crcB m 0) e
  simpa [reg] using this
/-- The last byte of what is summed, and the sum's own first byte. -/
theorem reg_edge {n : Nat} (h : n < 4294967296) (x a b : UInt8) (hab : a ≠ 0) : reg n [x ^^^ a] ≠ reg n [x] ^^^ b.toNat := by
  intro e
  apply reg_two h x 0 a b hab
  simp only [reg, List.foldl_cons, List.foldl_nil] at e ⊢
  rw [e]
  unfold crcB
  congr 1
  rw [UInt8.toNat_xor]
  simp [Nat.xor_assoc]
end Lg
end Go.Proofs.Ytefbfkbmkajknaa
