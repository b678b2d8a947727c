/- date: the plain law of Print and Parse. -/
import Derived.Test.YthhhlaoiampinaaDoorBase
import Derived.Test.YthhhlaoiampinaaDoorDateMath
import Derived.Lib.ItoaNum
namespace Go.Proofs.YthhhlaoiampinaaDoor
open Go.RowKit
namespace Dt
def dg (n : Nat) : UInt8 := UInt8.ofNat (48 + n)
def d2 (n : Nat) : List UInt8 := [dg (n / 10), dg (n % 10)]
def d4 (n : Nat) : List UInt8 := [dg (n / 1000), dg (n / 100 % 10), dg (n / 10 % 10), dg (n % 10)]
def days7 : List UInt8 := [84, 104, 117, 70, 114, 105, 83, 97, 116, 83, 117, 110, 77, 111, 110, 84, 117, 101, 87, 101, 100]
def months12 : List UInt8 := [74, 97, 110, 70, 101, 98, 77, 97, 114, 65, 112, 114, 77, 97, 121, 74, 117, 110, 74, 117, 108, 65, 117, 103, 83, 101, 112, 79, 99, 116, 78, 111, 118, 68, 101, 99]
def wd (k : Nat) : List UInt8 := (days7.drop (k * 3)).take 3
def mo (m : Nat) : List UInt8 := (months12.drop (3 * m - 3)).take 3
/-- The text of a day and a time of that day. -/
def textD (k d m y s : Nat) : List UInt8 :=
  wd k ++ ([44, 32] ++ (d2 d ++ ([32] ++ (mo m ++ ([32] ++ (d4 y ++ ([32] ++ (d2 (s / 3600) ++ ([58] ++ (d2 (s / 60 % 60) ++ ([58] ++ (d2 (s % 60) ++ [32, 71, 77, 84]))))))))))))
def printD (n : Nat) : List UInt8 := textD (n / 86400 % 7) (Cal.cd ((n / 86400 : Nat) : Int)).toNat (Cal.cm ((n / 86400 : Nat) : Int)).toNat (Cal.cy ((n / 86400 : Nat) : Int)).toNat (n % 86400)
theorem dec2 (n : Nat) (h : n < 100) : (if n < 10 then 48 :: Lib.decDigits n else Lib.decDigits n) = d2 n := by
  unfold d2 dg
  by_cases h1 : n < 10
  · rw [if_pos h1, Lib.decDigits, dif_pos h1, show n / 10 = 0 from by omega, show n % 10 = n from by omega]; rfl
  · rw [if_neg h1, Lib.decDigits, dif_neg h1, Lib.decDigits, dif_pos (by omega)]; rfl
theorem dec4 (n : Nat) (h0 : 1000 ≤ n) (h : n < 10000) : Lib.decDigits n = d4 n := by
  unfold d4 dg
  rw [Lib.decDigits, dif_neg (by omega), Lib.decDigits, dif_neg (by omega), Lib.decDigits, dif_neg (by omega), Lib.decDigits, dif_pos (by omega)]
  rw [show n / 10 / 10 = n / 100 from by omega, show n / 100 / 10 = n / 1000 from by omega]
  rfl
theorem d2_len (n : Nat) : (d2 n).length = 2 := rfl
theorem d4_len (n : Nat) : (d4 n).length = 4 := rfl
theorem wd_len (k : Nat) (h : k < 7) : (wd k).length = 3 := by
  have : ∀ k : Fin 7, (wd k.val).length = 3 := by decide
  exact this ⟨k, h⟩
theorem mo_len (m : Nat) (h : 1 ≤ m ∧ m ≤ 12) : (mo m).length = 3 := by
  have : ∀ m : Fin 13, 1 ≤ m.val → (mo m.val).length = 3 := by decide
  exact this ⟨m, by omega⟩ h.1
theorem textD_len (k d m y s : Nat) (hk : k < 7) (hm : 1 ≤ m ∧ m ≤ 12) : (textD k d m y s).length = 29 := by
  unfold textD
  simp only [List.length_append, wd_len k hk, mo_len m hm, d2_len, d4_len, List.length_cons, List.length_nil]
/-- Number of digits, or none. -/
def num : List UInt8 → Nat → Option Nat
  | [], n => some n
  | c :: l, n => if 48 ≤ c ∧ c ≤ 57 then num l (10 * n + (c.toNat - 48)) else none
end Dt
end Go.Proofs.YthhhlaoiampinaaDoor
